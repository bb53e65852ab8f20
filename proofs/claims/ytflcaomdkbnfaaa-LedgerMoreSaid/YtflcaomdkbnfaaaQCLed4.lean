/- Laws of ledger: begin, awake, Notes, Finds, Checks. -/
import Derived.Test.YtflcaomdkbnfaaaQCLed3
set_option maxRecDepth 100000
namespace Go.Sal
open Go.Vse Go.Sal.Nm

def x_cel (S : SState) (t : Nat) : Nat := match S.get t with
  | .sv (.ref (.cell l _ _)) => l
  | _ => 0
def deedOf (a : Act) : Deed := (a.2.2.1, a.2.2.2.1, a.2.2.2.2.1, a.2.2.2.2.2.1, a.2.2.2.2.2.2.1, a.2.2.2.2.2.2.2.1, a.2.2.2.2.2.2.2.2.1)
abbrev T_A2 : T := .pair .i64 (.pair .i64 (.pair .i64 (.pair T_Dig (.pair .i64 (.pair .i64 (.pair .i64 (.pair T_Dig (.pair T_Dig (.pair (.slc .u8) (.pair .i64 T_Told))))))))))
def restA (a : Act) : T_A2.den := a.2.2.2.2.2.2.2.2.2
def shownOf (a : Act) : Shown := ((restA a).1, (restA a).2.1, (restA a).2.2.1, (restA a).2.2.2.1, (restA a).2.2.2.2.1, (restA a).2.2.2.2.2.1, (restA a).2.2.2.2.2.2.1, (restA a).2.2.2.2.2.2.2.1, (restA a).2.2.2.2.2.2.2.2.1, (restA a).2.2.2.2.2.2.2.2.2.1, (restA a).2.2.2.2.2.2.2.2.2.2.1)
def toldOf (a : Act) : Told := (restA a).2.2.2.2.2.2.2.2.2.2.2
structure LedS where
  ws : List Noted
  first : Firsts
  ms : List Mark
  at_ : Int
def actL (s : LedS) (a : Act) : LedS :=
  bif !smallV a then s else
  bif a.1 then ⟨s.ws, s.first, tellM s.ms s.at_ (toldOf a), laterA s.at_ (toldOf a).1⟩ else
  ⟨noteW s.ws s.at_ a.2.1 (deedOf a) (shownOf a), noteF s.ws s.first s.at_ a.2.1 (deedOf a) (shownOf a), s.ms, laterA s.at_ a.2.1⟩
def actsL (l : List Act) : LedS := l.foldl actL ⟨[], [], [], 0⟩
def ledOf (l : List Act) : LedS := actsL (l.take 60)
def x_L (s : LedS) : T_L := (s.ws, s.first, s.ms, s.at_, ())
def x_Q (s : LedS) : T_Q := (s.ws, s.ms, s.at_, ())
def c_begin : PC := gF [.slc T_Act] fun x => ⟨none, .tup [.ref (.cell 1 [] 0), .ref (.cell 30 [] 0), .dv (.bool true)], app (oAt T_fsL 1 12 (x_L (ledOf x.1))) (oAt T_fsQ 30 31 (x_Q (ledOf x.1)))⟩
def x_gB (l : List Act) : GRes := ⟨none, .tup [.ref (.cell 1 [] 0), .ref (.cell 30 [] 0), .dv (.bool true)], app (oAt T_fsL 1 12 (x_L (ledOf l))) (oAt T_fsQ 30 31 (x_Q (ledOf l)))⟩
def an_beginL (l : List Act) : Nat → SState → Option LoopAnn
  | 5, S => some { X := Nat, slots := fun k => [(7, .sv (.dv (.i64 (ofN k))))], objs := fun k => (0, .gone) :: app (oAt T_fsL (x_cel S 5) 12 (x_L (actsL (l.take k)))) (oAt T_fsQ (x_cel S 6) 22 (x_Q (actsL (l.take k)))), inv := fun k => k ≤ l.length ∧ k ≤ 60, meas := fun k => 60 - k }
  | _, _ => none
def an_begin (l : List Act) : Ann := { at_ := an_beginL l, prune := 1 }
def c_awake24 : PC := D [] [.bool] (fun _ => none) (fun _ => (true, ()))
def an_awake : Ann := { at_ := fun _ _ => none, prune := 1 }
def an_some24L (l : Cats) : Nat → SState → Option LoopAnn
  | 3, S => some { X := Nat, slots := fun i => [(3, .sv (.own 10 (.slc T_Rec) (someC (l.take i)))), (4, .sv (.dv (.i64 i)))], objs := fun _ => [(x_tok S 3, .gone), (10, .tok 35 1)], inv := fun i => i ≤ l.length ∧ i ≤ 4, meas := fun i => 4 - i }
  | _, _ => none
def an_some24 (l : Cats) : Ann := { at_ := an_some24L l, prune := 0 }
def x_bool (S : SState) (t : Nat) : Bool := match S.get t with
  | .sv (.dv (.bool b)) => b
  | _ => false
def anyK (x : Brc) (b : List Brc) (k : Nat) : Bool := (b.take k).any fun y => decide (x = y)
def an_withinL (a b : List Brc) : Nat → SState → Option LoopAnn
  | 2, S => some { X := Nat, slots := fun i => [(5, .sv (.dv (.i64 (ofN i))))], objs := fun _ => [], inv := fun i => i ≤ a.length ∧ withinV (a.take i) b = true, meas := fun i => a.length - i }
  | 6, S => some { X := Nat, slots := fun k => [(7, .sv (.dv (.i64 (ofN k)))), (6, .sv (.dv (.bool (anyK (a.getD (x_int S 5).toNat T_Brc.dflt) b k))))], objs := fun _ => [], inv := fun k => k ≤ b.length, meas := fun k => b.length - k }
  | _, _ => none
def an_within (a b : List Brc) : Ann := { at_ := an_withinL a b, prune := 0 }
def c_law24 (ts : List T) : PC := D ts [.bool] (fun _ => none) (fun _ => (true, ()))
def an_NotesL (l : List Act) : Nat → SState → Option LoopAnn
  | 8, S => some { X := Nat, slots := fun k => [(8, .sv (.dv (.i64 (ofN k))))], objs := fun _ => [], inv := fun k => k ≤ (ledOf l).ws.length, meas := fun k => (ledOf l).ws.length - k }
  | 13, S => some { X := Nat, slots := fun k => [(9, .sv (.dv (.i64 (ofN k))))], objs := fun _ => [], inv := fun k => k ≤ (ledOf l).ms.length, meas := fun k => (ledOf l).ms.length - k }
  | _, _ => none
def an_Notes (l : List Act) : Ann := { at_ := an_NotesL l, prune := 1 }
def an_law24 : Ann := { at_ := fun _ _ => none, prune := 1 }

--@@proofs

theorem law24_some_vc (l : Cats) :
    (∃ (x : Nat), (x ≤ List.length l ∧ x ≤ 4) ∧ someC (List.take x l) = nilOf (List (Int × Int × List (BitVec 8) × Int × Int × List (BitVec 8) × List (List (BitVec 8) × Int))) ∧ 0 = ofN x) ∧
      ∀ (x : Nat),
      x ≤ List.length l ∧ x ≤ 4 →
      ((decide (ofN x < ofN (List.length l)) && decide (ofN x < 4)) = true →
      within (ofN x) (List.length l) ∧
      List.length (someC (List.take x l)) +
      List.length
      [fewT 30
      (List.getD l (Int.toNat (ofN x))
      (T.dflt (T.slc T_Rec)))] ≤
      ROOM ∧
      inI64 (ofN x + 1) ∧
      ∃ (x' : Nat),
      (x' ≤ List.length l ∧ x' ≤ 4) ∧
      4 - x' < 4 - x ∧
      someC (List.take x l) ++
      [fewT 30
      (List.getD l (Int.toNat (ofN x))
      (T.dflt (T.slc T_Rec)))] =
      someC (List.take x' l) ∧
      ofN x + 1 = ofN x') ∧
      ((decide (ofN x < ofN (List.length l)) && decide (ofN x < 4)) = false → someC (List.take x l) = someC l) := by
  refine ⟨⟨0, ⟨Nat.zero_le _, by omega⟩, rfl, rfl⟩, fun x hx => ⟨fun q => ?_, fun q => ?_⟩⟩
  · rw [Bool.and_eq_true] at q
    have hlt : x < l.length := ltN q.1
    have h4 : x < 4 := ltN (n := 4) q.2
    rw [show Int.toNat (ofN x) = x from rfl, show T.dflt (T.slc T_Rec) = ([] : List Rec) from rfl]
    refine ⟨wN hlt, ?_, inN (by omega), x + 1, ⟨hlt, h4⟩, by omega, ?_, rfl⟩
    · unfold someC
      rw [List.length_map, List.length_take, List.length_take]
      show _ + 1 ≤ ROOM
      unfold ROOM; omega
    · unfold someC
      rw [take_snoc' (d := ([] : List Rec)) hlt, List.take_append, List.map_append]
      have e1 : (l.take x).take 4 = l.take x := List.take_of_length_le (by rw [List.length_take]; omega)
      have e2 : List.take (4 - (l.take x).length) [l.getD x []] = [l.getD x []] := List.take_of_length_le (by rw [List.length_take]; show 1 ≤ _; omega)
      rw [e1, e2]; rfl
  · rw [Bool.and_eq_false_iff] at q
    unfold someC
    rw [List.take_take]
    rcases q with q | q
    · have := geN q
      rw [List.take_of_length_le (by omega : l.length ≤ min 4 x)]
      by_cases h : l.length ≤ 4
      · rw [List.take_of_length_le h]
      · omega
    · have := geN (n := 4) q
      rw [show min 4 x = 4 by omega]

theorem eqB3 (u v : Brc) : (u.1 == v.1 && (u.2.1 == v.2.1 && u.2.2 == v.2.2)) = decide (u = v) := by
  rw [Bool.eq_iff_iff]; simp only [Bool.and_eq_true, beq_iff_eq, decide_eq_true_eq, Prod.ext_iff]

theorem law24_within_vc (a b : List Brc) (ha : a.length ≤ LIM) (hb : b.length ≤ LIM) :
    (∃ (x : Nat), (x ≤ List.length a ∧ withinV (List.take x a) b = true) ∧ 0 = ofN x) ∧
      ∀ (x : Nat),
      x ≤ List.length a ∧ withinV (List.take x a) b = true →
      (decide (ofN x < ofN (List.length a)) = true →
      (∃ (x_1 : Nat), x_1 ≤ List.length b ∧ 0 = ofN x_1 ∧ false = anyK (List.getD a (Int.toNat (ofN x)) (T.dflt T_Brc)) b x_1) ∧
      ∀ (x_1 : Nat),
      x_1 ≤ List.length b →
      (decide (ofN x_1 < ofN (List.length b)) = true →
      (anyK (List.getD a (Int.toNat (ofN x)) (T.dflt T_Brc)) b x_1 = false → within (ofN x) (List.length a)) ∧
      (anyK (List.getD a (Int.toNat (ofN x)) (T.dflt T_Brc)) b x_1 = false → within (ofN x_1) (List.length b)) ∧
      inI64 (ofN x_1 + 1) ∧
      ∃ (x' : Nat),
      x' ≤ List.length b ∧
      List.length b - x' < List.length b - x_1 ∧
      ofN x_1 + 1 = ofN x' ∧
      (anyK (List.getD a (Int.toNat (ofN x)) (T.dflt T_Brc)) b x_1 ||
      (List.getD a (Int.toNat (ofN x)) (T.dflt T_Brc)).1 ==
      (List.getD b (Int.toNat (ofN x_1)) (T.dflt T_Brc)).1 &&
      ((List.getD a (Int.toNat (ofN x)) (T.dflt T_Brc)).2.1 ==
      (List.getD b (Int.toNat (ofN x_1)) (T.dflt T_Brc)).2.1 &&
      (List.getD a (Int.toNat (ofN x)) (T.dflt T_Brc)).2.2 ==
      (List.getD b (Int.toNat (ofN x_1)) (T.dflt T_Brc)).2.2)) =
      anyK (List.getD a (Int.toNat (ofN x)) (T.dflt T_Brc)) b x') ∧
      (decide (ofN x_1 < ofN (List.length b)) = false →
      ((!anyK (List.getD a (Int.toNat (ofN x)) (T.dflt T_Brc)) b x_1) = true → false = withinV a b) ∧
      ((!anyK (List.getD a (Int.toNat (ofN x)) (T.dflt T_Brc)) b x_1) = false →
      inI64 (ofN x + 1) ∧ ∃ (x' : Nat), (x' ≤ List.length a ∧ withinV (List.take x' a) b = true) ∧ List.length a - x' < List.length a - x ∧ ofN x + 1 = ofN x'))) ∧
      (decide (ofN x < ofN (List.length a)) = false → true = withinV a b) := by
  unfold LIM at ha hb
  refine ⟨⟨0, ⟨Nat.zero_le _, rfl⟩, rfl⟩, fun x hx => ⟨fun q => ?_, fun q => ?_⟩⟩
  · have hlt : x < a.length := ltN q
    have ts := take_snoc' (d := T_Brc.dflt) hlt
    rw [show Int.toNat (ofN x) = x from rfl]
    generalize hy : a.getD x T_Brc.dflt = y at ts ⊢
    refine ⟨⟨0, Nat.zero_le _, rfl, rfl⟩, fun k hk => ⟨fun q2 => ?_, fun q2 => ?_⟩⟩
    · have hk2 : k < b.length := ltN q2
      rw [show Int.toNat (ofN k) = k from rfl, eqB3]
      refine ⟨fun _ => wN hlt, fun _ => wN hk2, inN (by omega), k + 1, hk2, by omega, rfl, ?_⟩
      unfold anyK
      rw [take_snoc' (d := T_Brc.dflt) hk2, List.any_append]
      simp only [List.any_cons, List.any_nil, Bool.or_false]
    · have hk2 : k = b.length := by have := geN q2; omega
      subst hk2
      have hA : anyK y b b.length = b.any fun z => decide (y = z) := by unfold anyK; rw [List.take_of_length_le (Nat.le_refl _)]
      rw [hA]
      refine ⟨fun q3 => ?_, fun q3 => ⟨inN (by omega), x + 1, ⟨hlt, ?_⟩, by omega, rfl⟩⟩
      · have q3 : (b.any fun z => decide (y = z)) = false := by simpa using q3
        symm
        unfold withinV
        rw [List.all_eq_false]
        refine ⟨y, ?_, by rw [q3]; decide⟩
        rw [← hy]; exact getD_mem' _ hlt
      · have q3 : (b.any fun z => decide (y = z)) = true := by simpa using q3
        rw [ts]
        unfold withinV at hx ⊢
        rw [List.all_append, hx.2, Bool.true_and]
        simp only [List.all_cons, List.all_nil, Bool.and_true]
        exact q3
  · have hx2 : x = a.length := by have := geN q; omega
    subst hx2
    have := hx.2
    rw [List.take_of_length_le (Nat.le_refl _)] at this
    exact this.symm

theorem mgetG_eq (kt : T) {v : Type} (p : kt.den × v) (r : List (kt.den × v)) : mget kt (p :: r) p.1 = some p.2 := by
  rw [mget, @decide_eq_true (p.1 = p.1) (kt.deq p.1 p.1) rfl]; rfl
theorem mgetG_ne (kt : T) {v : Type} (p : kt.den × v) (r : List (kt.den × v)) {x : kt.den} (h : x ≠ p.1) : mget kt (p :: r) x = mget kt r x := by
  rw [mget, @decide_eq_false (x = p.1) (kt.deq x p.1) h]; rfl
theorem mputG_hit (kt : T) {v : Type} (p : kt.den × v) (r : List (kt.den × v)) {x : kt.den} (y : v) (h : x = p.1) : mput kt (p :: r) x y = (p.1, y) :: r := by
  rw [mput, @decide_eq_true (x = p.1) (kt.deq x p.1) h]; rfl
theorem mputG_on (kt : T) {v : Type} (p : kt.den × v) (r : List (kt.den × v)) {x : kt.den} (y : v) (h : x ≠ p.1) : mput kt (p :: r) x y = p :: mput kt r x y := by
  rw [mput, @decide_eq_false (x = p.1) (kt.deq x p.1) h]; rfl
theorem keyEm (kt : T) (x y : kt.den) : x = y ∨ x ≠ y := by
  haveI := kt.deq
  exact Decidable.em _
theorem mputG_eq (kt : T) {v : Type} (x : kt.den) (y : v) : ∀ l : List (kt.den × v), mget kt (mput kt l x y) x = some y
  | [] => mgetG_eq kt (x, y) []
  | p :: r => by
    rcases keyEm kt x p.1 with h | h
    · rw [mputG_hit kt p r y h, h]; exact mgetG_eq kt (p.1, y) r
    · rw [mputG_on kt p r y h, mgetG_ne kt p _ h, mputG_eq kt x y r]
theorem mputG_ne (kt : T) {v : Type} {x z : kt.den} (y : v) (hz : z ≠ x) : ∀ l : List (kt.den × v), mget kt (mput kt l x y) z = mget kt l z
  | [] => mgetG_ne kt (x, y) [] hz
  | p :: r => by
    rcases keyEm kt x p.1 with h | h
    · rw [mputG_hit kt p r y h, mgetG_ne kt (p.1, y) r (h ▸ hz), mgetG_ne kt p r (h ▸ hz)]
    · rw [mputG_on kt p r y h]
      rcases keyEm kt z p.1 with h2 | h2
      · rw [h2, mgetG_eq, mgetG_eq]
      · rw [mgetG_ne kt p _ h2, mgetG_ne kt p _ h2, mputG_ne kt y hz r]

/-- the map tells each head's first write -/
def firstAt (ws : List Noted) (first : Firsts) (h : HeadT) : Prop := match mget T_Head first h with
  | some k => 0 ≤ k ∧ k < (ws.length : Int) ∧ isH h (ws.getD k.toNat T_Noted.dflt) = true ∧ ∀ j, j < k.toNat → isH h (ws.getD j T_Noted.dflt) = false
  | none => ∀ j, j < ws.length → isH h (ws.getD j T_Noted.dflt) = false
structure LedOk (s : LedS) (n : Nat) : Prop where
  wl : s.ws.length ≤ n
  ml : s.ms.length ≤ n
  bl : ∀ w ∈ s.ws, w.2.2.2.2.2.2.1.length ≤ 2000
  fst : ∀ h, firstAt s.ws s.first h
theorem getDA {α : Type} (l : List α) (x d : α) {j : Nat} (h : j < l.length) : (l ++ [x]).getD j d = l.getD j d := by
  rw [List.getD_eq_getElem?_getD, List.getD_eq_getElem?_getD, List.getElem?_append_left h]
theorem getDB {α : Type} (l : List α) (x d : α) : (l ++ [x]).getD l.length d = x := by simp [List.getD_eq_getElem?_getD]
theorem firstAt_old {ws : List Noted} {first : Firsts} {h : HeadT} {w : Noted} (hf : firstAt ws first h) (hs : isH h w = false ∨ (mget T_Head first h).isSome = true) : firstAt (ws ++ [w]) first h := by
  unfold firstAt at hf ⊢
  cases hm : mget T_Head first h with
  | some k =>
    rw [hm] at hf
    obtain ⟨a, b, c, d⟩ := hf
    refine ⟨a, by rw [List.length_append]; show k < ((ws.length + 1 : Nat) : Int); omega, ?_, fun j hj => ?_⟩
    · rw [getDA _ _ _ (by omega)]; exact c
    · rw [getDA _ _ _ (by omega)]; exact d j hj
  | none =>
    rw [hm] at hf hs
    intro j hj
    rw [List.length_append] at hj
    have hj : j < ws.length + 1 := hj
    by_cases hj2 : j < ws.length
    · rw [getDA _ _ _ hj2]; exact hf j hj2
    · obtain rfl : j = ws.length := by omega
      rw [getDB]
      rcases hs with hs | hs
      · exact hs
      · cases hs
theorem firstAt_new {ws : List Noted} {first : Firsts} {h : HeadT} {w : Noted} (hf : firstAt ws first h) (hn : mget T_Head first h = none) (hw : isH h w = true) : firstAt (ws ++ [w]) (mput T_Head first h ws.length) h := by
  unfold firstAt at hf ⊢
  rw [hn] at hf
  rw [mputG_eq T_Head h (ws.length : Int) first]
  refine ⟨by omega, by rw [List.length_append]; show (ws.length : Int) < ((ws.length + 1 : Nat) : Int); omega, ?_, fun j hj => ?_⟩
  · rw [Int.toNat_natCast, getDB]; exact hw
  · rw [Int.toNat_natCast] at hj
    rw [getDA _ _ _ hj]; exact hf j hj
theorem firstAt_put {ws : List Noted} {first : Firsts} {h g : HeadT} {w : Noted} (hf : firstAt ws first h) (hg : h ≠ g) (hw : isH h w = false) : firstAt (ws ++ [w]) (mput T_Head first g ws.length) h := by
  have := firstAt_old hf (.inl hw)
  unfold firstAt at this ⊢
  rw [mputG_ne T_Head _ hg first]
  exact this
theorem act_ok {s : LedS} {n : Nat} (hs : LedOk s n) (a : Act) : LedOk (actL s a) (n + 1) := by
  unfold actL
  cases hsm : smallV a with
  | false => exact ⟨Nat.le_succ_of_le hs.wl, Nat.le_succ_of_le hs.ml, hs.bl, hs.fst⟩
  | true =>
    simp only [Bool.not_true, cond_false]
    cases a.1 with
    | true =>
      refine ⟨Nat.le_succ_of_le hs.wl, ?_, hs.bl, hs.fst⟩
      show (tellM s.ms s.at_ (toldOf a)).length ≤ n + 1
      unfold tellM
      have := hs.ml
      cases (!decide ((toldOf a).1 < s.at_) && (toldOf a).2.2.1 == 1) with
      | true => simp only [cond_true, List.length_append, List.length_cons, List.length_nil]; omega
      | false => simp only [cond_false]; omega
    | false =>
      simp only [cond_false]
      have hwl := hs.wl
      refine ⟨?_, Nat.le_succ_of_le hs.ml, ?_, fun h => ?_⟩
      · show (noteW s.ws s.at_ a.2.1 (deedOf a) (shownOf a)).length ≤ n + 1
        unfold noteW
        cases putsV s.at_ a.2.1 (deedOf a) (shownOf a) with
        | true => simp only [cond_true, List.length_append, List.length_cons, List.length_nil]; omega
        | false => simp only [cond_false]; omega
      · show ∀ w ∈ noteW s.ws s.at_ a.2.1 (deedOf a) (shownOf a), _
        unfold noteW
        intro w hw
        cases hp : putsV s.at_ a.2.1 (deedOf a) (shownOf a) with
        | false => rw [hp] at hw; exact hs.bl w hw
        | true =>
          rw [hp] at hw
          rcases List.mem_append.1 hw with hw | hw
          · exact hs.bl w hw
          · rw [List.mem_singleton] at hw
            subst hw
            show (bif (deedOf a).1 == 2 then [] else (deedOf a).2.2.2.1).length ≤ 2000
            unfold smallV at hsm
            rw [Bool.and_eq_true, decide_eq_true_eq, decide_eq_true_eq] at hsm
            have h2 : (deedOf a).2.2.2.1.length ≤ 2000 := by
              have := hsm.1
              show a.2.2.2.2.2.1.length ≤ 2000
              omega
            cases ((deedOf a).1 == 2) with
            | true => exact Nat.zero_le _
            | false => exact h2
      · show firstAt (noteW s.ws s.at_ a.2.1 (deedOf a) (shownOf a)) (noteF s.ws s.first s.at_ a.2.1 (deedOf a) (shownOf a)) h
        unfold noteW noteF
        cases hp : putsV s.at_ a.2.1 (deedOf a) (shownOf a) with
        | false => exact hs.fst h
        | true =>
          simp only [cond_true, Bool.true_and]
          have hH : ∀ g, isH g (notedV a.2.1 (deedOf a) (shownOf a)) = decide (headS (shownOf a) = g) := fun g => rfl
          cases hm : (mget T_Head s.first (headS (shownOf a))).isSome with
          | true =>
            simp only [Bool.not_true, cond_false]
            by_cases e : headS (shownOf a) = h
            · exact firstAt_old (hs.fst h) (.inr (e ▸ hm))
            · exact firstAt_old (hs.fst h) (.inl (by rw [hH]; exact decide_eq_false e))
          | false =>
            simp only [Bool.not_false, cond_true]
            by_cases e : headS (shownOf a) = h
            · rw [e]
              refine firstAt_new (hs.fst h) ?_ (by rw [hH]; exact decide_eq_true e)
              rw [e] at hm
              exact Option.not_isSome_iff_eq_none.1 (by rw [hm]; decide)
            · exact firstAt_put (hs.fst h) (fun q => e q.symm) (by rw [hH]; exact decide_eq_false e)
theorem actsL_snoc (l : List Act) (a : Act) : actsL (l ++ [a]) = actL (actsL l) a := by unfold actsL; rw [List.foldl_append]; rfl
theorem acts_ok (l : List Act) : LedOk (actsL l) l.length := by
  induction h : l.length generalizing l with
  | zero =>
    have : l = [] := List.length_eq_zero_iff.1 h
    subst this
    exact ⟨Nat.le_refl _, Nat.le_refl _, fun w hw => (by cases hw), fun g j hj => absurd hj (Nat.not_lt_zero _)⟩
  | succ n ih =>
    have hne : l ≠ [] := fun e => by rw [e] at h; cases h
    rw [← List.dropLast_concat_getLast hne, actsL_snoc]
    exact act_ok (ih _ (by rw [List.length_dropLast]; omega)) _
theorem led_ok (l : List Act) : LedOk (ledOf l) 60 := by
  have h := acts_ok (l.take 60)
  have : (l.take 60).length ≤ 60 := by rw [List.length_take]; omega
  exact ⟨Nat.le_trans h.wl this, Nat.le_trans h.ml this, h.bl, h.fst⟩
theorem ok_okW {s : LedS} {n : Nat} (h : LedOk s n) (hn : n ≤ 65536) : okW s.ws := ⟨Nat.le_trans h.wl hn, fun w hw => Nat.le_trans (h.bl w hw) (by omega)⟩
theorem ok_firsts {s : LedS} {n : Nat} (h : LedOk s n) : firstsOk s.ws s.first := fun g k hk => by
  have := h.fst g
  unfold firstAt at this
  rw [hk] at this
  exact ⟨this.1, this.2.1⟩
theorem ok_of {s : LedS} {n : Nat} (h : LedOk s n) : ofV s.ws s.first = rOfV s.ws := by
  funext g
  have := h.fst g
  unfold firstAt at this
  unfold ofV rOfV
  cases hm : mget T_Head s.first g with
  | some k =>
    rw [hm] at this
    obtain ⟨a, b, c, d⟩ := this
    rw [find_at (isH g) T_Noted.dflt s.ws k.toNat (by omega) d c]
  | none =>
    rw [hm] at this
    rw [find_no (isH g) T_Noted.dflt s.ws this]

theorem law24_begin_vc (l : List Act) :
    (false = true → False) ∧
      (false = false →
      (∃ (x : Nat),
      (x ≤ List.length l ∧ x ≤ 60) ∧
      0 = ofN x ∧
      0 = (actsL (List.take x l)).4 ∧
      nilOf (Int × Int × Int × Int × List (BitVec 8) × List (BitVec 8) × List (BitVec 8) × Bool) = (actsL (List.take x l)).1 ∧
      nilOf ((Int × Int × List (BitVec 8)) × Int) = (actsL (List.take x l)).2 ∧
      nilOf (Int × Int × Int × List (BitVec 8) × List (BitVec 8)) = (actsL (List.take x l)).3 ∧
      0 = (actsL (List.take x l)).4 ∧
      (actsL (List.take x l)).1 = nilOf (Int × Int × Int × Int × List (BitVec 8) × List (BitVec 8) × List (BitVec 8) × Bool) ∧
      (actsL (List.take x l)).3 = nilOf (Int × Int × Int × List (BitVec 8) × List (BitVec 8))) ∧
      ∀ (x : Nat),
      x ≤ List.length l ∧ x ≤ 60 →
      ((decide (ofN x < ofN (List.length l)) && decide (ofN x < 60)) = true →
      within (ofN x) (List.length l) ∧
      ((!smallV
      (List.getD l (Int.toNat (ofN x))
      (T.dflt
      T_Act))) =
      true →
      inI64 (ofN x + 1) ∧
      ∃ (x' : Nat),
      (x' ≤ List.length l ∧ x' ≤ 60) ∧
      60 - x' < 60 - x ∧
      ofN x + 1 = ofN x' ∧
      (actsL (List.take x l)).4 = (actsL (List.take x' l)).4 ∧
      (actsL (List.take x l)).1 = (actsL (List.take x' l)).1 ∧
      (actsL (List.take x l)).2 = (actsL (List.take x' l)).2 ∧
      (actsL (List.take x l)).3 = (actsL (List.take x' l)).3 ∧
      (actsL (List.take x l)).4 = (actsL (List.take x' l)).4 ∧
      (actsL (List.take x l)).1 = (actsL (List.take x' l)).1 ∧ (actsL (List.take x l)).3 = (actsL (List.take x' l)).3) ∧
      ((!smallV
      (List.getD l (Int.toNat (ofN x))
      (T.dflt
      T_Act))) =
      false →
      within (ofN x) (List.length l) ∧
      ((List.getD l (Int.toNat (ofN x))
      (T.dflt
      T_Act)).1 =
      true →
      within (ofN x) (List.length l) ∧
      List.length (actsL (List.take x l)).3 ≤ 65536 ∧
      within (ofN x) (List.length l) ∧
      List.length (actsL (List.take x l)).3 ≤ 65536 ∧
      ((laterE (actsL (List.take x l)).4
      (List.getD l (Int.toNat (ofN x))
      (T.dflt
      T_Act)).2.2.2.2.2.2.2.2.2.2.2.2.2.2.2.2.2.2.2.2.1 !=
      laterE (actsL (List.take x l)).4
      (List.getD l (Int.toNat (ofN x))
      (T.dflt
      T_Act)).2.2.2.2.2.2.2.2.2.2.2.2.2.2.2.2.2.2.2.2.1) =
      true →
      False) ∧
      ((laterE (actsL (List.take x l)).4
      (List.getD l (Int.toNat (ofN x))
      (T.dflt
      T_Act)).2.2.2.2.2.2.2.2.2.2.2.2.2.2.2.2.2.2.2.2.1 !=
      laterE (actsL (List.take x l)).4
      (List.getD l (Int.toNat (ofN x))
      (T.dflt
      T_Act)).2.2.2.2.2.2.2.2.2.2.2.2.2.2.2.2.2.2.2.2.1) =
      false →
      inI64 (ofN x + 1) ∧
      ∃ (x' : Nat),
      (x' ≤ List.length l ∧ x' ≤ 60) ∧
      60 - x' < 60 - x ∧
      ofN x + 1 = ofN x' ∧
      laterA (actsL (List.take x l)).4
      (List.getD l (Int.toNat (ofN x))
      (T.dflt
      T_Act)).2.2.2.2.2.2.2.2.2.2.2.2.2.2.2.2.2.2.2.2.1 =
      (actsL (List.take x' l)).4 ∧
      (actsL (List.take x l)).1 = (actsL (List.take x' l)).1 ∧
      (actsL (List.take x l)).2 = (actsL (List.take x' l)).2 ∧
      tellM (actsL (List.take x l)).3 (actsL (List.take x l)).4
      (List.getD l (Int.toNat (ofN x))
      (T.dflt
      T_Act)).2.2.2.2.2.2.2.2.2.2.2.2.2.2.2.2.2.2.2.2 =
      (actsL (List.take x' l)).3 ∧
      laterA (actsL (List.take x l)).4
      (List.getD l (Int.toNat (ofN x))
      (T.dflt
      T_Act)).2.2.2.2.2.2.2.2.2.2.2.2.2.2.2.2.2.2.2.2.1 =
      (actsL (List.take x' l)).4 ∧
      (actsL (List.take x l)).1 = (actsL (List.take x' l)).1 ∧
      tellM (actsL (List.take x l)).3 (actsL (List.take x l)).4
      (List.getD l (Int.toNat (ofN x))
      (T.dflt
      T_Act)).2.2.2.2.2.2.2.2.2.2.2.2.2.2.2.2.2.2.2.2 =
      (actsL (List.take x' l)).3)) ∧
      ((List.getD l (Int.toNat (ofN x))
      (T.dflt
      T_Act)).1 =
      false →
      within (ofN x) (List.length l) ∧
      within (ofN x) (List.length l) ∧
      within (ofN x) (List.length l) ∧
      (List.length (actsL (List.take x l)).1 ≤ 65536 ∧
      List.length
      (List.getD l (Int.toNat (ofN x))
      (T.dflt
      T_Act)).2.2.2.2.2.1 ≤
      65536) ∧
      within (ofN x) (List.length l) ∧
      within (ofN x) (List.length l) ∧
      within (ofN x) (List.length l) ∧
      (List.length (actsL (List.take x l)).1 ≤ 65536 ∧
      List.length
      (List.getD l (Int.toNat (ofN x))
      (T.dflt
      T_Act)).2.2.2.2.2.1 ≤
      65536) ∧
      ((laterE (actsL (List.take x l)).4
      (List.getD l (Int.toNat (ofN x))
      (T.dflt
      T_Act)).2.1 !=
      laterE (actsL (List.take x l)).4
      (List.getD l (Int.toNat (ofN x))
      (T.dflt
      T_Act)).2.1) =
      true →
      False) ∧
      ((laterE (actsL (List.take x l)).4
      (List.getD l (Int.toNat (ofN x))
      (T.dflt
      T_Act)).2.1 !=
      laterE (actsL (List.take x l)).4
      (List.getD l (Int.toNat (ofN x))
      (T.dflt
      T_Act)).2.1) =
      false →
      inI64 (ofN x + 1) ∧
      ∃ (x' : Nat),
      (x' ≤ List.length l ∧ x' ≤ 60) ∧
      60 - x' < 60 - x ∧
      ofN x + 1 = ofN x' ∧
      laterA (actsL (List.take x l)).4
      (List.getD l (Int.toNat (ofN x))
      (T.dflt
      T_Act)).2.1 =
      (actsL (List.take x' l)).4 ∧
      noteW (actsL (List.take x l)).1 (actsL (List.take x l)).4
      (List.getD l (Int.toNat (ofN x))
      (T.dflt
      T_Act)).2.1
      ((List.getD l (Int.toNat (ofN x))
      (T.dflt
      T_Act)).2.2.1,
      (List.getD l (Int.toNat (ofN x))
      (T.dflt
      T_Act)).2.2.2.1,
      (List.getD l (Int.toNat (ofN x))
      (T.dflt
      T_Act)).2.2.2.2.1,
      (List.getD l (Int.toNat (ofN x))
      (T.dflt
      T_Act)).2.2.2.2.2.1,
      (List.getD l (Int.toNat (ofN x))
      (T.dflt
      T_Act)).2.2.2.2.2.2.1,
      (List.getD l (Int.toNat (ofN x))
      (T.dflt
      T_Act)).2.2.2.2.2.2.2.1,
      (List.getD l (Int.toNat (ofN x))
      (T.dflt
      T_Act)).2.2.2.2.2.2.2.2.1)
      ((List.getD l (Int.toNat (ofN x))
      (T.dflt
      T_Act)).2.2.2.2.2.2.2.2.2.1,
      (List.getD l (Int.toNat (ofN x))
      (T.dflt
      T_Act)).2.2.2.2.2.2.2.2.2.2.1,
      (List.getD l (Int.toNat (ofN x))
      (T.dflt
      T_Act)).2.2.2.2.2.2.2.2.2.2.2.1,
      (List.getD l (Int.toNat (ofN x))
      (T.dflt
      T_Act)).2.2.2.2.2.2.2.2.2.2.2.2.1,
      (List.getD l (Int.toNat (ofN x))
      (T.dflt
      T_Act)).2.2.2.2.2.2.2.2.2.2.2.2.2.1,
      (List.getD l (Int.toNat (ofN x))
      (T.dflt
      T_Act)).2.2.2.2.2.2.2.2.2.2.2.2.2.2.1,
      (List.getD l (Int.toNat (ofN x))
      (T.dflt
      T_Act)).2.2.2.2.2.2.2.2.2.2.2.2.2.2.2.1,
      (List.getD l (Int.toNat (ofN x))
      (T.dflt
      T_Act)).2.2.2.2.2.2.2.2.2.2.2.2.2.2.2.2.1,
      (List.getD l (Int.toNat (ofN x))
      (T.dflt
      T_Act)).2.2.2.2.2.2.2.2.2.2.2.2.2.2.2.2.2.1,
      (List.getD l (Int.toNat (ofN x))
      (T.dflt
      T_Act)).2.2.2.2.2.2.2.2.2.2.2.2.2.2.2.2.2.2.1,
      (List.getD l (Int.toNat (ofN x))
      (T.dflt
      T_Act)).2.2.2.2.2.2.2.2.2.2.2.2.2.2.2.2.2.2.2.1) =
      (actsL (List.take x' l)).1 ∧
      noteF (actsL (List.take x l)).1 (actsL (List.take x l)).2 (actsL (List.take x l)).4
      (List.getD l (Int.toNat (ofN x))
      (T.dflt
      T_Act)).2.1
      ((List.getD l (Int.toNat (ofN x))
      (T.dflt
      T_Act)).2.2.1,
      (List.getD l (Int.toNat (ofN x))
      (T.dflt
      T_Act)).2.2.2.1,
      (List.getD l (Int.toNat (ofN x))
      (T.dflt
      T_Act)).2.2.2.2.1,
      (List.getD l (Int.toNat (ofN x))
      (T.dflt
      T_Act)).2.2.2.2.2.1,
      (List.getD l (Int.toNat (ofN x))
      (T.dflt
      T_Act)).2.2.2.2.2.2.1,
      (List.getD l (Int.toNat (ofN x))
      (T.dflt
      T_Act)).2.2.2.2.2.2.2.1,
      (List.getD l (Int.toNat (ofN x))
      (T.dflt
      T_Act)).2.2.2.2.2.2.2.2.1)
      ((List.getD l (Int.toNat (ofN x))
      (T.dflt
      T_Act)).2.2.2.2.2.2.2.2.2.1,
      (List.getD l (Int.toNat (ofN x))
      (T.dflt
      T_Act)).2.2.2.2.2.2.2.2.2.2.1,
      (List.getD l (Int.toNat (ofN x))
      (T.dflt
      T_Act)).2.2.2.2.2.2.2.2.2.2.2.1,
      (List.getD l (Int.toNat (ofN x))
      (T.dflt
      T_Act)).2.2.2.2.2.2.2.2.2.2.2.2.1,
      (List.getD l (Int.toNat (ofN x))
      (T.dflt
      T_Act)).2.2.2.2.2.2.2.2.2.2.2.2.2.1,
      (List.getD l (Int.toNat (ofN x))
      (T.dflt
      T_Act)).2.2.2.2.2.2.2.2.2.2.2.2.2.2.1,
      (List.getD l (Int.toNat (ofN x))
      (T.dflt
      T_Act)).2.2.2.2.2.2.2.2.2.2.2.2.2.2.2.1,
      (List.getD l (Int.toNat (ofN x))
      (T.dflt
      T_Act)).2.2.2.2.2.2.2.2.2.2.2.2.2.2.2.2.1,
      (List.getD l (Int.toNat (ofN x))
      (T.dflt
      T_Act)).2.2.2.2.2.2.2.2.2.2.2.2.2.2.2.2.2.1,
      (List.getD l (Int.toNat (ofN x))
      (T.dflt
      T_Act)).2.2.2.2.2.2.2.2.2.2.2.2.2.2.2.2.2.2.1,
      (List.getD l (Int.toNat (ofN x))
      (T.dflt
      T_Act)).2.2.2.2.2.2.2.2.2.2.2.2.2.2.2.2.2.2.2.1) =
      (actsL (List.take x' l)).2 ∧
      (actsL (List.take x l)).3 = (actsL (List.take x' l)).3 ∧
      laterA (actsL (List.take x l)).4
      (List.getD l (Int.toNat (ofN x))
      (T.dflt
      T_Act)).2.1 =
      (actsL (List.take x' l)).4 ∧
      noteW (actsL (List.take x l)).1 (actsL (List.take x l)).4
      (List.getD l (Int.toNat (ofN x))
      (T.dflt
      T_Act)).2.1
      ((List.getD l (Int.toNat (ofN x))
      (T.dflt
      T_Act)).2.2.1,
      (List.getD l (Int.toNat (ofN x))
      (T.dflt
      T_Act)).2.2.2.1,
      (List.getD l (Int.toNat (ofN x))
      (T.dflt
      T_Act)).2.2.2.2.1,
      (List.getD l (Int.toNat (ofN x))
      (T.dflt
      T_Act)).2.2.2.2.2.1,
      (List.getD l (Int.toNat (ofN x))
      (T.dflt
      T_Act)).2.2.2.2.2.2.1,
      (List.getD l (Int.toNat (ofN x))
      (T.dflt
      T_Act)).2.2.2.2.2.2.2.1,
      (List.getD l (Int.toNat (ofN x))
      (T.dflt
      T_Act)).2.2.2.2.2.2.2.2.1)
      ((List.getD l (Int.toNat (ofN x))
      (T.dflt
      T_Act)).2.2.2.2.2.2.2.2.2.1,
      (List.getD l (Int.toNat (ofN x))
      (T.dflt
      T_Act)).2.2.2.2.2.2.2.2.2.2.1,
      (List.getD l (Int.toNat (ofN x))
      (T.dflt
      T_Act)).2.2.2.2.2.2.2.2.2.2.2.1,
      (List.getD l (Int.toNat (ofN x))
      (T.dflt
      T_Act)).2.2.2.2.2.2.2.2.2.2.2.2.1,
      (List.getD l (Int.toNat (ofN x))
      (T.dflt
      T_Act)).2.2.2.2.2.2.2.2.2.2.2.2.2.1,
      (List.getD l (Int.toNat (ofN x))
      (T.dflt
      T_Act)).2.2.2.2.2.2.2.2.2.2.2.2.2.2.1,
      (List.getD l (Int.toNat (ofN x))
      (T.dflt
      T_Act)).2.2.2.2.2.2.2.2.2.2.2.2.2.2.2.1,
      (List.getD l (Int.toNat (ofN x))
      (T.dflt
      T_Act)).2.2.2.2.2.2.2.2.2.2.2.2.2.2.2.2.1,
      (List.getD l (Int.toNat (ofN x))
      (T.dflt
      T_Act)).2.2.2.2.2.2.2.2.2.2.2.2.2.2.2.2.2.1,
      (List.getD l (Int.toNat (ofN x))
      (T.dflt
      T_Act)).2.2.2.2.2.2.2.2.2.2.2.2.2.2.2.2.2.2.1,
      (List.getD l (Int.toNat (ofN x))
      (T.dflt
      T_Act)).2.2.2.2.2.2.2.2.2.2.2.2.2.2.2.2.2.2.2.1) =
      (actsL (List.take x' l)).1 ∧
      (actsL (List.take x l)).3 = (actsL (List.take x' l)).3)))) ∧
      ((decide (ofN x < ofN (List.length l)) && decide (ofN x < 60)) = false →
      true = true ∧
      (actsL (List.take x l)).4 = (ledOf l).4 ∧
      (actsL (List.take x l)).1 = (ledOf l).1 ∧
      (actsL (List.take x l)).2 = (ledOf l).2 ∧
      (actsL (List.take x l)).3 = (ledOf l).3 ∧ (actsL (List.take x l)).4 = (ledOf l).4 ∧ (actsL (List.take x l)).1 = (ledOf l).1 ∧ (actsL (List.take x l)).3 = (ledOf l).3)) := by
  refine ⟨(fun q => nomatch q), fun _ => ⟨⟨0, ⟨Nat.zero_le _, Nat.zero_le _⟩, rfl, rfl, rfl, rfl, rfl, rfl, rfl, rfl⟩, fun x hx => ⟨fun q => ?_, fun q => ?_⟩⟩⟩
  · rw [Bool.and_eq_true] at q
    have hlt : x < l.length := ltN q.1
    have h60 : x < 60 := ltN (n := 60) q.2
    have st : actsL (l.take (x + 1)) = actL (actsL (l.take x)) (l.getD x T_Act.dflt) := by rw [take_snoc' (d := T_Act.dflt) hlt, actsL_snoc]
    have hok := acts_ok (l.take x)
    have hwl := hok.wl
    have hml := hok.ml
    rw [List.length_take] at hwl hml
    rw [show Int.toNat (ofN x) = x from rfl]
    generalize l.getD x T_Act.dflt = a at st ⊢
    have w0 : within (ofN x) l.length := wN hlt
    have i1 : inI64 (ofN x + 1) := inN (by omega)
    have hb : (!smallV a) = false → a.2.2.2.2.2.1.length ≤ 65536 := fun q2 => by
      have q2 : smallV a = true := by simpa using q2
      unfold smallV at q2
      rw [Bool.and_eq_true, decide_eq_true_eq, decide_eq_true_eq] at q2
      have := q2.1
      omega
    refine ⟨w0, fun q2 => ⟨i1, x + 1, ⟨hlt, h60⟩, by omega, rfl, ?_⟩, fun q2 => ⟨w0, fun q3 => ⟨w0, by omega, w0, by omega, fun q4 => ?_, fun q4 => ⟨i1, x + 1, ⟨hlt, h60⟩, by omega, rfl, ?_⟩⟩, fun q3 => ⟨w0, w0, w0, ⟨by omega, hb q2⟩, w0, w0, w0, ⟨by omega, hb q2⟩, fun q4 => ?_, fun q4 => ⟨i1, x + 1, ⟨hlt, h60⟩, by omega, rfl, ?_⟩⟩⟩⟩
    · have e : actL (actsL (l.take x)) a = actsL (l.take x) := by unfold actL; rw [q2]; rfl
      rw [st, e]
      exact ⟨rfl, rfl, rfl, rfl, rfl, rfl, rfl⟩
    · simp at q4
    · have e : actL (actsL (l.take x)) a = ⟨(actsL (l.take x)).ws, (actsL (l.take x)).first, tellM (actsL (l.take x)).ms (actsL (l.take x)).at_ (toldOf a), laterA (actsL (l.take x)).at_ (toldOf a).1⟩ := by unfold actL; rw [q2, q3]; rfl
      rw [st, e]
      exact ⟨rfl, rfl, rfl, rfl, rfl, rfl, rfl⟩
    · simp at q4
    · have e : actL (actsL (l.take x)) a = ⟨noteW (actsL (l.take x)).ws (actsL (l.take x)).at_ a.2.1 (deedOf a) (shownOf a), noteF (actsL (l.take x)).ws (actsL (l.take x)).first (actsL (l.take x)).at_ a.2.1 (deedOf a) (shownOf a), (actsL (l.take x)).ms, laterA (actsL (l.take x)).at_ a.2.1⟩ := by unfold actL; rw [q2, q3]; rfl
      rw [st, e]
      exact ⟨rfl, rfl, rfl, rfl, rfl, rfl, rfl⟩
  · rw [Bool.and_eq_false_iff] at q
    have e : l.take x = l.take 60 := by
      rcases q with q | q
      · have := geN q
        rw [List.take_of_length_le this, List.take_of_length_le (by omega)]
      · have := geN (n := 60) q
        rw [show x = 60 by omega]
    unfold ledOf
    rw [e]
    exact ⟨rfl, rfl, rfl, rfl, rfl, rfl, rfl, rfl⟩

def w24 : Noted := (1, 0, 2, 1, List.replicate 32 0#8, [120#8], [97#8, 98#8], false)
def f24 : Firsts := [((2, 1, List.replicate 32 0#8), 0)]
def m24 : Mark := (0, 3, 1, List.replicate 32 0#8, List.replicate 32 0#8)
theorem okW24 : okW [w24] := ⟨by decide, fun w hw => by rw [List.mem_singleton] at hw; subst hw; decide⟩
theorem firsts24 : firstsOk [w24] f24 := fun h k hk => by
  by_cases e : h = (2, 1, List.replicate 32 0#8)
  · have : mget T_Head f24 h = some 0 := by rw [e]; exact mgetG_eq T_Head ((2, 1, List.replicate 32 0#8), (0 : Int)) []
    rw [this] at hk
    cases hk
    exact ⟨Int.le_refl _, by decide⟩
  · have : mget T_Head f24 h = none := mgetG_ne T_Head ((2, 1, List.replicate 32 0#8), (0 : Int)) [] e
    rw [this] at hk; cases hk
theorem leads24 : leadsV [[]] = [] := by
  unfold leadsV leadS
  simp [sortL, Lib.compact, Lib.compactUpTo]
theorem check24 : checkB [m24] [[]] = [(2, 0, 0)] := by
  unfold checkB brTo3
  rw [leads24]
  rfl

theorem law24_awake_vc :
    0 < List.length [97#8, 98#8] ∧
      (List.length (nilOf (Int × Int × Int × Int × List (BitVec 8) × List (BitVec 8) × List (BitVec 8) × Bool)) ≤ 65536 ∧ List.length [97#8, 98#8] ≤ 65536) ∧
      List.length (nilOf (Int × Int × Int × List (BitVec 8) × List (BitVec 8))) ≤ 65536 ∧
      (List.length
      (noteW (nilOf (Int × Int × Int × Int × List (BitVec 8) × List (BitVec 8) × List (BitVec 8) × Bool)) 0 1 (1, 0, List.map UInt8.toBitVec [120], [97#8, 98#8], 0, 0, nilOf Bool)
      (0, 2, 1, List.replicate 32 0#8, 0, 0, 0, List.replicate 32 0#8, List.replicate 32 0#8, nilOf (BitVec 8), 0)) ≤
      65536 ∧
      List.length (nilOf (BitVec 8)) ≤ 65536) ∧
      (okW
      (noteW
      (noteW (nilOf (Int × Int × Int × Int × List (BitVec 8) × List (BitVec 8) × List (BitVec 8) × Bool)) 0 1 (1, 0, List.map UInt8.toBitVec [120], [97#8, 98#8], 0, 0, nilOf Bool)
      (0, 2, 1, List.replicate 32 0#8, 0, 0, 0, List.replicate 32 0#8, List.replicate 32 0#8, nilOf (BitVec 8), 0))
      (laterA (laterA 0 1) 2) 1 (0, 0, nilOf (BitVec 8), nilOf (BitVec 8), 0, 0, nilOf Bool)
      (0, 0, 0, List.replicate 32 0#8, 0, 0, 0, List.replicate 32 0#8, List.replicate 32 0#8, nilOf (BitVec 8), 0)) ∧
      firstsOk
      (noteW
      (noteW (nilOf (Int × Int × Int × Int × List (BitVec 8) × List (BitVec 8) × List (BitVec 8) × Bool)) 0 1 (1, 0, List.map UInt8.toBitVec [120], [97#8, 98#8], 0, 0, nilOf Bool)
      (0, 2, 1, List.replicate 32 0#8, 0, 0, 0, List.replicate 32 0#8, List.replicate 32 0#8, nilOf (BitVec 8), 0))
      (laterA (laterA 0 1) 2) 1 (0, 0, nilOf (BitVec 8), nilOf (BitVec 8), 0, 0, nilOf Bool)
      (0, 0, 0, List.replicate 32 0#8, 0, 0, 0, List.replicate 32 0#8, List.replicate 32 0#8, nilOf (BitVec 8), 0))
      (noteF
      (noteW (nilOf (Int × Int × Int × Int × List (BitVec 8) × List (BitVec 8) × List (BitVec 8) × Bool)) 0 1 (1, 0, List.map UInt8.toBitVec [120], [97#8, 98#8], 0, 0, nilOf Bool)
      (0, 2, 1, List.replicate 32 0#8, 0, 0, 0, List.replicate 32 0#8, List.replicate 32 0#8, nilOf (BitVec 8), 0))
      (noteF (nilOf (Int × Int × Int × Int × List (BitVec 8) × List (BitVec 8) × List (BitVec 8) × Bool)) (nilOf ((Int × Int × List (BitVec 8)) × Int)) 0 1
      (1, 0, List.map UInt8.toBitVec [120], [97#8, 98#8], 0, 0, nilOf Bool) (0, 2, 1, List.replicate 32 0#8, 0, 0, 0, List.replicate 32 0#8, List.replicate 32 0#8, nilOf (BitVec 8), 0))
      (laterA (laterA 0 1) 2) 1 (0, 0, nilOf (BitVec 8), nilOf (BitVec 8), 0, 0, nilOf Bool)
      (0, 0, 0, List.replicate 32 0#8, 0, 0, 0, List.replicate 32 0#8, List.replicate 32 0#8, nilOf (BitVec 8), 0))) ∧
      okC (tellM (nilOf (Int × Int × Int × List (BitVec 8) × List (BitVec 8))) (laterA 0 1) (2, 0, 1, 0, 3, 1, List.replicate 32 0#8, List.replicate 32 0#8))
      [nilOf (Int × Int × List (BitVec 8) × Int × Int × List (BitVec 8) × List (List (BitVec 8) × Int))] ∧
      (true = true →
      within 0
      (List.length
      (checkB (tellM (nilOf (Int × Int × Int × List (BitVec 8) × List (BitVec 8))) (laterA 0 1) (2, 0, 1, 0, 3, 1, List.replicate 32 0#8, List.replicate 32 0#8))
      [nilOf (Int × Int × List (BitVec 8) × Int × Int × List (BitVec 8) × List (List (BitVec 8) × Int))]))) ∧
      (true = true ∧ List.length (tellM (nilOf (Int × Int × Int × List (BitVec 8) × List (BitVec 8))) (laterA 0 1) (2, 0, 1, 0, 3, 1, List.replicate 32 0#8, List.replicate 32 0#8)) ≤ 65536) ∧
      true = true := by
  refine ⟨by decide, ⟨by decide, by decide⟩, by decide, ⟨by decide, by decide⟩, ⟨okW24, firsts24⟩, ⟨by decide, by decide, by decide⟩, fun _ => ?_, ⟨rfl, by decide⟩, rfl⟩
  show within 0 (checkB [m24] [[]]).length
  rw [check24]
  exact ⟨by decide, by decide⟩

theorem law24_Notes_vc (l : List Act) :
    (false = true → false = true) ∧
      (false = false →
      okW (ledOf l).1 ∧
      List.length (ledOf l).3 ≤ 65536 ∧
      ((ofN (List.length (ledOf l).1) != ofN (List.length (ledOf l).1) || ofN (List.length (ledOf l).3) != ofN (List.length (ledOf l).3)) = true → false = true) ∧
      ((ofN (List.length (ledOf l).1) != ofN (List.length (ledOf l).1) || ofN (List.length (ledOf l).3) != ofN (List.length (ledOf l).3)) = false →
      (∃ (x : Nat), x ≤ List.length (ledOf l).1 ∧ 0 = ofN x) ∧
      ∀ (x : Nat),
      x ≤ List.length (ledOf l).1 →
      (decide (ofN x < ofN (List.length (ledOf l).1)) = true →
      within (ofN x) (List.length (ledOf l).1) ∧
      within (ofN x) (List.length (ledOf l).1) ∧
      Int.toNat (ofN x) < List.length (ledOf l).1 ∧
      ((!sameNV
      (List.getD (ledOf l).1 (Int.toNat (ofN x))
      (T.dflt T_Noted))
      (List.getD (ledOf l).1 (Int.toNat (ofN x))
      (T.dflt T_Noted))) =
      true →
      false = true) ∧
      ((!sameNV
      (List.getD (ledOf l).1 (Int.toNat (ofN x))
      (T.dflt T_Noted))
      (List.getD (ledOf l).1 (Int.toNat (ofN x))
      (T.dflt T_Noted))) =
      false →
      inI64 (ofN x + 1) ∧ ∃ (x' : Nat), x' ≤ List.length (ledOf l).1 ∧ List.length (ledOf l).1 - x' < List.length (ledOf l).1 - x ∧ ofN x + 1 = ofN x')) ∧
      (decide (ofN x < ofN (List.length (ledOf l).1)) = false →
      (∃ (x : Nat), x ≤ List.length (ledOf l).3 ∧ 0 = ofN x) ∧
      ∀ (x : Nat),
      x ≤ List.length (ledOf l).3 →
      (decide (ofN x < ofN (List.length (ledOf l).3)) = true →
      within (ofN x) (List.length (ledOf l).3) ∧
      within (ofN x) (List.length (ledOf l).3) ∧
      Int.toNat (ofN x) < List.length (ledOf l).3 ∧
      ((!((List.getD (ledOf l).3 (Int.toNat (ofN x)) (T.dflt T_Mark)).1 ==
      (List.getD (ledOf l).3 (Int.toNat (ofN x)) (T.dflt T_Mark)).1 &&
      ((List.getD (ledOf l).3 (Int.toNat (ofN x)) (T.dflt T_Mark)).2.1 ==
      (List.getD (ledOf l).3 (Int.toNat (ofN x)) (T.dflt T_Mark)).2.1 &&
      ((List.getD (ledOf l).3 (Int.toNat (ofN x)) (T.dflt T_Mark)).2.2.1 ==
      (List.getD (ledOf l).3 (Int.toNat (ofN x))
      (T.dflt T_Mark)).2.2.1 &&
      eqL T.u8
      (List.getD (ledOf l).3 (Int.toNat (ofN x))
      (T.dflt T_Mark)).2.2.2.1
      (List.getD (ledOf l).3 (Int.toNat (ofN x))
      (T.dflt T_Mark)).2.2.2.1) &&
      eqL T.u8
      (List.getD (ledOf l).3 (Int.toNat (ofN x)) (T.dflt T_Mark)).2.2.2.2
      (List.getD (ledOf l).3 (Int.toNat (ofN x))
      (T.dflt T_Mark)).2.2.2.2))) =
      true →
      false = true) ∧
      ((!((List.getD (ledOf l).3 (Int.toNat (ofN x)) (T.dflt T_Mark)).1 ==
      (List.getD (ledOf l).3 (Int.toNat (ofN x)) (T.dflt T_Mark)).1 &&
      ((List.getD (ledOf l).3 (Int.toNat (ofN x)) (T.dflt T_Mark)).2.1 ==
      (List.getD (ledOf l).3 (Int.toNat (ofN x)) (T.dflt T_Mark)).2.1 &&
      ((List.getD (ledOf l).3 (Int.toNat (ofN x)) (T.dflt T_Mark)).2.2.1 ==
      (List.getD (ledOf l).3 (Int.toNat (ofN x))
      (T.dflt T_Mark)).2.2.1 &&
      eqL T.u8
      (List.getD (ledOf l).3 (Int.toNat (ofN x))
      (T.dflt T_Mark)).2.2.2.1
      (List.getD (ledOf l).3 (Int.toNat (ofN x))
      (T.dflt T_Mark)).2.2.2.1) &&
      eqL T.u8
      (List.getD (ledOf l).3 (Int.toNat (ofN x)) (T.dflt T_Mark)).2.2.2.2
      (List.getD (ledOf l).3 (Int.toNat (ofN x))
      (T.dflt T_Mark)).2.2.2.2))) =
      false →
      inI64 (ofN x + 1) ∧ ∃ (x' : Nat), x' ≤ List.length (ledOf l).3 ∧ List.length (ledOf l).3 - x' < List.length (ledOf l).3 - x ∧ ofN x + 1 = ofN x')) ∧
      (decide (ofN x < ofN (List.length (ledOf l).3)) = false → true = true)))) := by
  have hok := led_ok l
  have hwl := hok.wl
  have hml := hok.ml
  have hN : ∀ w : Noted, sameNV w w = true := fun w => by unfold sameNV; simp
  refine ⟨(fun q => nomatch q), fun _ => ⟨ok_okW hok (by omega), by omega, fun q => ?_, fun _ => ⟨⟨0, Nat.zero_le _, rfl⟩, fun x hx => ⟨fun q => ?_, fun q => ?_⟩⟩⟩⟩
  · simp at q
  · have hlt : x < (ledOf l).ws.length := ltN q
    have w0 : within (ofN x) (ledOf l).ws.length := wN hlt
    rw [show Int.toNat (ofN x) = x from rfl, hN]
    exact ⟨w0, w0, hlt, (fun q2 => nomatch q2), fun _ => ⟨inN (by omega), x + 1, hlt, Nat.sub_lt_sub_left hlt (Nat.lt_succ_self x), rfl⟩⟩
  · refine ⟨⟨0, Nat.zero_le _, rfl⟩, fun x hx => ⟨fun q => ?_, fun _ => rfl⟩⟩
    have hlt : x < (ledOf l).ms.length := ltN q
    have w0 : within (ofN x) (ledOf l).ms.length := wN hlt
    rw [show Int.toNat (ofN x) = x from rfl, eqL_u8, eqL_u8]
    refine ⟨w0, w0, hlt, fun q2 => ?_, fun _ => ⟨inN (by omega), x + 1, hlt, Nat.sub_lt_sub_left hlt (Nat.lt_succ_self x), rfl⟩⟩
    simp at q2

theorem law24_Finds_vc (l : List Act) (h : HeadT) (rs : List Rec) (path : Bytes) :
    (false = true → false = true) ∧
      (false = false →
      (okW (ledOf l).1 ∧ firstsOk (ledOf l).1 (ledOf l).2) ∧
      (okW (ledOf l).1 ∧ firstsOk (ledOf l).1 (ledOf l).2) ∧
      ((lastV (ledOf l).3).1 == (lastV (ledOf l).3).1 &&
      ((lastV (ledOf l).3).2.1 == (lastV (ledOf l).3).2.1 &&
      ((lastV (ledOf l).3).2.2.1 == (lastV (ledOf l).3).2.2.1 && eqL T.u8 (lastV (ledOf l).3).2.2.2.1 (lastV (ledOf l).3).2.2.2.1) &&
      eqL T.u8 (lastV (ledOf l).3).2.2.2.2 (lastV (ledOf l).3).2.2.2.2) &&
      (!decide (ofN (List.length (ledOf l).3) = 0)) == !decide (ofN (List.length (ledOf l).3) = 0) &&
      sameNV (ofV (ledOf l).1 (ledOf l).2 h).1 (rOfV (ledOf l).1 h).1 &&
      (ofV (ledOf l).1 (ledOf l).2 h).2 == (rOfV (ledOf l).1 h).2 &&
      fileV (ofV (ledOf l).1 (ledOf l).2) (fewT 30 rs) path == fileV (rOfV (ledOf l).1) (fewT 30 rs) path &&
      fileB (ofV (ledOf l).1 (ledOf l).2) (fewT 30 rs) path == fileB (rOfV (ledOf l).1) (fewT 30 rs) path) =
      true) := by
  have hok := led_ok l
  have hN : ∀ w : Noted, sameNV w w = true := fun w => by unfold sameNV; simp
  have h1 := ok_okW hok (by omega)
  have h2 := ok_firsts hok
  refine ⟨(fun q => nomatch q), fun _ => ⟨⟨h1, h2⟩, ⟨h1, h2⟩, ?_⟩⟩
  rw [show ofV (LedS.ws (ledOf l)) (LedS.first (ledOf l)) = rOfV (ledOf l).ws from ok_of hok, hN, eqL_u8, eqL_u8]
  simp

theorem flat_le (l : Cats) (n : Nat) (h : ∀ c ∈ l, c.length ≤ n) : l.flatten.length ≤ l.length * n := by
  induction l with
  | nil => simp
  | cons c r ih =>
    rw [List.flatten_cons, List.length_append, List.length_cons, Nat.succ_mul]
    have := h c (List.mem_cons_self ..)
    have := ih fun d hd => h d (List.mem_cons_of_mem _ hd)
    omega
theorem some_okC (l : List Act) (cats : Cats) : okC (ledOf l).ms (someC cats) := by
  have hml := (led_ok l).ml
  have h4 : (someC cats).length ≤ 4 := by unfold someC; rw [List.length_map, List.length_take]; omega
  refine ⟨h4, by omega, ?_⟩
  have := flat_le (someC cats) 30 fun c hc => by
    unfold someC at hc
    obtain ⟨d, _, rfl⟩ := List.mem_map.1 hc
    exact few_len 30 d
  omega

theorem law24_Checks_vc (l : List Act) (cats : Cats) :
    (false = true → false = true) ∧ (false = false → okC (ledOf l).3 (someC cats) ∧ okC (ledOf l).3 (someC cats) ∧ sameBV (checkB (ledOf l).3 (someC cats)) (checkB (ledOf l).3 (someC cats)) = true) := by
  exact ⟨(fun q => nomatch q), fun _ => ⟨some_okC l cats, some_okC l cats, (sameB_iff _ _).2 rfl⟩⟩

theorem law24_some_spec : Vse.Spec P f_law24_some c_some24 := spec_fn (l := [(f_law24_few, c_few24)]) ⟨law24_few_spec, trivial⟩ h_law24_some rfl rfl fun x _ _ => body_ok (an_some24 x.1) (law24_some_vc x.1) (by kernel_rfl)

theorem law24_within_spec : Vse.Spec P f_law24_within c_within := spec_fn (l := []) trivial h_law24_within rfl rfl fun x _ ok => body_ok (an_within x.1 x.2.1) (law24_within_vc x.1 x.2.1 ok.1.1 ok.2.1.1) (by kernel_rfl)

theorem law24_begin_spec : Vse.Spec P f_law24_begin c_begin := spec_gf (l := [(f_ledger_New, c_lNew), (f_law24_small, c_small), (f_ledger_Ledger_Tell, c_Tell), (f_ref24_Ledger_Tell, c_qTell), (f_ledger_Ledger_Note, c_Note), (f_ref24_Ledger_Note, c_qNote)]) ⟨ledger_New_spec, law24_small_spec, ledger_Tell_spec, ref24_Tell_spec, ledger_Note_spec, ref24_Note_spec, trivial⟩ h_law24_begin rfl rfl fun x _ _ => bodyG_ok (an_begin x.1) (law24_begin_vc x.1) (by kernel_rfl)

theorem law24_awake_spec : Vse.Spec P f_law24_awake c_awake24 := spec_fn (l := [(f_ledger_New, c_lNew), (f_ledger_Ledger_Tell, c_Tell), (f_ledger_Ledger_Note, c_Note), (f_ledger_Ledger_Of, c_Of), (f_ledger_Ledger_Check, c_lCheck), (f_ledger_Ledger_Acked, c_Acked)]) ⟨ledger_New_spec, ledger_Tell_spec, ledger_Note_spec, ledger_Of_spec, ledger_Check_spec, ledger_Acked_spec, trivial⟩ h_law24_awake rfl rfl fun _ _ _ => body_ok an_awake law24_awake_vc (by kernel_rfl)

theorem law24_LedgerNotes_spec : Vse.Spec P f_law24_LedgerNotes (c_law24 [.slc T_Act]) := spec_fn (l := [(f_law24_begin, c_begin), (f_law24_awake, c_awake24), (f_ledger_Ledger_Writes, c_Writes), (f_ledger_Ledger_Acked, c_Acked), (f_ref24_SameNoted, c_SameN)]) ⟨law24_begin_spec, law24_awake_spec, ledger_Writes_spec, ledger_Acked_spec, ref24_SameN_spec, trivial⟩ h_law24_LedgerNotes rfl rfl fun x _ _ => body_ok (an_Notes x.1) (law24_Notes_vc x.1) (by kernel_rfl)

theorem law24_LedgerFinds_spec : Vse.Spec P f_law24_LedgerFinds (c_law24 [.slc T_Act, T_Head, .slc T_Rec, .str]) := spec_fn (l := [(f_law24_begin, c_begin), (f_law24_awake, c_awake24), (f_law24_few, c_few24), (f_ledger_Ledger_Last, c_Last), (f_ref24_Ledger_Last, c_qLast), (f_ledger_Ledger_Of, c_Of), (f_ref24_Ledger_Of, c_qOf), (f_ledger_Ledger_File, c_File), (f_ref24_Ledger_File, c_qFile), (f_ref24_SameNoted, c_SameN)]) ⟨law24_begin_spec, law24_awake_spec, law24_few_spec, ledger_Last_spec, ref24_Last_spec, ledger_Of_spec, ref24_Of_spec, ledger_File_spec, ref24_File_spec, ref24_SameN_spec, trivial⟩ h_law24_LedgerFinds rfl rfl fun x _ _ => body_ok an_law24 (law24_Finds_vc x.1 x.2.1 x.2.2.1 x.2.2.2.1) (by kernel_rfl)

theorem law24_LedgerChecks_spec : Vse.Spec P f_law24_LedgerChecks (c_law24 [.slc T_Act, T_Cats]) := spec_fn (l := [(f_law24_begin, c_begin), (f_law24_awake, c_awake24), (f_law24_some, c_some24), (f_ledger_Ledger_Check, c_lCheck), (f_ref24_Ledger_Check, c_qCheck), (f_ref24_Same, c_SameB)]) ⟨law24_begin_spec, law24_awake_spec, law24_some_spec, ledger_Check_spec, ref24_Check_spec, ref24_SameB_spec, trivial⟩ h_law24_LedgerChecks rfl rfl fun x _ _ => body_ok an_law24 (law24_Checks_vc x.1 x.2.1) (by kernel_rfl)

end Go.Sal
