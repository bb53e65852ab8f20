/- Laws of ledger: Prefix, More, Puts. -/
import Derived.Test.YtflcaomdkbnfaaaQCLed4
import Derived.Test.YtflcaomdkbnfaaaQCEnd13
set_option maxRecDepth 100000
namespace Go.Sal
open Go.Vse Go.Sal.Nm

def an_PrefixL (ms : List Mark) : Nat → SState → Option LoopAnn
  | 11, S => some { X := Nat, slots := fun i => [(9, .sv (.dv (.i64 (ofN i))))], objs := fun _ => [], inv := fun i => i ≤ ms.length, meas := fun i => ms.length - i }
  | 16, S => some { X := Nat, slots := fun k => [(10, .sv (.dv (.i64 (ofN k))))], objs := fun _ => [], inv := fun k => k ≤ (x_int S 9).toNat, meas := fun k => (x_int S 9).toNat - k }
  | _, _ => none
def an_Prefix (ms : List Mark) : Ann := { at_ := an_PrefixL ms, prune := 1 }
def moreL (l more : List Act) (k : Nat) : LedS := (more.take k).foldl actL (ledOf l)
def an_MoreL (l more : List Act) : Nat → SState → Option LoopAnn
  | 11, S => some { X := Nat, slots := fun k => [(14, .sv (.dv (.i64 (ofN k))))], objs := fun k => (0, .gone) :: oAt T_fsL (x_cel S 9) 12 (x_L (moreL l more k)), inv := fun k => k ≤ more.length ∧ k ≤ 60, meas := fun k => 60 - k }
  | _, _ => none
def an_More (l more : List Act) : Ann := { at_ := an_MoreL l more, prune := 1, drops := [10, 19, 21] }
def putV (path got : Bytes) (w : Noted) : Bool := w.2.2.2.2.2.1 == path && !w.2.2.2.2.2.2.2 && w.2.2.2.2.2.2.1 == got
def anyW (path got : Bytes) (ws : List Noted) (k : Nat) : Bool := (ws.take k).any (putV path got)
def fileG (l : List Act) (rs : List Rec) (path : Bytes) : Bytes := fileV (ofV (ledOf l).ws (ledOf l).first) rs path
def fileI (l : List Act) (rs : List Rec) (path : Bytes) : Bool := fileB (ofV (ledOf l).ws (ledOf l).first) rs path
def an_PutsL (l : List Act) (rs : List Rec) (path : Bytes) : Nat → SState → Option LoopAnn
  | 12, S => some { X := Nat, slots := fun k => [(15, .sv (.dv (.i64 (ofN k)))), (14, .sv (.dv (.bool (!fileI l (fewT 30 rs) path || anyW path (fileG l (fewT 30 rs) path) (ledOf l).ws k))))], objs := fun _ => [], inv := fun k => k ≤ (ledOf l).ws.length, meas := fun k => (ledOf l).ws.length - k }
  | _, _ => none
def an_Puts (l : List Act) (rs : List Rec) (path : Bytes) : Ann := { at_ := an_PutsL l rs path, prune := 1 }

--@@proofs

theorem mem_chain {cats : Cats} {n : Nat} {x : Brc} : x ∈ brChain cats n ↔ ∃ i, i < n ∧ ((walkV head0 (cats.getD i []) 0).2.2 != 0) = true ∧ x = (1, (i : Int), 0) := by
  unfold brChain
  rw [List.mem_flatMap]
  constructor
  · rintro ⟨i, hi, hx⟩
    cases hc : ((walkV head0 (cats.getD i []) 0).2.2 != 0) with
    | true => rw [hc] at hx; exact ⟨i, List.mem_range.1 hi, hc, by simpa using hx⟩
    | false => rw [hc] at hx; cases hx
  · rintro ⟨i, hi, hc, rfl⟩
    exact ⟨i, List.mem_range.2 hi, by rw [hc]; simp⟩
theorem mem_fork {ms : List Mark} {k n : Nat} {x : Brc} : x ∈ brFork ms k n ↔ ∃ i, i < n ∧ apartB ms i k = true ∧ x = (3, (i : Int), (k : Int)) := by
  unfold brFork
  rw [List.mem_flatMap]
  constructor
  · rintro ⟨i, hi, hx⟩
    cases hc : apartB ms i k with
    | true => rw [hc] at hx; exact ⟨i, List.mem_range.1 hi, hc, by simpa using hx⟩
    | false => rw [hc] at hx; cases hx
  · rintro ⟨i, hi, hc, rfl⟩
    exact ⟨i, List.mem_range.2 hi, by rw [hc]; simp⟩
theorem mem_ack {ms : List Mark} {c : List Rec} {i n : Nat} {x : Brc} : x ∈ brAck ms c i n ↔ ∃ k, k < n ∧ hasV c (headM (ms.getD k T_Mark.dflt)) = false ∧ x = (2, (i : Int), (k : Int)) := by
  unfold brAck
  rw [List.mem_flatMap]
  constructor
  · rintro ⟨k, hk, hx⟩
    cases hc : hasV c (headM (ms.getD k T_Mark.dflt)) with
    | false => rw [hc] at hx; exact ⟨k, List.mem_range.1 hk, hc, by simpa using hx⟩
    | true => rw [hc] at hx; cases hx
  · rintro ⟨k, hk, hc, rfl⟩
    exact ⟨k, List.mem_range.2 hk, by rw [hc]; simp⟩
theorem mem_check {ms : List Mark} {cats : Cats} {x : Brc} : x ∈ checkB ms cats ↔ (∃ i, i < cats.length ∧ ((walkV head0 (cats.getD i []) 0).2.2 != 0) = true ∧ x = (1, (i : Int), 0)) ∨ (∃ k i, k < ms.length ∧ i < k ∧ apartB ms i k = true ∧ x = (3, (i : Int), (k : Int))) ∨ (∃ i k, i < cats.length ∧ k < ms.length ∧ hasV (cats.getD i []) (headM (ms.getD k T_Mark.dflt)) = false ∧ x = (2, (i : Int), (k : Int))) ∨ (∃ e, e ∈ leadsV cats ∧ x = (4, e, 0)) := by
  unfold checkB brTo3 brForks brAcks brLead
  rw [List.take_of_length_le (Nat.le_refl _)]
  simp only [List.mem_append]
  constructor
  · rintro (((h | h) | h) | h)
    · exact .inl (mem_chain.1 h)
    · obtain ⟨k, hk, h⟩ := List.mem_flatMap.1 h
      obtain ⟨i, hi, h1, h2⟩ := mem_fork.1 h
      exact .inr (.inl ⟨k, i, List.mem_range.1 hk, hi, h1, h2⟩)
    · obtain ⟨i, hi, h⟩ := List.mem_flatMap.1 h
      obtain ⟨k, hk, h1, h2⟩ := mem_ack.1 h
      exact .inr (.inr (.inl ⟨i, k, List.mem_range.1 hi, hk, h1, h2⟩))
    · obtain ⟨e, he, h⟩ := List.mem_map.1 h
      exact .inr (.inr (.inr ⟨e, he, h.symm⟩))
  · rintro (h | ⟨k, i, hk, hi, h1, h2⟩ | ⟨i, k, hi, hk, h1, h2⟩ | ⟨e, he, rfl⟩)
    · exact .inl (.inl (.inl (mem_chain.2 h)))
    · exact .inl (.inl (.inr (List.mem_flatMap.2 ⟨k, List.mem_range.2 hk, mem_fork.2 ⟨i, hi, h1, h2⟩⟩)))
    · exact .inl (.inr (List.mem_flatMap.2 ⟨i, List.mem_range.2 hi, mem_ack.2 ⟨k, hk, h1, h2⟩⟩))
    · exact .inr (List.mem_map.2 ⟨e, he, rfl⟩)
theorem within_iff (a b : List Brc) : withinV a b = true ↔ ∀ x ∈ a, x ∈ b := by
  unfold withinV
  rw [List.all_eq_true]
  refine forall_congr' fun x => imp_congr_right fun _ => ?_
  rw [List.any_eq_true]
  constructor
  · rintro ⟨y, hy, h⟩; rw [of_decide_eq_true h]; exact hy
  · intro h; exact ⟨x, h, decide_eq_true rfl⟩
theorem has_all {ms : List Mark} {rs : List Rec} (h : checkB ms [rs] = []) {k : Nat} (hk : k < ms.length) : hasV rs (headM (ms.getD k T_Mark.dflt)) = true := by
  cases hc : hasV rs (headM (ms.getD k T_Mark.dflt)) with
  | true => rfl
  | false =>
    have : ((2, ((0 : Nat) : Int), (k : Int)) : Brc) ∈ checkB ms [rs] := mem_check.2 (.inr (.inr (.inl ⟨0, k, by simp, hk, hc, rfl⟩)))
    rw [h] at this; cases this
theorem has_low {rs : List Rec} {a b : HeadT} (ha : hasV rs a = true) (hb : hasV rs b = true) (h : a.1 ≤ b.1) : hasV (rs.take b.1.toNat) a = true := by
  obtain ⟨a0, a1, a2, a3⟩ := has_ok ha
  obtain ⟨b0, b1, _, _⟩ := has_ok hb
  have aux : ∀ (x y : Int) (n : Nat), 0 ≤ x → x ≤ y → y ≤ (n : Int) → x.toNat ≤ y.toNat ∧ y.toNat ≤ n ∧ x ≤ ((y.toNat : Nat) : Int) := by intro x y n h1 h2 h3; omega
  obtain ⟨c1, c2, c3⟩ := aux a.1 b.1 rs.length a0 h b1
  have e : (rs.take b.1.toNat).take a.1.toNat = rs.take a.1.toNat := by rw [List.take_take, Nat.min_eq_left c1]
  unfold hasV
  rw [e, if_pos ⟨a0, by rw [List.length_take, Nat.min_eq_left c2]; exact c3⟩, a2, a3]
  simp
theorem few_okC1 (l : List Act) (rs : List Rec) : okC (ledOf l).ms [fewT 30 rs] := by
  have hml := (led_ok l).ml
  have := few_len 30 rs
  refine ⟨by show 1 ≤ 4; decide, by omega, ?_⟩
  rw [List.flatten_singleton]; omega

theorem law24_Prefix_vc (l : List Act) (rs : List Rec) :
    (false = true → false = true) ∧
      (false = false →
      (false = true → false = true) ∧
      (false = false →
      okC (ledOf l).3 [fewT 30 rs] ∧
      (decide (0 < ofN (List.length (checkB (ledOf l).3 [fewT 30 rs]))) = true → true = true) ∧
      (decide (0 < ofN (List.length (checkB (ledOf l).3 [fewT 30 rs]))) = false →
      List.length (ledOf l).3 ≤ 65536 ∧
      (∃ (x : Nat), x ≤ List.length (ledOf l).3 ∧ 0 = ofN x) ∧
      ∀ (x : Nat),
      x ≤ List.length (ledOf l).3 →
      (decide (ofN x < ofN (List.length (ledOf l).3)) = true →
      within (ofN x) (List.length (ledOf l).3) ∧
      (decide ((List.getD (ledOf l).3 (Int.toNat (ofN x)) (T.dflt T_Mark)).2.1 < 0) = false →
      within (ofN x) (List.length (ledOf l).3)) ∧
      ((decide ((List.getD (ledOf l).3 (Int.toNat (ofN x)) (T.dflt T_Mark)).2.1 < 0) ||
      decide
      (ofN (List.length (fewT 30 rs)) <
      (List.getD (ledOf l).3 (Int.toNat (ofN x)) (T.dflt T_Mark)).2.1)) =
      true →
      false = true) ∧
      ((decide ((List.getD (ledOf l).3 (Int.toNat (ofN x)) (T.dflt T_Mark)).2.1 < 0) ||
      decide
      (ofN (List.length (fewT 30 rs)) <
      (List.getD (ledOf l).3 (Int.toNat (ofN x)) (T.dflt T_Mark)).2.1)) =
      false →
      (∃ (x_1 : Nat), x_1 ≤ Int.toNat (ofN x) ∧ 0 = ofN x_1) ∧
      ∀ (x_1 : Nat),
      x_1 ≤ Int.toNat (ofN x) →
      (decide (ofN x_1 < ofN x) = true →
      within (ofN x) (List.length (ledOf l).3) ∧
      within (ofN x_1) (List.length (ledOf l).3) ∧
      (decide
      ((List.getD (ledOf l).3 (Int.toNat (ofN x_1))
      (T.dflt T_Mark)).2.1 <
      (List.getD (ledOf l).3 (Int.toNat (ofN x))
      (T.dflt T_Mark)).2.1) =
      true →
      (0 ≤
      (List.getD (ledOf l).3 (Int.toNat (ofN x))
      (T.dflt T_Mark)).2.1 ∧
      (List.getD (ledOf l).3 (Int.toNat (ofN x)) (T.dflt T_Mark)).2.1 ≤
      ofN (List.length (fewT 30 rs))) ∧
      ((!hasV
      (List.drop 0
      (List.take
      (Int.toNat
      (List.getD (ledOf l).3 (Int.toNat (ofN x))
      (T.dflt T_Mark)).2.1)
      (fewT 30 rs)))
      ((List.getD (ledOf l).3 (Int.toNat (ofN x_1))
      (T.dflt T_Mark)).2.1,
      (List.getD (ledOf l).3 (Int.toNat (ofN x_1))
      (T.dflt T_Mark)).2.2.1,
      (List.getD (ledOf l).3 (Int.toNat (ofN x_1))
      (T.dflt T_Mark)).2.2.2.1)) =
      true →
      false = true) ∧
      ((!hasV
      (List.drop 0
      (List.take
      (Int.toNat
      (List.getD (ledOf l).3 (Int.toNat (ofN x))
      (T.dflt T_Mark)).2.1)
      (fewT 30 rs)))
      ((List.getD (ledOf l).3 (Int.toNat (ofN x_1))
      (T.dflt T_Mark)).2.1,
      (List.getD (ledOf l).3 (Int.toNat (ofN x_1))
      (T.dflt T_Mark)).2.2.1,
      (List.getD (ledOf l).3 (Int.toNat (ofN x_1))
      (T.dflt T_Mark)).2.2.2.1)) =
      false →
      inI64 (ofN x_1 + 1) ∧ ∃ (x' : Nat), x' ≤ Int.toNat (ofN x) ∧ Int.toNat (ofN x) - x' < Int.toNat (ofN x) - x_1 ∧ ofN x_1 + 1 = ofN x')) ∧
      (decide
      ((List.getD (ledOf l).3 (Int.toNat (ofN x_1))
      (T.dflt T_Mark)).2.1 <
      (List.getD (ledOf l).3 (Int.toNat (ofN x))
      (T.dflt T_Mark)).2.1) =
      false →
      (0 ≤
      (List.getD (ledOf l).3 (Int.toNat (ofN x_1))
      (T.dflt T_Mark)).2.1 ∧
      (List.getD (ledOf l).3 (Int.toNat (ofN x_1))
      (T.dflt T_Mark)).2.1 ≤
      ofN (List.length (fewT 30 rs))) ∧
      ((!hasV
      (List.drop 0
      (List.take
      (Int.toNat
      (List.getD (ledOf l).3 (Int.toNat (ofN x_1))
      (T.dflt T_Mark)).2.1)
      (fewT 30 rs)))
      ((List.getD (ledOf l).3 (Int.toNat (ofN x))
      (T.dflt T_Mark)).2.1,
      (List.getD (ledOf l).3 (Int.toNat (ofN x))
      (T.dflt T_Mark)).2.2.1,
      (List.getD (ledOf l).3 (Int.toNat (ofN x))
      (T.dflt T_Mark)).2.2.2.1)) =
      true →
      false = true) ∧
      ((!hasV
      (List.drop 0
      (List.take
      (Int.toNat
      (List.getD (ledOf l).3 (Int.toNat (ofN x_1))
      (T.dflt T_Mark)).2.1)
      (fewT 30 rs)))
      ((List.getD (ledOf l).3 (Int.toNat (ofN x))
      (T.dflt T_Mark)).2.1,
      (List.getD (ledOf l).3 (Int.toNat (ofN x))
      (T.dflt T_Mark)).2.2.1,
      (List.getD (ledOf l).3 (Int.toNat (ofN x))
      (T.dflt T_Mark)).2.2.2.1)) =
      false →
      inI64 (ofN x_1 + 1) ∧ ∃ (x' : Nat), x' ≤ Int.toNat (ofN x) ∧ Int.toNat (ofN x) - x' < Int.toNat (ofN x) - x_1 ∧ ofN x_1 + 1 = ofN x'))) ∧
      (decide (ofN x_1 < ofN x) = false →
      inI64 (ofN x + 1) ∧ ∃ (x' : Nat), x' ≤ List.length (ledOf l).3 ∧ List.length (ledOf l).3 - x' < List.length (ledOf l).3 - x ∧ ofN x + 1 = ofN x'))) ∧
      (decide (ofN x < ofN (List.length (ledOf l).3)) = false → true = true)))) := by
  have hok := led_ok l
  have hml := hok.ml
  refine ⟨(fun q => nomatch q), fun _ => ⟨(fun q => nomatch q), fun _ => ⟨few_okC1 l rs, fun _ => rfl, fun q => ⟨by omega, ⟨0, Nat.zero_le _, rfl⟩, fun x hx => ⟨fun q1 => ?_, fun _ => rfl⟩⟩⟩⟩⟩
  have hC : checkB (ledOf l).ms [fewT 30 rs] = [] := by
    have q : ¬ (0 : Int) < ((checkB (ledOf l).ms [fewT 30 rs]).length : Int) := of_decide_eq_false q
    exact List.length_eq_zero_iff.1 (by omega)
  have hA : ∀ k, k < (ledOf l).ms.length → hasV (fewT 30 rs) (headM ((ledOf l).ms.getD k T_Mark.dflt)) = true := fun k hk => has_all hC hk
  have hlt : x < (ledOf l).ms.length := ltN q1
  have wx : within (ofN x) (ledOf l).ms.length := wN hlt
  rw [show Int.toNat (ofN x) = x from rfl]
  have hx2 := has_ok (hA x hlt)
  refine ⟨wx, fun _ => wx, fun q2 => ?_, fun q2 => ⟨⟨0, Nat.zero_le _, rfl⟩, fun y hy => ⟨fun q3 => ?_, fun q3 => ⟨inN (by omega), x + 1, hlt, Nat.sub_lt_sub_left hlt (Nat.lt_succ_self x), rfl⟩⟩⟩⟩
  · exfalso
    rw [Bool.or_eq_true, decide_eq_true_eq, decide_eq_true_eq] at q2
    have aux : ∀ (u : Int) (n : Nat), 0 ≤ u → u ≤ (n : Int) → ¬ (u < 0 ∨ (n : Int) < u) := by intro u n; omega
    exact aux _ _ hx2.1 hx2.2.1 q2
  · have hy2 : y < x := ltN q3
    have hylt : y < (ledOf l).ms.length := by omega
    have wy : within (ofN y) (ledOf l).ms.length := wN hylt
    have hyo := has_ok (hA y hylt)
    have i1 : inI64 (ofN y + 1) := inN (by omega)
    rw [show Int.toNat (ofN y) = y from rfl, List.drop_zero, List.drop_zero]
    refine ⟨wx, wy, fun q4 => ⟨⟨hx2.1, hx2.2.1⟩, fun q5 => ?_, fun _ => ⟨i1, y + 1, hy2, Nat.sub_lt_sub_left hy2 (Nat.lt_succ_self y), rfl⟩⟩, fun q4 => ⟨⟨hyo.1, hyo.2.1⟩, fun q5 => ?_, fun _ => ⟨i1, y + 1, hy2, Nat.sub_lt_sub_left hy2 (Nat.lt_succ_self y), rfl⟩⟩⟩
    · exfalso
      have q4 := of_decide_eq_true q4
      have h2 := has_low (hA y hylt) (hA x hlt) (Int.le_of_lt q4)
      have q5 : (!hasV ((fewT 30 rs).take (headM ((ledOf l).ms.getD x T_Mark.dflt)).1.toNat) (headM ((ledOf l).ms.getD y T_Mark.dflt))) = true := q5
      rw [h2] at q5; cases q5
    · exfalso
      have q4 := of_decide_eq_false q4
      have h2 := has_low (hA x hlt) (hA y hylt) (Int.not_lt.1 q4)
      have q5 : (!hasV ((fewT 30 rs).take (headM ((ledOf l).ms.getD y T_Mark.dflt)).1.toNat) (headM ((ledOf l).ms.getD x T_Mark.dflt))) = true := q5
      rw [h2] at q5; cases q5

theorem check_cats (ms : List Mark) (a b : List Rec) : withinV (checkB ms [a]) (checkB ms [a, b]) = true := by
  rw [within_iff]
  intro x hx
  rw [mem_check] at hx ⊢
  rcases hx with ⟨i, hi, h1, h2⟩ | h | ⟨i, k, hi, hk, h1, h2⟩ | ⟨e, he, h2⟩
  · obtain rfl : i = 0 := by simp at hi; omega
    exact .inl ⟨0, by simp, h1, h2⟩
  · exact .inr (.inl h)
  · obtain rfl : i = 0 := by simp at hi; omega
    exact .inr (.inr (.inl ⟨0, k, by simp, hk, h1, h2⟩))
  · refine .inr (.inr (.inr ⟨e, ?_, h2⟩))
    rw [mem_leadsV] at he ⊢
    obtain ⟨u, hu, v, hv, r⟩ := he
    have hm : ∀ w ∈ [a].flatten, w ∈ [a, b].flatten := fun w hw => by simp at hw ⊢; exact .inl hw
    exact ⟨u, hm u hu, v, hm v hv, r⟩
theorem check_marks (ms t : List Mark) (cats : Cats) : withinV (checkB ms cats) (checkB (ms ++ t) cats) = true := by
  rw [within_iff]
  intro x hx
  have hg : ∀ k, k < ms.length → (ms ++ t).getD k T_Mark.dflt = ms.getD k T_Mark.dflt := fun k hk => by
    rw [List.getD_eq_getElem?_getD, List.getD_eq_getElem?_getD, List.getElem?_append_left hk]
  rw [mem_check] at hx ⊢
  rcases hx with h | ⟨k, i, hk, hi, h1, h2⟩ | ⟨i, k, hi, hk, h1, h2⟩ | h
  · exact .inl h
  · refine .inr (.inl ⟨k, i, by rw [List.length_append]; omega, hi, ?_, h2⟩)
    unfold apartB at h1 ⊢
    rw [hg k hk, hg i (by omega)]; exact h1
  · exact .inr (.inr (.inl ⟨i, k, hi, by rw [List.length_append]; omega, by rw [hg k hk]; exact h1, h2⟩))
  · exact .inr (.inr (.inr h))
theorem act_ms (s : LedS) (a : Act) : ∃ t, (actL s a).ms = s.ms ++ t := by
  unfold actL
  cases (!smallV a) with
  | true => exact ⟨[], (List.append_nil _).symm⟩
  | false =>
    cases a.1 with
    | true =>
      show ∃ t, tellM s.ms s.at_ (toldOf a) = s.ms ++ t
      unfold tellM
      cases (!decide ((toldOf a).1 < s.at_) && (toldOf a).2.2.1 == 1) with
      | true => exact ⟨_, rfl⟩
      | false => exact ⟨[], (List.append_nil _).symm⟩
    | false => exact ⟨[], (List.append_nil _).symm⟩
theorem more_snoc {l more : List Act} {k : Nat} (h : k < more.length) : moreL l more (k + 1) = actL (moreL l more k) (more.getD k T_Act.dflt) := by
  unfold moreL
  rw [take_snoc' (d := T_Act.dflt) h, List.foldl_append]; rfl
theorem more_ok (l more : List Act) : ∀ k, LedOk (moreL l more k) (60 + k) ∧ ∃ t, (moreL l more k).ms = (ledOf l).ms ++ t
  | 0 => ⟨led_ok l, [], (List.append_nil _).symm⟩
  | k + 1 => by
    obtain ⟨h1, t, h2⟩ := more_ok l more k
    by_cases hk : k < more.length
    · rw [more_snoc hk]
      obtain ⟨t', h3⟩ := act_ms (moreL l more k) (more.getD k T_Act.dflt)
      exact ⟨act_ok h1 _, t ++ t', by rw [h3, h2, List.append_assoc]⟩
    · have e : moreL l more (k + 1) = moreL l more k := by unfold moreL; rw [List.take_of_length_le (by omega), List.take_of_length_le (by omega)]
      rw [e]
      exact ⟨⟨Nat.le_succ_of_le h1.wl, Nat.le_succ_of_le h1.ml, h1.bl, h1.fst⟩, t, h2⟩
theorem okC2 {ms : List Mark} (h : ms.length ≤ 1000) (a b : List Rec) : okC ms [fewT 30 a, fewT 30 b] := by
  have h1 := few_len 30 a
  have h2 := few_len 30 b
  refine ⟨by show 2 ≤ 4; decide, h, ?_⟩
  rw [List.flatten_cons, List.flatten_singleton, List.length_append]; omega

theorem law24_More_vc (l more : List Act) (a b : List Rec) :
    (false = true → false = true) ∧
      (false = false →
      (false = true → false = true) ∧
      (false = false →
      okC (ledOf l).3 [fewT 30 a] ∧
      okC (ledOf l).3 [fewT 30 a, fewT 30 b] ∧
      ((!withinV (checkB (ledOf l).3 [fewT 30 a]) (checkB (ledOf l).3 [fewT 30 a, fewT 30 b])) = true → false = true) ∧
      ((!withinV (checkB (ledOf l).3 [fewT 30 a]) (checkB (ledOf l).3 [fewT 30 a, fewT 30 b])) = false →
      (∃ (x : Nat),
      (x ≤ List.length more ∧ x ≤ 60) ∧
      0 = ofN x ∧ (ledOf l).4 = (moreL l more x).4 ∧ (ledOf l).1 = (moreL l more x).1 ∧ (ledOf l).2 = (moreL l more x).2 ∧ (ledOf l).3 = (moreL l more x).3) ∧
      ∀ (x : Nat),
      x ≤ List.length more ∧ x ≤ 60 →
      ((decide (ofN x < ofN (List.length more)) && decide (ofN x < 60)) = true →
      within (ofN x) (List.length more) ∧
      ((!smallV
      (List.getD more (Int.toNat (ofN x))
      (T.dflt
      T_Act))) =
      true →
      inI64 (ofN x + 1) ∧
      ∃ (x' : Nat),
      (x' ≤ List.length more ∧ x' ≤ 60) ∧
      60 - x' < 60 - x ∧
      ofN x + 1 = ofN x' ∧
      (moreL l more x).4 = (moreL l more x').4 ∧
      (moreL l more x).1 = (moreL l more x').1 ∧ (moreL l more x).2 = (moreL l more x').2 ∧ (moreL l more x).3 = (moreL l more x').3) ∧
      ((!smallV
      (List.getD more (Int.toNat (ofN x))
      (T.dflt
      T_Act))) =
      false →
      within (ofN x) (List.length more) ∧
      ((List.getD more (Int.toNat (ofN x))
      (T.dflt
      T_Act)).1 =
      true →
      within (ofN x) (List.length more) ∧
      List.length (moreL l more x).3 ≤ 65536 ∧
      inI64 (ofN x + 1) ∧
      ∃ (x' : Nat),
      (x' ≤ List.length more ∧ x' ≤ 60) ∧
      60 - x' < 60 - x ∧
      ofN x + 1 = ofN x' ∧
      laterA (moreL l more x).4
      (List.getD more (Int.toNat (ofN x))
      (T.dflt
      T_Act)).2.2.2.2.2.2.2.2.2.2.2.2.2.2.2.2.2.2.2.2.1 =
      (moreL l more x').4 ∧
      (moreL l more x).1 = (moreL l more x').1 ∧
      (moreL l more x).2 = (moreL l more x').2 ∧
      tellM (moreL l more x).3 (moreL l more x).4
      (List.getD more (Int.toNat (ofN x))
      (T.dflt
      T_Act)).2.2.2.2.2.2.2.2.2.2.2.2.2.2.2.2.2.2.2.2 =
      (moreL l more x').3) ∧
      ((List.getD more (Int.toNat (ofN x))
      (T.dflt
      T_Act)).1 =
      false →
      within (ofN x) (List.length more) ∧
      within (ofN x) (List.length more) ∧
      within (ofN x) (List.length more) ∧
      (List.length (moreL l more x).1 ≤ 65536 ∧
      List.length
      (List.getD more (Int.toNat (ofN x))
      (T.dflt
      T_Act)).2.2.2.2.2.1 ≤
      65536) ∧
      inI64 (ofN x + 1) ∧
      ∃ (x' : Nat),
      (x' ≤ List.length more ∧ x' ≤ 60) ∧
      60 - x' < 60 - x ∧
      ofN x + 1 = ofN x' ∧
      laterA (moreL l more x).4
      (List.getD more (Int.toNat (ofN x))
      (T.dflt
      T_Act)).2.1 =
      (moreL l more x').4 ∧
      noteW (moreL l more x).1 (moreL l more x).4
      (List.getD more (Int.toNat (ofN x))
      (T.dflt
      T_Act)).2.1
      ((List.getD more (Int.toNat (ofN x))
      (T.dflt
      T_Act)).2.2.1,
      (List.getD more (Int.toNat (ofN x))
      (T.dflt
      T_Act)).2.2.2.1,
      (List.getD more (Int.toNat (ofN x))
      (T.dflt
      T_Act)).2.2.2.2.1,
      (List.getD more (Int.toNat (ofN x))
      (T.dflt
      T_Act)).2.2.2.2.2.1,
      (List.getD more (Int.toNat (ofN x))
      (T.dflt
      T_Act)).2.2.2.2.2.2.1,
      (List.getD more (Int.toNat (ofN x))
      (T.dflt
      T_Act)).2.2.2.2.2.2.2.1,
      (List.getD more (Int.toNat (ofN x))
      (T.dflt
      T_Act)).2.2.2.2.2.2.2.2.1)
      ((List.getD more (Int.toNat (ofN x))
      (T.dflt
      T_Act)).2.2.2.2.2.2.2.2.2.1,
      (List.getD more (Int.toNat (ofN x))
      (T.dflt
      T_Act)).2.2.2.2.2.2.2.2.2.2.1,
      (List.getD more (Int.toNat (ofN x))
      (T.dflt
      T_Act)).2.2.2.2.2.2.2.2.2.2.2.1,
      (List.getD more (Int.toNat (ofN x))
      (T.dflt
      T_Act)).2.2.2.2.2.2.2.2.2.2.2.2.1,
      (List.getD more (Int.toNat (ofN x))
      (T.dflt
      T_Act)).2.2.2.2.2.2.2.2.2.2.2.2.2.1,
      (List.getD more (Int.toNat (ofN x))
      (T.dflt
      T_Act)).2.2.2.2.2.2.2.2.2.2.2.2.2.2.1,
      (List.getD more (Int.toNat (ofN x))
      (T.dflt
      T_Act)).2.2.2.2.2.2.2.2.2.2.2.2.2.2.2.1,
      (List.getD more (Int.toNat (ofN x))
      (T.dflt
      T_Act)).2.2.2.2.2.2.2.2.2.2.2.2.2.2.2.2.1,
      (List.getD more (Int.toNat (ofN x))
      (T.dflt
      T_Act)).2.2.2.2.2.2.2.2.2.2.2.2.2.2.2.2.2.1,
      (List.getD more (Int.toNat (ofN x))
      (T.dflt
      T_Act)).2.2.2.2.2.2.2.2.2.2.2.2.2.2.2.2.2.2.1,
      (List.getD more (Int.toNat (ofN x))
      (T.dflt
      T_Act)).2.2.2.2.2.2.2.2.2.2.2.2.2.2.2.2.2.2.2.1) =
      (moreL l more x').1 ∧
      noteF (moreL l more x).1 (moreL l more x).2 (moreL l more x).4
      (List.getD more (Int.toNat (ofN x))
      (T.dflt
      T_Act)).2.1
      ((List.getD more (Int.toNat (ofN x))
      (T.dflt
      T_Act)).2.2.1,
      (List.getD more (Int.toNat (ofN x))
      (T.dflt
      T_Act)).2.2.2.1,
      (List.getD more (Int.toNat (ofN x))
      (T.dflt
      T_Act)).2.2.2.2.1,
      (List.getD more (Int.toNat (ofN x))
      (T.dflt
      T_Act)).2.2.2.2.2.1,
      (List.getD more (Int.toNat (ofN x))
      (T.dflt
      T_Act)).2.2.2.2.2.2.1,
      (List.getD more (Int.toNat (ofN x))
      (T.dflt
      T_Act)).2.2.2.2.2.2.2.1,
      (List.getD more (Int.toNat (ofN x))
      (T.dflt
      T_Act)).2.2.2.2.2.2.2.2.1)
      ((List.getD more (Int.toNat (ofN x))
      (T.dflt
      T_Act)).2.2.2.2.2.2.2.2.2.1,
      (List.getD more (Int.toNat (ofN x))
      (T.dflt
      T_Act)).2.2.2.2.2.2.2.2.2.2.1,
      (List.getD more (Int.toNat (ofN x))
      (T.dflt
      T_Act)).2.2.2.2.2.2.2.2.2.2.2.1,
      (List.getD more (Int.toNat (ofN x))
      (T.dflt
      T_Act)).2.2.2.2.2.2.2.2.2.2.2.2.1,
      (List.getD more (Int.toNat (ofN x))
      (T.dflt
      T_Act)).2.2.2.2.2.2.2.2.2.2.2.2.2.1,
      (List.getD more (Int.toNat (ofN x))
      (T.dflt
      T_Act)).2.2.2.2.2.2.2.2.2.2.2.2.2.2.1,
      (List.getD more (Int.toNat (ofN x))
      (T.dflt
      T_Act)).2.2.2.2.2.2.2.2.2.2.2.2.2.2.2.1,
      (List.getD more (Int.toNat (ofN x))
      (T.dflt
      T_Act)).2.2.2.2.2.2.2.2.2.2.2.2.2.2.2.2.1,
      (List.getD more (Int.toNat (ofN x))
      (T.dflt
      T_Act)).2.2.2.2.2.2.2.2.2.2.2.2.2.2.2.2.2.1,
      (List.getD more (Int.toNat (ofN x))
      (T.dflt
      T_Act)).2.2.2.2.2.2.2.2.2.2.2.2.2.2.2.2.2.2.1,
      (List.getD more (Int.toNat (ofN x))
      (T.dflt
      T_Act)).2.2.2.2.2.2.2.2.2.2.2.2.2.2.2.2.2.2.2.1) =
      (moreL l more x').2 ∧
      (moreL l more x).3 = (moreL l more x').3))) ∧
      ((decide (ofN x < ofN (List.length more)) && decide (ofN x < 60)) = false →
      okC (moreL l more x).3 [fewT 30 a, fewT 30 b] ∧ withinV (checkB (ledOf l).3 [fewT 30 a, fewT 30 b]) (checkB (moreL l more x).3 [fewT 30 a, fewT 30 b]) = true)))) := by
  have hok := led_ok l
  have hml := hok.ml
  refine ⟨(fun q => nomatch q), fun _ => ⟨(fun q => nomatch q), fun _ => ⟨few_okC1 l a, okC2 (by omega) a b, fun q => ?_, fun _ => ⟨⟨0, ⟨Nat.zero_le _, Nat.zero_le _⟩, rfl, rfl, rfl, rfl, rfl⟩, fun x hx => ⟨fun q => ?_, fun q => ?_⟩⟩⟩⟩⟩
  · rw [check_cats] at q; cases q
  · rw [Bool.and_eq_true] at q
    have hlt : x < more.length := ltN q.1
    have h60 : x < 60 := ltN (n := 60) q.2
    have st := more_snoc (l := l) hlt
    have hk := (more_ok l more x).1
    have hwl := hk.wl
    have hml := hk.ml
    rw [show Int.toNat (ofN x) = x from rfl]
    generalize more.getD x T_Act.dflt = c at st ⊢
    have w0 : within (ofN x) more.length := wN hlt
    have i1 : inI64 (ofN x + 1) := inN (by omega)
    have hb : (!smallV c) = false → c.2.2.2.2.2.1.length ≤ 65536 := fun q2 => by
      have q2 : smallV c = true := by simpa using q2
      unfold smallV at q2
      rw [Bool.and_eq_true, decide_eq_true_eq, decide_eq_true_eq] at q2
      have := q2.1
      omega
    refine ⟨w0, fun q2 => ⟨i1, x + 1, ⟨hlt, h60⟩, by omega, rfl, ?_⟩, fun q2 => ⟨w0, fun q3 => ⟨w0, by omega, i1, x + 1, ⟨hlt, h60⟩, by omega, rfl, ?_⟩, fun q3 => ⟨w0, w0, w0, ⟨by omega, hb q2⟩, i1, x + 1, ⟨hlt, h60⟩, by omega, rfl, ?_⟩⟩⟩
    · have e : actL (moreL l more x) c = moreL l more x := by unfold actL; rw [q2]; rfl
      rw [st, e]
      exact ⟨rfl, rfl, rfl, rfl⟩
    · have e : actL (moreL l more x) c = ⟨(moreL l more x).ws, (moreL l more x).first, tellM (moreL l more x).ms (moreL l more x).at_ (toldOf c), laterA (moreL l more x).at_ (toldOf c).1⟩ := by unfold actL; rw [q2, q3]; rfl
      rw [st, e]
      exact ⟨rfl, rfl, rfl, rfl⟩
    · have e : actL (moreL l more x) c = ⟨noteW (moreL l more x).ws (moreL l more x).at_ c.2.1 (deedOf c) (shownOf c), noteF (moreL l more x).ws (moreL l more x).first (moreL l more x).at_ c.2.1 (deedOf c) (shownOf c), (moreL l more x).ms, laterA (moreL l more x).at_ c.2.1⟩ := by unfold actL; rw [q2, q3]; rfl
      rw [st, e]
      exact ⟨rfl, rfl, rfl, rfl⟩
  · obtain ⟨hk, t, ht⟩ := more_ok l more x
    have := hk.ml
    refine ⟨okC2 (by omega) a b, ?_⟩
    show withinV (checkB (ledOf l).ms [fewT 30 a, fewT 30 b]) (checkB (moreL l more x).ms [fewT 30 a, fewT 30 b]) = true
    rw [ht]
    exact check_marks _ _ _

theorem walk_fwd : ∀ (l : List Rec) (h : HeadT) (i : Nat) (r : Rec), (walkV h l i).2.2 = 0 → (nextV (walkV h l i).1 r).2 = 0 → (walkV h (l ++ [r]) i).2.2 = 0 ∧ (walkV h (l ++ [r]) i).1 = (nextV (walkV h l i).1 r).1
  | [], h, i, r, _, g2 => by
    have g2 : (nextV h r).2 = 0 := g2
    rw [List.nil_append]
    show (walkV h [r] i).2.2 = 0 ∧ (walkV h [r] i).1 = (nextV h r).1
    unfold walkV
    rw [if_pos g2]
    exact ⟨rfl, rfl⟩
  | x :: l, h, i, r, g, g2 => by
    rw [List.cons_append]
    unfold walkV at g g2 ⊢
    by_cases g1 : (nextV h x).2 = 0
    · rw [if_pos g1] at g g2
      rw [if_pos g1, if_pos g1]
      exact walk_fwd l _ _ r g g2
    · rw [if_neg g1] at g
      exact absurd g g1
def recP (path : Bytes) : Rec := (0, 0, List.replicate 32 0#8, 2, 0, path, [])
theorem rOf_none {ws : List Noted} {h : HeadT} (g : (rOfV ws h).2 = false) : ws.find? (isH h) = none := by
  unfold rOfV at g
  cases hf : ws.find? (isH h) with
  | none => rfl
  | some w => rw [hf] at g; cases g
theorem puts_end {s : LedS} {n : Nat} (hok : LedOk s n) (hn : n ≤ 60000) {rs : List Rec} {path b : Bytes} (hb : b.length ≤ 2000) (hp : path.length ≤ 300) {h0 : HeadT} (e0 : (walkV head0 rs 0).1 = h0) (hw : (walkV head0 rs 0).2.2 = 0) (hm : (makeV h0 (recP path)).2 = 0) (hno : (rOfV s.ws (nextV h0 (makeV h0 (recP path)).1).1).2 = false) :
    (okW (noteW s.ws s.at_ s.at_ (1, 0, path, b, 0, 0, []) (0, (nextV h0 (makeV h0 (recP path)).1).1.1, (nextV h0 (makeV h0 (recP path)).1).1.2.1, (nextV h0 (makeV h0 (recP path)).1).1.2.2, 0, 0, 0, List.replicate 32 0#8, List.replicate 32 0#8, [], 0)) ∧
      firstsOk (noteW s.ws s.at_ s.at_ (1, 0, path, b, 0, 0, []) (0, (nextV h0 (makeV h0 (recP path)).1).1.1, (nextV h0 (makeV h0 (recP path)).1).1.2.1, (nextV h0 (makeV h0 (recP path)).1).1.2.2, 0, 0, 0, List.replicate 32 0#8, List.replicate 32 0#8, [], 0))
        (noteF s.ws s.first s.at_ s.at_ (1, 0, path, b, 0, 0, []) (0, (nextV h0 (makeV h0 (recP path)).1).1.1, (nextV h0 (makeV h0 (recP path)).1).1.2.1, (nextV h0 (makeV h0 (recP path)).1).1.2.2, 0, 0, 0, List.replicate 32 0#8, List.replicate 32 0#8, [], 0))) ∧
    (fileB (ofV (noteW s.ws s.at_ s.at_ (1, 0, path, b, 0, 0, []) (0, (nextV h0 (makeV h0 (recP path)).1).1.1, (nextV h0 (makeV h0 (recP path)).1).1.2.1, (nextV h0 (makeV h0 (recP path)).1).1.2.2, 0, 0, 0, List.replicate 32 0#8, List.replicate 32 0#8, [], 0))
        (noteF s.ws s.first s.at_ s.at_ (1, 0, path, b, 0, 0, []) (0, (nextV h0 (makeV h0 (recP path)).1).1.1, (nextV h0 (makeV h0 (recP path)).1).1.2.1, (nextV h0 (makeV h0 (recP path)).1).1.2.2, 0, 0, 0, List.replicate 32 0#8, List.replicate 32 0#8, [], 0)))
        (rs ++ [(makeV h0 (recP path)).1]) path &&
      fileV (ofV (noteW s.ws s.at_ s.at_ (1, 0, path, b, 0, 0, []) (0, (nextV h0 (makeV h0 (recP path)).1).1.1, (nextV h0 (makeV h0 (recP path)).1).1.2.1, (nextV h0 (makeV h0 (recP path)).1).1.2.2, 0, 0, 0, List.replicate 32 0#8, List.replicate 32 0#8, [], 0))
        (noteF s.ws s.first s.at_ s.at_ (1, 0, path, b, 0, 0, []) (0, (nextV h0 (makeV h0 (recP path)).1).1.1, (nextV h0 (makeV h0 (recP path)).1).1.2.1, (nextV h0 (makeV h0 (recP path)).1).1.2.2, 0, 0, 0, List.replicate 32 0#8, List.replicate 32 0#8, [], 0)))
        (rs ++ [(makeV h0 (recP path)).1]) path == b) = true := by
  obtain ⟨m1, m2, m3⟩ := make_ok hm
  have hnx : (nextV h0 (makeV h0 (recP path)).1).2 = 0 := by rw [m1]; unfold nextV; rw [if_pos m2, if_pos m3]
  have hk : (makeV h0 (recP path)).1.2.2.2.1 = 2 := by rw [m1]; rfl
  have hpa : (makeV h0 (recP path)).1.2.2.2.2.2.1 = path := by rw [m1]; rfl
  generalize (makeV h0 (recP path)).1 = y at hnx hk hpa hno ⊢
  generalize hg : (nextV h0 y).1 = g at hno ⊢
  let a : Act := (false, s.at_, 1, 0, path, b, 0, 0, [], 0, g.1, g.2.1, g.2.2, 0, 0, 0, List.replicate 32 0#8, List.replicate 32 0#8, [], 0, T_Told.dflt)
  have hsm : smallV a = true := by
    show (decide ((b.length : Int) ≤ 2000) && decide ((path.length : Int) ≤ 300)) = true
    rw [Bool.and_eq_true, decide_eq_true_eq, decide_eq_true_eq]; omega
  have e : actL s a = ⟨noteW s.ws s.at_ s.at_ (deedOf a) (shownOf a), noteF s.ws s.first s.at_ s.at_ (deedOf a) (shownOf a), s.ms, laterA s.at_ s.at_⟩ := by unfold actL; rw [hsm]; rfl
  have hok2 := act_ok hok a
  rw [e] at hok2
  have q1 := ok_okW hok2 (by omega)
  have q2 := ok_firsts hok2
  have q3 := ok_of hok2
  refine ⟨⟨q1, q2⟩, ?_⟩
  show (fileB (ofV (noteW s.ws s.at_ s.at_ (deedOf a) (shownOf a)) (noteF s.ws s.first s.at_ s.at_ (deedOf a) (shownOf a))) (rs ++ [y]) path && fileV (ofV (noteW s.ws s.at_ s.at_ (deedOf a) (shownOf a)) (noteF s.ws s.first s.at_ s.at_ (deedOf a) (shownOf a))) (rs ++ [y]) path == b) = true
  rw [show ofV (noteW s.ws s.at_ s.at_ (deedOf a) (shownOf a)) (noteF s.ws s.first s.at_ s.at_ (deedOf a) (shownOf a)) = rOfV (noteW s.ws s.at_ s.at_ (deedOf a) (shownOf a)) from q3]
  have hputs : putsV s.at_ s.at_ (deedOf a) (shownOf a) = true := by
    unfold putsV
    rw [show decide (s.at_ < s.at_) = false from decide_eq_false (Int.lt_irrefl _)]; rfl
  have hW : noteW s.ws s.at_ s.at_ (deedOf a) (shownOf a) = s.ws ++ [notedV s.at_ (deedOf a) (shownOf a)] := by unfold noteW; rw [hputs]; rfl
  have hR : rOfV (noteW s.ws s.at_ s.at_ (deedOf a) (shownOf a)) g = (notedV s.at_ (deedOf a) (shownOf a), true) := by
    unfold rOfV
    rw [hW, List.find?_append, rOf_none hno]
    have : isH g (notedV s.at_ (deedOf a) (shownOf a)) = true := decide_eq_true rfl
    rw [List.find?_cons_of_pos this]; rfl
  have hit : hitV path y = true := by
    unfold hitV
    rw [hpa, hk]; simp
  have hlen : (rs ++ [y]).length = rs.length + 1 := by rw [List.length_append]; rfl
  have hgd : (rs ++ [y]).getD rs.length T_Rec.dflt = y := getDB _ _ _
  have hlast : lastN path (rs ++ [y]) (rs ++ [y]).length = rs.length + 1 := by rw [hlen]; exact lastN_hit (by rw [hgd]; exact hit)
  have htk : (rs ++ [y]).take (rs.length + 1) = rs ++ [y] := List.take_of_length_le (by rw [hlen]; exact Nat.le_refl _)
  have hwf := walk_fwd rs head0 0 y hw (by rw [e0]; exact hnx)
  have f1 : noPut path (rs ++ [y]) = false := by
    unfold noPut
    rw [hlast, Nat.add_sub_cancel, hgd, hk]
    rw [show decide (((rs.length + 1 : Nat) : Int) = 0) = false from decide_eq_false (by omega)]; rfl
  have f2 : (walkE path (rs ++ [y]) != 0) = false := by
    unfold walkE
    rw [hlast, htk, hwf.1]; rfl
  have f3 : headAtV path (rs ++ [y]) = g := by
    unfold headAtV
    rw [hlast, htk, hwf.2, e0, hg]
  have f4 : missV path (rOfV (noteW s.ws s.at_ s.at_ (deedOf a) (shownOf a)) (headAtV path (rs ++ [y]))) = false := by
    rw [f3, hR]
    unfold missV
    show (!true || ((1 : Int) == 2) || !(path == path)) = false
    simp
  have f5 := file_ok f1 f2 f4
  rw [← f5.1, ← f5.2, f3, hR]
  show (true && (bif ((1 : Int) == 2) then [] else b) == b) = true
  simp

theorem law24_Puts_vc (l : List Act) (rs : List Rec) (path b : Bytes) :
    (false = true → false = true) ∧
      (false = false →
      (false = true → false = true) ∧
      (false = false →
      ((decide (2000 < ofN (List.length b)) || decide (300 < ofN (List.length path))) = true → true = true) ∧
      ((decide (2000 < ofN (List.length b)) || decide (300 < ofN (List.length path))) = false →
      (okW (ledOf l).1 ∧ firstsOk (ledOf l).1 (ledOf l).2) ∧
      (∃ (x : Nat),
      x ≤ List.length (ledOf l).1 ∧
      0 = ofN x ∧ (!fileB (ofV (ledOf l).1 (ledOf l).2) (fewT 30 rs) path) = (!fileI l (fewT 30 rs) path || anyW path (fileG l (fewT 30 rs) path) (ledOf l).1 x)) ∧
      ∀ (x : Nat),
      x ≤ List.length (ledOf l).1 →
      (decide (ofN x < ofN (List.length (ledOf l).1)) = true →
      ((!fileI l (fewT 30 rs) path || anyW path (fileG l (fewT 30 rs) path) (ledOf l).1 x) = false → within (ofN x) (List.length (ledOf l).1)) ∧
      ((!fileI l (fewT 30 rs) path || anyW path (fileG l (fewT 30 rs) path) (ledOf l).1 x) = false → Int.toNat (ofN x) < List.length (ledOf l).1) ∧
      ((!fileI l (fewT 30 rs) path || anyW path (fileG l (fewT 30 rs) path) (ledOf l).1 x) = false →
      ((List.getD (ledOf l).1 (Int.toNat (ofN x))
      (T.dflt
      T_Noted)).2.2.2.2.2.1 ==
      path) =
      true →
      within (ofN x) (List.length (ledOf l).1)) ∧
      ((!fileI l (fewT 30 rs) path || anyW path (fileG l (fewT 30 rs) path) (ledOf l).1 x) = false →
      ((List.getD (ledOf l).1 (Int.toNat (ofN x))
      (T.dflt
      T_Noted)).2.2.2.2.2.1 ==
      path) =
      true →
      Int.toNat (ofN x) < List.length (ledOf l).1) ∧
      ((!fileI l (fewT 30 rs) path || anyW path (fileG l (fewT 30 rs) path) (ledOf l).1 x) = false →
      ((List.getD (ledOf l).1 (Int.toNat (ofN x))
      (T.dflt
      T_Noted)).2.2.2.2.2.1 ==
      path &&
      !(List.getD (ledOf l).1 (Int.toNat (ofN x))
      (T.dflt
      T_Noted)).2.2.2.2.2.2.2) =
      true →
      within (ofN x) (List.length (ledOf l).1)) ∧
      ((!fileI l (fewT 30 rs) path || anyW path (fileG l (fewT 30 rs) path) (ledOf l).1 x) = false →
      ((List.getD (ledOf l).1 (Int.toNat (ofN x))
      (T.dflt
      T_Noted)).2.2.2.2.2.1 ==
      path &&
      !(List.getD (ledOf l).1 (Int.toNat (ofN x))
      (T.dflt
      T_Noted)).2.2.2.2.2.2.2) =
      true →
      Int.toNat (ofN x) < List.length (ledOf l).1) ∧
      inI64 (ofN x + 1) ∧
      ∃ (x' : Nat),
      x' ≤ List.length (ledOf l).1 ∧
      List.length (ledOf l).1 - x' < List.length (ledOf l).1 - x ∧
      ofN x + 1 = ofN x' ∧
      (!fileI l (fewT 30 rs) path || anyW path (fileG l (fewT 30 rs) path) (ledOf l).1 x ||
      (List.getD (ledOf l).1 (Int.toNat (ofN x))
      (T.dflt
      T_Noted)).2.2.2.2.2.1 ==
      path &&
      !(List.getD (ledOf l).1 (Int.toNat (ofN x))
      (T.dflt
      T_Noted)).2.2.2.2.2.2.2 &&
      (List.getD (ledOf l).1 (Int.toNat (ofN x))
      (T.dflt
      T_Noted)).2.2.2.2.2.2.1 ==
      fileV (ofV (ledOf l).1 (ledOf l).2) (fewT 30 rs) path) =
      (!fileI l (fewT 30 rs) path || anyW path (fileG l (fewT 30 rs) path) (ledOf l).1 x')) ∧
      (decide (ofN x < ofN (List.length (ledOf l).1)) = false →
      ((!(!fileI l (fewT 30 rs) path || anyW path (fileG l (fewT 30 rs) path) (ledOf l).1 x) || (walkV (ofN 0, ofN 0, List.replicate 32 0#8) (fewT 30 rs) 0).2.2 != 0) = true →
      (!fileI l (fewT 30 rs) path || anyW path (fileG l (fewT 30 rs) path) (ledOf l).1 x) = true) ∧
      ((!(!fileI l (fewT 30 rs) path || anyW path (fileG l (fewT 30 rs) path) (ledOf l).1 x) || (walkV (ofN 0, ofN 0, List.replicate 32 0#8) (fewT 30 rs) 0).2.2 != 0) = false →
      List.length (nilOf (List (BitVec 8) × Int)) ≤ ROOM ∧
      (((makeV (walkV (ofN 0, ofN 0, List.replicate 32 0#8) (fewT 30 rs) 0).1 (ofN 0, ofN 0, List.replicate 32 0#8, 2, ofN 0, path, nilOf (List (BitVec 8) × Int))).2 != 0) =
      true →
      true = true) ∧
      (((makeV (walkV (ofN 0, ofN 0, List.replicate 32 0#8) (fewT 30 rs) 0).1 (ofN 0, ofN 0, List.replicate 32 0#8, 2, ofN 0, path, nilOf (List (BitVec 8) × Int))).2 != 0) =
      false →
      ((rOfV (ledOf l).1
      (nextV (walkV (ofN 0, ofN 0, List.replicate 32 0#8) (fewT 30 rs) 0).1
      (makeV (walkV (ofN 0, ofN 0, List.replicate 32 0#8) (fewT 30 rs) 0).1
      (ofN 0, ofN 0, List.replicate 32 0#8, 2, ofN 0, path, nilOf (List (BitVec 8) × Int))).1).1).2 =
      true →
      true = true) ∧
      ((rOfV (ledOf l).1
      (nextV (walkV (ofN 0, ofN 0, List.replicate 32 0#8) (fewT 30 rs) 0).1
      (makeV (walkV (ofN 0, ofN 0, List.replicate 32 0#8) (fewT 30 rs) 0).1
      (ofN 0, ofN 0, List.replicate 32 0#8, 2, ofN 0, path, nilOf (List (BitVec 8) × Int))).1).1).2 =
      false →
      (List.length (ledOf l).1 ≤ 65536 ∧ List.length b ≤ 65536) ∧
      List.length (nilOf (Int × Int × List (BitVec 8) × Int × Int × List (BitVec 8) × List (List (BitVec 8) × Int))) + List.length (fewT 30 rs) ≤ ROOM ∧
      List.length (nilOf (Int × Int × List (BitVec 8) × Int × Int × List (BitVec 8) × List (List (BitVec 8) × Int)) ++ fewT 30 rs) +
      List.length
      [(makeV (walkV (ofN 0, ofN 0, List.replicate 32 0#8) (fewT 30 rs) 0).1
      (ofN 0, ofN 0, List.replicate 32 0#8, 2, ofN 0, path, nilOf (List (BitVec 8) × Int))).1] ≤
      ROOM ∧
      (okW
      (noteW (ledOf l).1 (ledOf l).4 (ledOf l).4 (1, ofN 0, path, b, ofN 0, ofN 0, nilOf Bool)
      (ofN 0,
      (nextV (walkV (ofN 0, ofN 0, List.replicate 32 0#8) (fewT 30 rs) 0).1
      (makeV (walkV (ofN 0, ofN 0, List.replicate 32 0#8) (fewT 30 rs) 0).1
      (ofN 0, ofN 0, List.replicate 32 0#8, 2, ofN 0, path, nilOf (List (BitVec 8) × Int))).1).1.1,
      (nextV (walkV (ofN 0, ofN 0, List.replicate 32 0#8) (fewT 30 rs) 0).1
      (makeV (walkV (ofN 0, ofN 0, List.replicate 32 0#8) (fewT 30 rs) 0).1
      (ofN 0, ofN 0, List.replicate 32 0#8, 2, ofN 0, path, nilOf (List (BitVec 8) × Int))).1).1.2.1,
      (nextV (walkV (ofN 0, ofN 0, List.replicate 32 0#8) (fewT 30 rs) 0).1
      (makeV (walkV (ofN 0, ofN 0, List.replicate 32 0#8) (fewT 30 rs) 0).1
      (ofN 0, ofN 0, List.replicate 32 0#8, 2, ofN 0, path, nilOf (List (BitVec 8) × Int))).1).1.2.2,
      ofN 0, ofN 0, ofN 0, List.replicate 32 0#8, List.replicate 32 0#8, nilOf (BitVec 8), ofN 0)) ∧
      firstsOk
      (noteW (ledOf l).1 (ledOf l).4 (ledOf l).4 (1, ofN 0, path, b, ofN 0, ofN 0, nilOf Bool)
      (ofN 0,
      (nextV (walkV (ofN 0, ofN 0, List.replicate 32 0#8) (fewT 30 rs) 0).1
      (makeV (walkV (ofN 0, ofN 0, List.replicate 32 0#8) (fewT 30 rs) 0).1
      (ofN 0, ofN 0, List.replicate 32 0#8, 2, ofN 0, path, nilOf (List (BitVec 8) × Int))).1).1.1,
      (nextV (walkV (ofN 0, ofN 0, List.replicate 32 0#8) (fewT 30 rs) 0).1
      (makeV (walkV (ofN 0, ofN 0, List.replicate 32 0#8) (fewT 30 rs) 0).1
      (ofN 0, ofN 0, List.replicate 32 0#8, 2, ofN 0, path, nilOf (List (BitVec 8) × Int))).1).1.2.1,
      (nextV (walkV (ofN 0, ofN 0, List.replicate 32 0#8) (fewT 30 rs) 0).1
      (makeV (walkV (ofN 0, ofN 0, List.replicate 32 0#8) (fewT 30 rs) 0).1
      (ofN 0, ofN 0, List.replicate 32 0#8, 2, ofN 0, path, nilOf (List (BitVec 8) × Int))).1).1.2.2,
      ofN 0, ofN 0, ofN 0, List.replicate 32 0#8, List.replicate 32 0#8, nilOf (BitVec 8), ofN 0))
      (noteF (ledOf l).1 (ledOf l).2 (ledOf l).4 (ledOf l).4 (1, ofN 0, path, b, ofN 0, ofN 0, nilOf Bool)
      (ofN 0,
      (nextV (walkV (ofN 0, ofN 0, List.replicate 32 0#8) (fewT 30 rs) 0).1
      (makeV (walkV (ofN 0, ofN 0, List.replicate 32 0#8) (fewT 30 rs) 0).1
      (ofN 0, ofN 0, List.replicate 32 0#8, 2, ofN 0, path, nilOf (List (BitVec 8) × Int))).1).1.1,
      (nextV (walkV (ofN 0, ofN 0, List.replicate 32 0#8) (fewT 30 rs) 0).1
      (makeV (walkV (ofN 0, ofN 0, List.replicate 32 0#8) (fewT 30 rs) 0).1
      (ofN 0, ofN 0, List.replicate 32 0#8, 2, ofN 0, path, nilOf (List (BitVec 8) × Int))).1).1.2.1,
      (nextV (walkV (ofN 0, ofN 0, List.replicate 32 0#8) (fewT 30 rs) 0).1
      (makeV (walkV (ofN 0, ofN 0, List.replicate 32 0#8) (fewT 30 rs) 0).1
      (ofN 0, ofN 0, List.replicate 32 0#8, 2, ofN 0, path, nilOf (List (BitVec 8) × Int))).1).1.2.2,
      ofN 0, ofN 0, ofN 0, List.replicate 32 0#8, List.replicate 32 0#8, nilOf (BitVec 8), ofN 0))) ∧
      (fileB
      (ofV
      (noteW (ledOf l).1 (ledOf l).4 (ledOf l).4 (1, ofN 0, path, b, ofN 0, ofN 0, nilOf Bool)
      (ofN 0,
      (nextV (walkV (ofN 0, ofN 0, List.replicate 32 0#8) (fewT 30 rs) 0).1
      (makeV (walkV (ofN 0, ofN 0, List.replicate 32 0#8) (fewT 30 rs) 0).1
      (ofN 0, ofN 0, List.replicate 32 0#8, 2, ofN 0, path, nilOf (List (BitVec 8) × Int))).1).1.1,
      (nextV (walkV (ofN 0, ofN 0, List.replicate 32 0#8) (fewT 30 rs) 0).1
      (makeV (walkV (ofN 0, ofN 0, List.replicate 32 0#8) (fewT 30 rs) 0).1
      (ofN 0, ofN 0, List.replicate 32 0#8, 2, ofN 0, path, nilOf (List (BitVec 8) × Int))).1).1.2.1,
      (nextV (walkV (ofN 0, ofN 0, List.replicate 32 0#8) (fewT 30 rs) 0).1
      (makeV (walkV (ofN 0, ofN 0, List.replicate 32 0#8) (fewT 30 rs) 0).1
      (ofN 0, ofN 0, List.replicate 32 0#8, 2, ofN 0, path, nilOf (List (BitVec 8) × Int))).1).1.2.2,
      ofN 0, ofN 0, ofN 0, List.replicate 32 0#8, List.replicate 32 0#8, nilOf (BitVec 8), ofN 0))
      (noteF (ledOf l).1 (ledOf l).2 (ledOf l).4 (ledOf l).4 (1, ofN 0, path, b, ofN 0, ofN 0, nilOf Bool)
      (ofN 0,
      (nextV (walkV (ofN 0, ofN 0, List.replicate 32 0#8) (fewT 30 rs) 0).1
      (makeV (walkV (ofN 0, ofN 0, List.replicate 32 0#8) (fewT 30 rs) 0).1
      (ofN 0, ofN 0, List.replicate 32 0#8, 2, ofN 0, path, nilOf (List (BitVec 8) × Int))).1).1.1,
      (nextV (walkV (ofN 0, ofN 0, List.replicate 32 0#8) (fewT 30 rs) 0).1
      (makeV (walkV (ofN 0, ofN 0, List.replicate 32 0#8) (fewT 30 rs) 0).1
      (ofN 0, ofN 0, List.replicate 32 0#8, 2, ofN 0, path, nilOf (List (BitVec 8) × Int))).1).1.2.1,
      (nextV (walkV (ofN 0, ofN 0, List.replicate 32 0#8) (fewT 30 rs) 0).1
      (makeV (walkV (ofN 0, ofN 0, List.replicate 32 0#8) (fewT 30 rs) 0).1
      (ofN 0, ofN 0, List.replicate 32 0#8, 2, ofN 0, path, nilOf (List (BitVec 8) × Int))).1).1.2.2,
      ofN 0, ofN 0, ofN 0, List.replicate 32 0#8, List.replicate 32 0#8, nilOf (BitVec 8), ofN 0)))
      (nilOf (Int × Int × List (BitVec 8) × Int × Int × List (BitVec 8) × List (List (BitVec 8) × Int)) ++ fewT 30 rs ++
      [(makeV (walkV (ofN 0, ofN 0, List.replicate 32 0#8) (fewT 30 rs) 0).1
      (ofN 0, ofN 0, List.replicate 32 0#8, 2, ofN 0, path, nilOf (List (BitVec 8) × Int))).1])
      path &&
      fileV
      (ofV
      (noteW (ledOf l).1 (ledOf l).4 (ledOf l).4 (1, ofN 0, path, b, ofN 0, ofN 0, nilOf Bool)
      (ofN 0,
      (nextV (walkV (ofN 0, ofN 0, List.replicate 32 0#8) (fewT 30 rs) 0).1
      (makeV (walkV (ofN 0, ofN 0, List.replicate 32 0#8) (fewT 30 rs) 0).1
      (ofN 0, ofN 0, List.replicate 32 0#8, 2, ofN 0, path, nilOf (List (BitVec 8) × Int))).1).1.1,
      (nextV (walkV (ofN 0, ofN 0, List.replicate 32 0#8) (fewT 30 rs) 0).1
      (makeV (walkV (ofN 0, ofN 0, List.replicate 32 0#8) (fewT 30 rs) 0).1
      (ofN 0, ofN 0, List.replicate 32 0#8, 2, ofN 0, path, nilOf (List (BitVec 8) × Int))).1).1.2.1,
      (nextV (walkV (ofN 0, ofN 0, List.replicate 32 0#8) (fewT 30 rs) 0).1
      (makeV (walkV (ofN 0, ofN 0, List.replicate 32 0#8) (fewT 30 rs) 0).1
      (ofN 0, ofN 0, List.replicate 32 0#8, 2, ofN 0, path, nilOf (List (BitVec 8) × Int))).1).1.2.2,
      ofN 0, ofN 0, ofN 0, List.replicate 32 0#8, List.replicate 32 0#8, nilOf (BitVec 8), ofN 0))
      (noteF (ledOf l).1 (ledOf l).2 (ledOf l).4 (ledOf l).4 (1, ofN 0, path, b, ofN 0, ofN 0, nilOf Bool)
      (ofN 0,
      (nextV (walkV (ofN 0, ofN 0, List.replicate 32 0#8) (fewT 30 rs) 0).1
      (makeV (walkV (ofN 0, ofN 0, List.replicate 32 0#8) (fewT 30 rs) 0).1
      (ofN 0, ofN 0, List.replicate 32 0#8, 2, ofN 0, path, nilOf (List (BitVec 8) × Int))).1).1.1,
      (nextV (walkV (ofN 0, ofN 0, List.replicate 32 0#8) (fewT 30 rs) 0).1
      (makeV (walkV (ofN 0, ofN 0, List.replicate 32 0#8) (fewT 30 rs) 0).1
      (ofN 0, ofN 0, List.replicate 32 0#8, 2, ofN 0, path, nilOf (List (BitVec 8) × Int))).1).1.2.1,
      (nextV (walkV (ofN 0, ofN 0, List.replicate 32 0#8) (fewT 30 rs) 0).1
      (makeV (walkV (ofN 0, ofN 0, List.replicate 32 0#8) (fewT 30 rs) 0).1
      (ofN 0, ofN 0, List.replicate 32 0#8, 2, ofN 0, path, nilOf (List (BitVec 8) × Int))).1).1.2.2,
      ofN 0, ofN 0, ofN 0, List.replicate 32 0#8, List.replicate 32 0#8, nilOf (BitVec 8), ofN 0)))
      (nilOf (Int × Int × List (BitVec 8) × Int × Int × List (BitVec 8) × List (List (BitVec 8) × Int)) ++ fewT 30 rs ++
      [(makeV (walkV (ofN 0, ofN 0, List.replicate 32 0#8) (fewT 30 rs) 0).1
      (ofN 0, ofN 0, List.replicate 32 0#8, 2, ofN 0, path, nilOf (List (BitVec 8) × Int))).1])
      path ==
      b) =
      true))))))) := by
  have e0 : ((0, 0, List.replicate 32 0#8) : HeadT) = head0 := rfl
  have hok := led_ok l
  have hwl := hok.wl
  have hml := hok.ml
  have hws := ok_okW hok (by omega)
  have hfs := ok_firsts hok
  have hfew := few_len 30 rs
  refine ⟨(fun q => nomatch q), fun _ => ⟨(fun q => nomatch q), fun _ => ⟨fun _ => rfl, fun qs => ⟨⟨hws, hfs⟩, ⟨0, Nat.zero_le _, rfl, ?_⟩, fun x hx => ⟨fun q => ?_, fun q => ?_⟩⟩⟩⟩⟩
  · show (!fileI l (fewT 30 rs) path) = (!fileI l (fewT 30 rs) path || anyW path (fileG l (fewT 30 rs) path) (ledOf l).ws 0)
    rw [show anyW path (fileG l (fewT 30 rs) path) (ledOf l).ws 0 = false from rfl, Bool.or_false]
  · have hlt : x < (ledOf l).ws.length := ltN q
    have w0 : within (ofN x) (ledOf l).ws.length := wN hlt
    rw [show Int.toNat (ofN x) = x from rfl]
    refine ⟨fun _ => w0, fun _ => hlt, fun _ _ => w0, fun _ _ => hlt, fun _ _ => w0, fun _ _ => hlt, inN (by omega), x + 1, hlt, Nat.sub_lt_sub_left hlt (Nat.lt_succ_self x), rfl, ?_⟩
    have : anyW path (fileG l (fewT 30 rs) path) (ledOf l).ws (x + 1) = (anyW path (fileG l (fewT 30 rs) path) (ledOf l).ws x || putV path (fileG l (fewT 30 rs) path) ((ledOf l).ws.getD x T_Noted.dflt)) := by
      unfold anyW
      rw [take_snoc' (d := T_Noted.dflt) hlt, List.any_append]
      simp only [List.any_cons, List.any_nil, Bool.or_false]
    rw [show anyW path (fileG l (fewT 30 rs) path) (LedS.ws (ledOf l)) (x + 1) = _ from this, ← Bool.or_assoc]
    rfl
  · have hx2 : x = (ledOf l).ws.length := by have := geN q; omega
    subst hx2
    have hA : (!fileI l (fewT 30 rs) path || anyW path (fileG l (fewT 30 rs) path) (ledOf l).ws (ledOf l).ws.length) = true := by
      cases hi : fileI l (fewT 30 rs) path with
      | false => rfl
      | true =>
        show anyW path (fileG l (fewT 30 rs) path) (ledOf l).ws (ledOf l).ws.length = true
        unfold anyW
        rw [List.take_of_length_le (Nat.le_refl _), List.any_eq_true]
        unfold fileI at hi
        have hof := ok_of hok
        unfold fileG
        rw [hof] at hi ⊢
        have hb := hi
        unfold fileB at hi
        simp only [Bool.and_eq_true, Bool.not_eq_true'] at hi
        obtain ⟨⟨g1, g2⟩, g3⟩ := hi
        have hV : fileV (rOfV (ledOf l).ws) (fewT 30 rs) path = (rOfV (ledOf l).ws (headAtV path (fewT 30 rs))).1.2.2.2.2.2.2.1 := by unfold fileV; rw [hb]; rfl
        rw [hV]
        unfold missV at g3
        simp only [Bool.or_eq_false_iff, Bool.not_eq_false'] at g3
        obtain ⟨⟨k1, k2⟩, k3⟩ := g3
        unfold rOfV at k1 k2 k3 ⊢
        cases hf : (ledOf l).ws.find? (isH (headAtV path (fewT 30 rs))) with
        | none => rw [hf] at k1; cases k1
        | some w =>
          rw [hf] at k2 k3
          refine ⟨w, List.mem_of_find?_eq_some hf, ?_⟩
          unfold putV
          simp only at k2 k3 ⊢
          rw [k3, k2]; simp
    rw [show (!fileI l (fewT 30 rs) path || anyW path (fileG l (fewT 30 rs) path) (LedS.ws (ledOf l)) (List.length (LedS.ws (ledOf l)))) = true from hA]
    refine ⟨fun _ => rfl, fun q2 => ⟨by decide, fun _ => rfl, fun q3 => ⟨fun _ => rfl, fun q4 => ⟨⟨by omega, ?_⟩, ?_, ?_, ?_⟩⟩⟩⟩
    · simp only [Bool.or_eq_false_iff, decide_eq_false_iff_not] at qs
      have := qs.1
      have : ¬ (2000 : Int) < (b.length : Int) := this
      omega
    · show 0 + (fewT 30 rs).length ≤ ROOM; unfold ROOM; omega
    · show (fewT 30 rs).length + 1 ≤ ROOM; unfold ROOM; omega
    · simp only [Bool.or_eq_false_iff, decide_eq_false_iff_not] at qs
      have hb : ¬ (2000 : Int) < (b.length : Int) := qs.1
      have hp : ¬ (300 : Int) < (path.length : Int) := qs.2
      have hw : (walkV head0 (fewT 30 rs) 0).2.2 = 0 := by
        have : (!true || (walkV head0 (fewT 30 rs) 0).2.2 != 0) = false := q2
        simpa using this
      have q3' : (makeV (walkV head0 (fewT 30 rs) 0).1 (recP path)).2 = 0 := by
        have q3 : ((makeV (walkV head0 (fewT 30 rs) 0).1 (recP path)).2 != 0) = false := q3
        simpa [bne] using q3
      exact puts_end hok (by omega) (by omega) (by omega) rfl hw q3' q4

theorem law24_LedgerPrefix_spec : Vse.Spec P f_law24_LedgerPrefix (c_law24 [.slc T_Act, .slc T_Rec]) := spec_fn (l := [(f_law24_awake, c_awake24), (f_law24_begin, c_begin), (f_law24_few, c_few24), (f_ledger_Ledger_Check, c_lCheck), (f_ledger_Ledger_Acked, c_Acked), (f_ref16_Has, c_Has)]) ⟨law24_awake_spec, law24_begin_spec, law24_few_spec, ledger_Check_spec, ledger_Acked_spec, ref16_Has_spec, trivial⟩ h_law24_LedgerPrefix rfl rfl fun x _ _ => body_ok (an_Prefix (ledOf x.1).ms) (law24_Prefix_vc x.1 x.2.1) (by kernel_rfl)

theorem law24_LedgerMore_spec : Vse.Spec P f_law24_LedgerMore (c_law24 [.slc T_Act, .slc T_Act, .slc T_Rec, .slc T_Rec]) := spec_fn (l := [(f_law24_awake, c_awake24), (f_law24_begin, c_begin), (f_law24_few, c_few24), (f_ledger_Ledger_Check, c_lCheck), (f_law24_within, c_within), (f_law24_small, c_small), (f_ledger_Ledger_Tell, c_Tell), (f_ledger_Ledger_Note, c_Note)]) ⟨law24_awake_spec, law24_begin_spec, law24_few_spec, ledger_Check_spec, law24_within_spec, law24_small_spec, ledger_Tell_spec, ledger_Note_spec, trivial⟩ h_law24_LedgerMore rfl rfl fun x _ _ => body_ok (an_More x.1 x.2.1) (law24_More_vc x.1 x.2.1 x.2.2.1 x.2.2.2.1) (by kernel_rfl)

theorem law24_LedgerPuts_spec : Vse.Spec P f_law24_LedgerPuts (c_law24 [.slc T_Act, .slc T_Rec, .str, .slc .u8]) := spec_fn (l := [(f_law24_awake, c_awake24), (f_law24_begin, c_begin), (f_law24_few, c_few24), (f_ledger_Ledger_File, c_File), (f_ref13_Walk, c_Walk), (f_ref13_Make, c_Make), (f_ref13_Next, c_Next), (f_ref24_Ledger_Of, c_qOf), (f_ledger_Ledger_Note, c_Note)]) ⟨law24_awake_spec, law24_begin_spec, law24_few_spec, ledger_File_spec, ref13_Walk_spec, ref13_Make_spec, ref13_Next_spec, ref24_Of_spec, ledger_Note_spec, trivial⟩ h_law24_LedgerPuts rfl rfl fun x _ _ => body_ok (an_Puts x.1 x.2.1 x.2.2.1) (law24_Puts_vc x.1 x.2.1 x.2.2.1 x.2.2.2.1) (by kernel_rfl)

end Go.Sal
