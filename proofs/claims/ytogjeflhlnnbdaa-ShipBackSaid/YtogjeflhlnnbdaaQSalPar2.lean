/- Records of bytes, read loosely. No program in sight. -/
import Derived.Test.YtogjeflhlnnbdaaQSalPar
set_option maxRecDepth 100000
namespace Go.Sal
open Go.Vse
/-- what is left, and: was something bad? -/
abbrev RSt := Bytes × Bool
def stepR (ok : Bytes → Bool) (off : Bytes → Bytes) (q : RSt) : RSt := bif !q.2 && ok q.1 then (off q.1, false) else (q.1, true)
def valR {α : Type} (ok : Bytes → Bool) (v : Bytes → α) (d : α) (q : RSt) : α := bif !q.2 && ok q.1 then v q.1 else d
theorem stepR_ok {ok : Bytes → Bool} {off : Bytes → Bytes} {q : RSt} (h : (stepR ok off q).2 = false) : q.2 = false ∧ ok q.1 = true ∧ stepR ok off q = (off q.1, false) := by
  unfold stepR at h ⊢
  cases hb : (!q.2 && ok q.1) with
  | false => rw [hb] at h; cases h
  | true =>
    simp only [Bool.and_eq_true, Bool.not_eq_true'] at hb
    exact ⟨hb.1, hb.2, rfl⟩
theorem stepR_go {ok : Bytes → Bool} {off : Bytes → Bytes} {s : Bytes} (h : ok s = true) : stepR ok off (s, false) = (off s, false) := by
  unfold stepR
  rw [h]; rfl
theorem valR_go {α : Type} {ok : Bytes → Bool} {v : Bytes → α} {d : α} {s : Bytes} (h : ok s = true) : valR ok v d (s, false) = v s := by
  unfold valR
  rw [h]; rfl
def zerosP (n : Int) : Bytes := List.replicate (max 0 (min n 300)).toNat 0#8
def rB (q : RSt) : RSt := stepR okByte offByte q
def vB (q : RSt) : Int := valR okByte valByte 0 q
def rN (q : RSt) : RSt := stepR okNum offNum q
def vN (q : RSt) : Int := valR okNum valNum 0 q
def rD (q : RSt) : RSt := stepR okDig offDig q
def vD (q : RSt) : DigP := valR okDig valDig zero32 q
def rT (n : Int) (q : RSt) : RSt := stepR (okTake n) (fun s => s.drop n.toNat) q
def vT (n : Int) (q : RSt) : Bytes := valR (okTake n) (fun s => s.take n.toNat) (zerosP n) q
/-- pieces -/
def rP (q : RSt) : Nat → List Pie × RSt
  | 0 => ([], q)
  | j + 1 => ((rP q j).1 ++ [(vD (rN (rP q j).2), vN (rP q j).2)], rD (rN (rP q j).2))
/-- goes the loop on? -/
def goesP (q : RSt) (n : Int) (j : Nat) : Bool := decide ((j : Int) < n) && decide ((j : Int) ≤ 4096) && !(rP q j).2.2
def endE (q : RSt) (n : Int) : Nat → Nat → Nat
  | 0, i => i
  | k + 1, i => bif goesP q n i then endE q n k (i + 1) else i
def endP (q : RSt) (n : Int) : Nat := endE q n 4098 0
theorem endE_spec {q : RSt} {n : Int} : ∀ (k i : Nat), (∀ j, j < i → goesP q n j = true) → i + k = 4098 → (∀ j, j < endE q n k i → goesP q n j = true) ∧ goesP q n (endE q n k i) = false
  | 0, i, h, e => by
    unfold endE
    have h2 := h 4097 (by omega)
    unfold goesP at h2
    simp at h2
  | k + 1, i, h, e => by
    unfold endE
    cases hb : goesP q n i with
    | false => exact ⟨h, hb⟩
    | true =>
      simp only [cond_true]
      exact endE_spec k (i + 1) (fun j hj => by
        rcases Nat.lt_or_ge j i with h1 | h1
        · exact h j h1
        · rw [show j = i by omega]; exact hb) (by omega)
theorem endP_spec (q : RSt) (n : Int) : (∀ j, j < endP q n → goesP q n j = true) ∧ goesP q n (endP q n) = false := endE_spec 4098 0 (fun j h => by omega) rfl
theorem endP_eq {q : RSt} {n : Int} {i : Nat} (h1 : ∀ j, j < i → goesP q n j = true) (h2 : goesP q n i = false) : endP q n = i := by
  obtain ⟨g1, g2⟩ := endP_spec q n
  rcases Nat.lt_trichotomy (endP q n) i with h | h | h
  · rw [h1 _ h] at g2; cases g2
  · exact h
  · rw [g1 _ h] at h2; cases h2
def q1 (b : Bytes) : RSt := rB (b, false)
def q2 (b : Bytes) : RSt := rB (q1 b)
def q3 (b : Bytes) : RSt := rN (q2 b)
def q4 (b : Bytes) : RSt := rN (q3 b)
def q5 (b : Bytes) : RSt := rD (q4 b)
def q6 (b : Bytes) : RSt := rB (q5 b)
def q7 (b : Bytes) : RSt := bif decide (vB (q1 b) = 1) then q6 b else rT (vB (q5 b)) (q6 b)
def q8 (b : Bytes) : RSt := rN (q7 b)
def q9 (b : Bytes) : RSt := bif decide (vB (q1 b) = 2) then (rP (q8 b) (endP (q8 b) (vN (q7 b)))).2 else q7 b
def recR (b : Bytes) : Rec := (vN (q2 b), vN (q3 b), vD (q4 b), vB (q1 b), (bif decide (vB (q1 b) = 1) then vB (q5 b) else 0), (bif decide (vB (q1 b) = 1) then [] else vT (vB (q5 b)) (q6 b)),
  (bif decide (vB (q1 b) = 2) then (rP (q8 b) (endP (q8 b) (vN (q7 b)))).1 else []))
def parseR (b : Bytes) : Rec × Int := if b.length ≤ 262144 then (if (q9 b).2 = false ∧ bytesV (recR b) = (b, 0) then (recR b, 0) else (rec0, 130)) else (rec0, 2)

/-- as long as nothing is bad -/
theorem rP_ok {s : Bytes} : ∀ {j : Nat}, (rP (s, false) j).2.2 = false → okPies s j = true ∧ rP (s, false) j = ((piesS s j).1, ((piesS s j).2, false))
  | 0, _ => ⟨rfl, rfl⟩
  | j + 1, h => by
    have h : (rD (rN (rP (s, false) j).2)).2 = false := h
    obtain ⟨h1, h2, h3⟩ := stepR_ok h
    have h1 : (rN (rP (s, false) j).2).2 = false := h1
    obtain ⟨g1, g2, g3⟩ := stepR_ok h1
    obtain ⟨i1, i2⟩ := rP_ok g1
    have g3 : rN (rP (s, false) j).2 = (offNum (rP (s, false) j).2.1, false) := g3
    rw [g3] at h2
    have h3 : rD (rN (rP (s, false) j).2) = (offDig (rN (rP (s, false) j).2).1, false) := h3
    rw [i2] at g2 g3 h2
    refine ⟨by rw [okPies, i1, g2, h2]; rfl, ?_⟩
    unfold rP
    rw [h3, i2]
    have e1 : vN ((piesS s j).2, false) = valNum (piesS s j).2 := valR_go g2
    have e2 : rN ((piesS s j).2, false) = (offNum (piesS s j).2, false) := stepR_go g2
    have e3 : vD (offNum (piesS s j).2, false) = valDig (offNum (piesS s j).2) := valR_go h2
    show ((piesS s j).1 ++ [(vD (rN ((piesS s j).2, false)), vN ((piesS s j).2, false))], (offDig (rN ((piesS s j).2, false)).1, false)) = _
    rw [e1, e2, e3]
    rfl
theorem rP_go {s : Bytes} : ∀ {j : Nat}, okPies s j = true → rP (s, false) j = ((piesS s j).1, ((piesS s j).2, false))
  | 0, _ => rfl
  | j + 1, h => by
    rw [okPies, Bool.and_eq_true, Bool.and_eq_true] at h
    have ih := rP_go h.1
    unfold rP
    rw [ih]
    have e1 : vN ((piesS s j).2, false) = valNum (piesS s j).2 := valR_go h.2.1
    have e2 : rN ((piesS s j).2, false) = (offNum (piesS s j).2, false) := stepR_go h.2.1
    have e3 : vD (offNum (piesS s j).2, false) = valDig (offNum (piesS s j).2) := valR_go h.2.2
    have e4 : rD (offNum (piesS s j).2, false) = (offDig (offNum (piesS s j).2), false) := stepR_go h.2.2
    show ((piesS s j).1 ++ [(vD (rN ((piesS s j).2, false)), vN ((piesS s j).2, false))], rD (rN ((piesS s j).2, false))) = _
    rw [e1, e2, e3, e4]
    rfl
/-- the states, where the fifth is not bad -/
theorem q5_ok {b : Bytes} (h : (q5 b).2 = false) : okByte b = true ∧ okByte (offByte b) = true ∧ okNum (at2 b) = true ∧ okNum (at3 b) = true ∧ okDig (at4 b) = true := by
  obtain ⟨h1, h2, _⟩ := stepR_ok (show (rD (q4 b)).2 = false from h)
  obtain ⟨g1, g2, g3⟩ := stepR_ok (show (rN (q3 b)).2 = false from h1)
  obtain ⟨f1, f2, f3⟩ := stepR_ok (show (rN (q2 b)).2 = false from g1)
  obtain ⟨e1, e2, e3⟩ := stepR_ok (show (rB (q1 b)).2 = false from f1)
  obtain ⟨_, d2, d3⟩ := stepR_ok (show (rB (b, false)).2 = false from e1)
  have d3 : q1 b = (offByte b, false) := d3
  rw [d3] at e2
  have e3 : q2 b = (offByte (q1 b).1, false) := e3
  rw [d3] at e3
  rw [e3] at f2
  have f3 : q3 b = (offNum (q2 b).1, false) := f3
  rw [e3] at f3
  rw [f3] at g2
  have g3 : q4 b = (offNum (q3 b).1, false) := g3
  rw [f3] at g3
  rw [g3] at h2
  exact ⟨d2, e2, f2, g2, h2⟩
theorem q_go {b : Bytes} (h1 : okByte b = true) (h2 : okByte (offByte b) = true) (h3 : okNum (at2 b) = true) (h4 : okNum (at3 b) = true) (h5 : okDig (at4 b) = true) :
    q1 b = (offByte b, false) ∧ q2 b = (at2 b, false) ∧ q3 b = (at3 b, false) ∧ q4 b = (at4 b, false) ∧ q5 b = (at5 b, false) ∧ vB (q1 b) = kindP b ∧ vN (q2 b) = valNum (at2 b) ∧ vN (q3 b) = valNum (at3 b) ∧ vD (q4 b) = valDig (at4 b) := by
  have e1 : q1 b = (offByte b, false) := stepR_go h1
  have e2 : q2 b = (at2 b, false) := by unfold q2; rw [e1]; exact stepR_go h2
  have e3 : q3 b = (at3 b, false) := by unfold q3; rw [e2]; exact stepR_go h3
  have e4 : q4 b = (at4 b, false) := by unfold q4; rw [e3]; exact stepR_go h4
  have e5 : q5 b = (at5 b, false) := by unfold q5; rw [e4]; exact stepR_go h5
  exact ⟨e1, e2, e3, e4, e5, by rw [e1]; exact valR_go h2, by rw [e2]; exact valR_go h3, by rw [e3]; exact valR_go h4, by rw [e4]; exact valR_go h5⟩
theorem rec_pies {r : Rec} (h : checkV r = 0) : r.2.2.2.2.2.2.length ≤ 4096 := (fits_parts (check_ok h).2.2.2.2).2.2.1
theorem bytes_check {r : Rec} {b : Bytes} (h : bytesV r = (b, 0)) : checkV r = 0 ∧ recBytes r = b := by
  by_cases hc : checkV r = 0
  · rw [bytesV_ok hc] at h; exact ⟨hc, congrArg Prod.fst h⟩
  · rw [bytesV_bad hc] at h; exact absurd (congrArg Prod.snd h) hc
theorem recBytes_R (r : Rec) : (recBytes r).getD 0 0#8 = 82#8 ∧ 1 ≤ (recBytes r).length := by
  unfold recBytes headBytes
  split
  · exact ⟨rfl, by simp⟩
  · split
    · exact ⟨rfl, by simp⟩
    · exact ⟨rfl, by simp⟩
/-- read loosely: of what is read whole -/
theorem loose_of {b : Bytes} (h : okRec b = true) (hn : kindP b = 2 → (valNum (at7 b)).toNat ≤ 4096) : (q9 b).2 = false ∧ recR b = recP b := by
  obtain ⟨h1, h2, h3, h4, h5, h6, h7, h8⟩ := okRec_parts h
  obtain ⟨e1, e2, e3, e4, e5, v1, v2, v3, v4⟩ := q_go h1 h3 h4 h5 h6
  have e6 : q6 b = (at6 b, false) := by unfold q6; rw [e5]; exact stepR_go h7
  have v5 : vB (q5 b) = valByte (at5 b) := by rw [e5]; exact valR_go h7
  by_cases k : kindP b = 1
  · have k2 : ¬ kindP b = 2 := by omega
    have e7 : q7 b = (at6 b, false) := by unfold q7; rw [v1, decide_eq_true k]; exact e6
    refine ⟨by unfold q9; rw [v1, decide_eq_false k2]; exact congrArg Prod.snd e7, ?_⟩
    unfold recR
    rw [v1, v2, v3, v4, v5, decide_eq_true k, decide_eq_false k2, recP, if_pos k]
    rfl
  · obtain ⟨t1, t2⟩ := h8 k
    have e7 : q7 b = (at7 b, false) := by unfold q7; rw [v1, decide_eq_false k, v5, e6]; exact stepR_go t1
    have v6 : vT (vB (q5 b)) (q6 b) = pathP b := by rw [v5, e6]; exact valR_go t1
    by_cases k2 : kindP b = 2
    · obtain ⟨t3, t4⟩ := t2 k2
      have hn := hn k2
      have e8 : q8 b = (at8 b, false) := by unfold q8; rw [e7]; exact stepR_go t3
      have v7 : vN (q7 b) = valNum (at7 b) := by rw [e7]; exact valR_go t3
      have hnn := valNum_le t3
      have hend : endP (q8 b) (vN (q7 b)) = (valNum (at7 b)).toNat := by
        refine endP_eq (fun j hj => ?_) ?_
        · rw [e8, v7]
          unfold goesP
          rw [rP_go (okPies_le t4 (Nat.le_of_lt hj))]
          simp; omega
        · rw [v7]
          unfold goesP
          simp; omega
      have hpi : rP (q8 b) (endP (q8 b) (vN (q7 b))) = ((piesS (at8 b) (valNum (at7 b)).toNat).1, ((piesS (at8 b) (valNum (at7 b)).toNat).2, false)) := by
        rw [hend, e8]; exact rP_go t4
      refine ⟨by unfold q9; rw [v1, decide_eq_true k2, hpi]; rfl, ?_⟩
      unfold recR
      rw [v1, v2, v3, v4, v6, hpi, decide_eq_true k2, decide_eq_false k, recP, if_neg k, if_pos k2]
      rfl
    · refine ⟨by unfold q9; rw [v1, decide_eq_false k2]; exact congrArg Prod.snd e7, ?_⟩
      unfold recR
      rw [v1, v2, v3, v4, v6, decide_eq_false k2, decide_eq_false k, recP, if_neg k, if_neg k2]
      rfl
theorem whole_of {b : Bytes} (h : (q9 b).2 = false) (hb : bytesV (recR b) = (b, 0)) : okRec b = true ∧ recP b = recR b := by
  obtain ⟨hc, hrb⟩ := bytes_check hb
  have h82 : valByte b = 82 := by
    have := (recBytes_R (recR b)).1
    rw [hrb] at this
    unfold valByte; rw [this]; rfl
  have h7 : (q7 b).2 = false := by
    unfold q9 at h
    cases hk : decide (vB (q1 b) = 2) with
    | false => rw [hk] at h; exact h
    | true =>
      rw [hk] at h
      have h : (rP (q8 b) (endP (q8 b) (vN (q7 b)))).2.2 = false := h
      have : ∀ j, (rP (q8 b) j).2.2 = false → (q8 b).2 = false := by
        intro j
        induction j with
        | zero => exact id
        | succ j ih =>
          intro hj
          have hj : (rD (rN (rP (q8 b) j).2)).2 = false := hj
          exact ih (stepR_ok (show (rN (rP (q8 b) j).2).2 = false from (stepR_ok hj).1)).1
      exact (stepR_ok (show (rN (q7 b)).2 = false from this _ h)).1
  have h6 : (q6 b).2 = false := by
    unfold q7 at h7
    cases hk : decide (vB (q1 b) = 1) with
    | false => rw [hk] at h7; exact (stepR_ok (show (rT (vB (q5 b)) (q6 b)).2 = false from h7)).1
    | true => rw [hk] at h7; exact h7
  obtain ⟨h5, k7, _⟩ := stepR_ok (show (rB (q5 b)).2 = false from h6)
  obtain ⟨g1, g3, g4, g5, g6⟩ := q5_ok h5
  obtain ⟨e1, e2, e3, e4, e5, v1, v2, v3, v4⟩ := q_go g1 g3 g4 g5 g6
  rw [e5] at k7
  have e6 : q6 b = (at6 b, false) := by unfold q6; rw [e5]; exact stepR_go k7
  have v5 : vB (q5 b) = valByte (at5 b) := by rw [e5]; exact valR_go k7
  have main : okRec b = true ∧ (kindP b = 2 → (valNum (at7 b)).toNat ≤ 4096) := by
    by_cases k : kindP b = 1
    · exact ⟨okRec_of g1 h82 g3 g4 g5 g6 k7 (fun n => absurd k n), fun n => by omega⟩
    · have h7' : (rT (vB (q5 b)) (q6 b)).2 = false := by
        unfold q7 at h7
        rw [v1, decide_eq_false k] at h7; exact h7
      obtain ⟨_, t1, _⟩ := stepR_ok h7'
      rw [v5, e6] at t1
      by_cases k2 : kindP b = 2
      · have e7 : q7 b = (at7 b, false) := by unfold q7; rw [v1, decide_eq_false k, v5, e6]; exact stepR_go t1
        have h9 : (rP (q8 b) (endP (q8 b) (vN (q7 b)))).2.2 = false := by
          unfold q9 at h
          rw [v1, decide_eq_true k2] at h; exact h
        have h8 : (q8 b).2 = false := by
          have : ∀ j, (rP (q8 b) j).2.2 = false → (q8 b).2 = false := by
            intro j
            induction j with
            | zero => exact id
            | succ j ih =>
              intro hj
              have hj : (rD (rN (rP (q8 b) j).2)).2 = false := hj
              exact ih (stepR_ok (show (rN (rP (q8 b) j).2).2 = false from (stepR_ok hj).1)).1
          exact this _ h9
        obtain ⟨_, t3, _⟩ := stepR_ok (show (rN (q7 b)).2 = false from h8)
        rw [e7] at t3
        have e8 : q8 b = (at8 b, false) := by unfold q8; rw [e7]; exact stepR_go t3
        have v7 : vN (q7 b) = valNum (at7 b) := by rw [e7]; exact valR_go t3
        have hnn := valNum_le t3
        obtain ⟨s1, s2⟩ := endP_spec (q8 b) (vN (q7 b))
        have hl : (rP (q8 b) (endP (q8 b) (vN (q7 b)))).1.length ≤ 4096 := by
          have := rec_pies hc
          unfold recR at this
          rw [v1, decide_eq_true k2] at this
          exact this
        rw [e8] at h9 hl
        obtain ⟨p1, p2⟩ := rP_ok h9
        rw [p2, pies_length] at hl
        have hle : endP (q8 b) (vN (q7 b)) ≤ (valNum (at7 b)).toNat := by
          rcases Nat.eq_zero_or_pos (endP (q8 b) (vN (q7 b))) with h0 | h0
          · omega
          · have := s1 (endP (q8 b) (vN (q7 b)) - 1) (by omega)
            unfold goesP at this
            simp only [Bool.and_eq_true, decide_eq_true_eq] at this
            rw [v7] at this ⊢
            have := this.1.1
            omega
        have hge : (valNum (at7 b)).toNat ≤ endP (q8 b) (vN (q7 b)) := by
          unfold goesP at s2
          rw [e8] at s2 ⊢
          rw [p2] at s2
          rw [v7] at s2 ⊢
          simp only [Bool.not_false, Bool.and_true, Bool.and_eq_false_iff, decide_eq_false_iff_not] at s2
          rw [v7] at hl
          omega
        rw [e8] at hle hge
        have heq : endP (at8 b, false) (vN (q7 b)) = (valNum (at7 b)).toNat := by omega
        rw [heq] at p1 hl
        exact ⟨okRec_of g1 h82 g3 g4 g5 g6 k7 (fun _ => ⟨t1, fun _ => ⟨t3, p1⟩⟩), fun _ => hl⟩
      · exact ⟨okRec_of g1 h82 g3 g4 g5 g6 k7 (fun _ => ⟨t1, fun n => absurd n k2⟩), fun n => absurd n k2⟩
  exact ⟨main.1, (loose_of main.1 main.2).2.symm⟩
theorem parse_same (b : Bytes) : parseR b = parseV b := by
  unfold parseR parseV
  split
  · by_cases h : okRec b = true ∧ bytesV (recP b) = (b, 0)
    · rw [if_pos h]
      have hn : kindP b = 2 → (valNum (at7 b)).toNat ≤ 4096 := fun k => by
        have := rec_pies (bytes_check h.2).1
        rw [recP, if_neg (by omega), if_pos k] at this
        rw [← pies_length (at8 b) (valNum (at7 b)).toNat]
        exact this
      obtain ⟨h1, h2⟩ := loose_of h.1 hn
      rw [if_pos ⟨h1, by rw [h2]; exact h.2⟩, h2]
    · rw [if_neg h]
      by_cases g : (q9 b).2 = false ∧ bytesV (recR b) = (b, 0)
      · obtain ⟨h1, h2⟩ := whole_of g.1 g.2
        exact absurd ⟨h1, by rw [h2]; exact g.2⟩ h
      · rw [if_neg g]
  · rfl
end Go.Sal
