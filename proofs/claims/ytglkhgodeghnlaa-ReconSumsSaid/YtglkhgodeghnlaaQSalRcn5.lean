/- Two sides that meet, turn by turn. No program in sight. -/
import Derived.Test.YtglkhgodeghnlaaQSalRcn4
set_option maxRecDepth 100000
namespace Go.Sal
open Go.Vse

def stepsM (a b : List DigP) : Nat → Mt
 | 0 => mt0 a
 | k + 1 => turnM a b (stepsM a b k)
def okMt (a b : List DigP) : Prop := (checkS a = 0 → a.length ≤ 150) ∧ (checkS b = 0 → b.length ≤ 150)
def ansM (a b : List DigP) (k : Nat) : List DigP := if k % 2 = 0 then b else a
def mkM (a b : List DigP) (k : Nat) : List DigP := if k % 2 = 0 then a else b
theorem mkM_succ (a b : List DigP) (k : Nat) : mkM a b (k + 1) = ansM a b k := by
 unfold mkM ansM
 by_cases h : k % 2 = 0
 · rw [if_pos h, if_neg (by omega)]
 · rw [if_neg h, if_pos (by omega)]
theorem ansM_succ (a b : List DigP) (k : Nat) : ansM a b (k + 1) = mkM a b k := by
 unfold mkM ansM
 by_cases h : k % 2 = 0
 · rw [if_pos h, if_neg (by omega)]
 · rw [if_neg h, if_pos (by omega)]
theorem resp_of {l : List DigP} {xs : List Item} (hc : checkS l = 0) (ha : xs.all goodB = true) : respV l xs = (xs.flatMap (outV l), risV (xs.flatMap (lackV l)), risV (xs.flatMap (otherV l)), 0) := by
 unfold respV
 rw [hc, ha]; rfl
theorem steps_n (a b : List DigP) : ∀ k, (stepsM a b k).n = k
 | 0 => rfl
 | k + 1 => by
   have ih := steps_n a b k
   show (turnM a b (stepsM a b k)).n = k + 1
   unfold turnM
   split <;> exact congrArg (· + 1) ih
theorem steps_even {a b : List DigP} {k : Nat} (h : k % 2 = 0) : stepsM a b (k + 1) = ⟨(respV b (stepsM a b k).way).1, (stepsM a b k).la, (stepsM a b k).lb ++ (respV b (stepsM a b k).way).2.1, k + 1⟩ := by
 show turnM a b (stepsM a b k) = _
 unfold turnM
 rw [steps_n, if_pos h]
theorem steps_odd {a b : List DigP} {k : Nat} (h : ¬ k % 2 = 0) : stepsM a b (k + 1) = ⟨(respV a (stepsM a b k).way).1, (stepsM a b k).la ++ (respV a (stepsM a b k).way).2.1, (stepsM a b k).lb, k + 1⟩ := by
 show turnM a b (stepsM a b k) = _
 unfold turnM
 rw [steps_n, if_neg h]
def bdM : Nat → Nat
 | 0 => 0
 | k + 1 => bdM k + 150 * (1 + 50 * k)
theorem bdM_mono : ∀ {j k : Nat}, j ≤ k → bdM j ≤ bdM k
 | j, 0, h => by have : j = 0 := by omega
                 subst this; exact Nat.le_refl _
 | j, k + 1, h => by
   by_cases e : j = k + 1
   · rw [e]; exact Nat.le_refl _
   · have := bdM_mono (j := j) (k := k) (by omega)
     show _ ≤ bdM k + _
     omega
theorem bdM_132 : bdM 132 ≤ 65000000 := by decide +kernel
theorem zero_right : rightB ((0 : Int), zeroD) = true := by decide +kernel
structure okWay (a b : List DigP) (k : Nat) : Prop where
 made : ∀ x ∈ (stepsM a b k).way, madeB (mkM a b k) x ∧ rankI x + k ≤ 132
 cov : ∀ d, covN d (stepsM a b k).way ≤ 1
 len : (stepsM a b k).way.length ≤ 1 + 50 * k
 la : (stepsM a b k).la.length ≤ bdM k
 lb : (stepsM a b k).lb.length ≤ bdM k
theorem way_good {a b : List DigP} {k : Nat} (ha : checkS a = 0) (hb : checkS b = 0) (h : ∀ x ∈ (stepsM a b k).way, madeB (mkM a b k) x ∧ rankI x + k ≤ 132) : (stepsM a b k).way.all goodB = true := by
 rw [List.all_eq_true]
 intro x hx
 have hm : checkS (mkM a b k) = 0 := by
  unfold mkM
  split <;> assumption
 exact made_good hm (h x hx).1
theorem ans_check {a b : List DigP} (k : Nat) (ha : checkS a = 0) (hb : checkS b = 0) : checkS (ansM a b k) = 0 := by
 unfold ansM
 split <;> assumption
theorem steps_way {a b : List DigP} {k : Nat} (ha : checkS a = 0) (hb : checkS b = 0) (h : ∀ x ∈ (stepsM a b k).way, madeB (mkM a b k) x ∧ rankI x + k ≤ 132) : (stepsM a b (k + 1)).way = (stepsM a b k).way.flatMap (outV (ansM a b k)) := by
 have hg := way_good ha hb h
 by_cases e : k % 2 = 0
 · rw [steps_even e]
   have : ansM a b k = b := if_pos e
   rw [this, resp_of hb hg]
 · rw [steps_odd e]
   have : ansM a b k = a := if_neg e
   rw [this, resp_of ha hg]
theorem way_ok {a b : List DigP} (ha : checkS a = 0) (hb : checkS b = 0) (la : a.length ≤ 150) (lb : b.length ≤ 150) : ∀ k, okWay a b k
 | 0 => by
   refine ⟨fun x hx => ?_, fun d => ?_, Nat.le_refl _, Nat.le_refl _, Nat.le_refl _⟩
   · have hx : x ∈ [sumV a ((0 : Int), zeroD)] := hx
     rw [List.mem_singleton] at hx
     subst hx
     exact ⟨made_sum a zero_right rfl, by rw [rank1]; decide⟩
   · show covN d [sumV a ((0 : Int), zeroD)] ≤ 1
     unfold covN
     exact List.countP_le_length
 | k + 1 => by
   obtain ⟨h1, h2, h3, h4, h5⟩ := way_ok ha hb la lb k
   have hw := steps_way ha hb h1
   have hg := way_good ha hb h1
   have hm : ∀ x ∈ (stepsM a b k).way, madeB (mkM a b k) x := fun x hx => (h1 x hx).1
   have hS : (ansM a b k).length ≤ 150 := by unfold ansM; split <;> assumption
   have hM : (mkM a b k).length ≤ 150 := by unfold mkM; split <;> assumption
   have hlack : ∀ O : List DigP, (risV ((stepsM a b k).way.flatMap (lackV O))).length ≤ 150 * (1 + 50 * k) := fun O => by
    have r1 := ris_le ((stepsM a b k).way.flatMap (lackV O))
    have r2 := flat_le (f := lackV O) (n := 150) (W := (stepsM a b k).way) fun x hx => Nat.le_trans lack_le (Nat.le_trans (made_small (hm x hx)) hM)
    omega
   refine ⟨fun y hy => ?_, fun d => ?_, ?_, ?_, ?_⟩
   · rw [hw, List.mem_flatMap] at hy
     obtain ⟨x, hx, hy⟩ := hy
     have := out_rank (h1 x hx).1 hy
     have h9 := (h1 x hx).2
     rw [mkM_succ]
     exact ⟨out_made (h1 x hx).1 hy, by omega⟩
   · rw [hw]
     exact Nat.le_trans (flat_cov hm) (h2 d)
   · rw [hw]
     have f1 := flat_len (O := ansM a b k) hm
     have f2 := div_le (ansM a b k) (stepsM a b k).way
     have f3 := covS_le (O := ansM a b k) (W := (stepsM a b k).way) fun d _ => h2 d
     omega
   · by_cases e : k % 2 = 0
     · rw [steps_even e]
       exact Nat.le_trans h4 (bdM_mono (by omega))
     · rw [steps_odd e, resp_of ha hg]
       show (_ ++ risV _).length ≤ bdM k + _
       rw [List.length_append]
       have := hlack a
       omega
   · by_cases e : k % 2 = 0
     · rw [steps_even e, resp_of hb hg]
       show (_ ++ risV _).length ≤ bdM k + _
       rw [List.length_append]
       have := hlack b
       omega
     · rw [steps_odd e]
       exact Nat.le_trans h5 (bdM_mono (by omega))
theorem way_early {a b : List DigP} {k : Nat} (h : okWay a b k) (hne : (stepsM a b k).way ≠ []) : k ≤ 131 := by
 obtain ⟨x, hx⟩ := List.exists_mem_of_ne_nil _ hne
 have := (h.made x hx).2
 have := rank_pos x
 omega
theorem way_okR {a b : List DigP} {k : Nat} (ha : checkS a = 0) (hb : checkS b = 0) (la : a.length ≤ 150) (lb : b.length ≤ 150) (hk : k ≤ 200) (l : List DigP) (hl : l.length ≤ 150) : okR l (stepsM a b k).way := by
 have h := way_ok ha hb la lb k
 have hM : (mkM a b k).length ≤ 150 := by unfold mkM; split <;> assumption
 refine ⟨fun _ => by omega, by have := h.len; omega, fun x hx _ => ?_⟩
 have := made_small (h.made x hx).1
 omega
theorem run_steps {a b : List DigP} {x : Nat} (he : (stepsM a b x).way = []) (hx : ∀ j, j < x → (stepsM a b j).way ≠ []) : ∀ f k, k ≤ x → x ≤ k + f → runM a b f (stepsM a b k) = stepsM a b x
 | 0, k, h1, h2 => by
   have : k = x := by omega
   subst this; rfl
 | f + 1, k, h1, h2 => by
   show (if (stepsM a b k).way = [] then stepsM a b k else runM a b f (turnM a b (stepsM a b k))) = _
   by_cases e : k = x
   · subst e
     rw [if_pos he]
   · rw [if_neg (hx k (by omega))]
     exact run_steps he hx f (k + 1) (by omega) (by omega)
theorem end_is {a b : List DigP} {x : Nat} (he : (stepsM a b x).way = []) (hx : ∀ j, j < x → (stepsM a b j).way ≠ []) (h : x ≤ 200) : endM a b = stepsM a b x :=
 run_steps he hx 200 0 (Nat.zero_le _) (by omega)
theorem meet_is {a b : List DigP} {x : Nat} (ha : checkS a = 0) (hb : checkS b = 0) (he : (stepsM a b x).way = []) (hx : ∀ j, j < x → (stepsM a b j).way ≠ []) (h : x ≤ 200) : meetV a b = (risV (stepsM a b x).la, risV (stepsM a b x).lb, (x : Int), 0) := by
 unfold meetV
 rw [ha, hb, end_is he hx h, steps_n]; rfl
theorem way_ends {a b : List DigP} (ha : checkS a = 0) (hb : checkS b = 0) (la : a.length ≤ 150) (lb : b.length ≤ 150) : ∃ x, x ≤ 132 ∧ (stepsM a b x).way = [] ∧ ∀ j, j < x → (stepsM a b j).way ≠ [] := by
 have h132 : (stepsM a b 132).way = [] := by
  cases h : (stepsM a b 132).way with
  | nil => rfl
  | cons y r =>
    have := way_early (way_ok ha hb la lb 132) (by rw [h]; exact List.cons_ne_nil _ _)
    omega
 have key : ∀ n, (∃ x, x ≤ n ∧ (stepsM a b x).way = [] ∧ ∀ j, j < x → (stepsM a b j).way ≠ []) ∨ ∀ j, j ≤ n → (stepsM a b j).way ≠ [] := by
  intro n
  induction n with
  | zero =>
    by_cases e : (stepsM a b 0).way = []
    · exact .inl ⟨0, Nat.le_refl _, e, fun j hj => by omega⟩
    · refine .inr fun j hj => ?_
      have : j = 0 := by omega
      subst this; exact e
  | succ n ih =>
    rcases ih with ⟨x, h1, h2⟩ | h
    · exact .inl ⟨x, by omega, h2⟩
    · by_cases e : (stepsM a b (n + 1)).way = []
      · exact .inl ⟨n + 1, Nat.le_refl _, e, fun j hj => h j (by omega)⟩
      · refine .inr fun j hj => ?_
        by_cases e2 : j = n + 1
        · rw [e2]; exact e
        · exact h j (by omega)
 rcases key 132 with h | h
 · exact h
 · exact absurd h132 (h 132 (Nat.le_refl _))
end Go.Sal
