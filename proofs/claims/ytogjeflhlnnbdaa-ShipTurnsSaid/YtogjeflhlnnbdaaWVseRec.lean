/- Functions that recover: the parts of their walk. -/
import Derived.Test.YtogjeflhlnnbdaaWVseTyped
namespace Go.Vse
variable {P : Program} {E : Env} {H : Mem} {ρ : Lab} {hp : List (Nat × SObj)} {N : Nat → Prop} {w : World} {S : SState} {a : Act}

theorem look_two {l m : Nat} {x y : SObj} (h : l ≠ m) (k : Nat) : look k [(l, x), (m, y)] = if k = l then x else if k = m then y else .gone := by
 have e : ∀ {u v : Nat}, u ≠ v → Nat.beq u v = false := fun {u v} h => by cases hb : Nat.beq u v with | false => rfl | true => exact absurd (Nat.eq_of_beq_eq_true hb) h
 simp only [look]
 by_cases h1 : k = l
 · subst h1; simp
 · rw [e (fun q => h1 q.symm)]
   by_cases h2 : k = m
   · subst h2; simp [h1]
   · rw [e (fun q => h2 q.symm)]; simp [h1, h2]
theorem MInv.two (I : MInv E H ρ hp N w) {l m : Nat} {ra rb : List Run} {ca cb : List SC} (hl : look l hp = .cells ca false) (hm : look m hp = .cells cb false) (ha : toRuns ca = some ra) (hb : toRuns cb = some rb) (hlm : l ≠ m)
 (hpin : ∀ k v, E.pin k = some v → k = l ∨ k = m) :
 MInv E H (fun k => if k = l ∨ k = m then ρ k else none) [(l, .cells (ofRuns ra) false), (m, .cells (ofRuns rb) false)] (fun k => k ≠ l ∧ k ≠ m) w := by
 have live : ∀ k, look k [(l, SObj.cells (ofRuns ra) false), (m, SObj.cells (ofRuns rb) false)] ≠ .gone → k = l ∨ k = m := by
  intro k hk
  rw [look_two hlm] at hk
  by_cases h1 : k = l
  · exact .inl h1
  · rw [if_neg h1] at hk
    by_cases h2 : k = m
    · exact .inr h2
    · rw [if_neg h2] at hk; exact absurd rfl hk
 have old : ∀ k, k = l ∨ k = m → look k hp ≠ .gone := by
  rintro k (rfl | rfl)
  · rw [hl]; simp
  · rw [hm]; simp
 have base : ∀ k, k = l ∨ k = m → baseOf (fun k => if k = l ∨ k = m then ρ k else none) k = baseOf ρ k := by
  intro k hk
  unfold baseOf
  simp only [if_pos hk]
 exact { I with
  objs := fun k => by
   rw [look_two hlm]
   by_cases h1 : k = l
   · subst h1
     rw [if_pos rfl]
     obtain ⟨b, c, ty, g1, g2, g3, g4⟩ := I.cells hl
     exact ⟨b, c, ty, by simp [g1], g2, scsRel_ofRuns.2 (toRuns_sound ha g3), g4⟩
   · rw [if_neg h1]
     by_cases h2 : k = m
     · subst h2
       rw [if_pos rfl]
       obtain ⟨b, c, ty, g1, g2, g3, g4⟩ := I.cells hm
       exact ⟨b, c, ty, by simp [g1], g2, scsRel_ofRuns.2 (toRuns_sound hb g3), g4⟩
     · rw [if_neg h2]; trivial
  sep := fun k k' b h1 h2 hne h3 h4 => by
   rw [base k (live k h1)] at h3
   rw [base k' (live k' h2)] at h4
   exact I.sep k k' b (old k (live k h1)) (old k' (live k' h2)) hne h3 h4
  fresh := fun k b h1 h3 => by
   rw [base k (live k h1)] at h3
   exact I.fresh k b (old k (live k h1)) h3
  bound := fun k hk => if_neg fun h => h.elim hk.1 hk.2
  root := fun k v hv => by rw [if_pos (hpin k v hv)]; exact I.root k v hv }

theorem fin_ok (I : MInv E H ρ S.hp N w) (hs : slotsRel H ρ S.tmps a.tmps) (hown : E.own0 = []) {fn : Func} {r : CRes} (h : endVC P fn r S) (hr : r.rcv = none) (hf : r.fresh = none) :
 ∃ v, (results fn a.tmps).run P w = .ok v w ∧ ∃ v' H' u, Ending.returned v = .returned v' ∧ E.H0.le H' ∧ SameBut none E.w0 w ∧ memOk H' w ∧ (∀ b, b < E.w0.heap.size → ∀ o, H' b o = E.H0 b o) ∧ rcvRel none H' w r.rcv ∧ freshRel H' E.w0 w u r.fresh ∧ ∀ ρ a, ρ 0 = u → slRel H' ρ a r.out v' := by
 obtain ⟨v, H2, hp', u, h1, _, I2, h3, h4, h5⟩ := end_sound I hs h
 rw [hf] at h4
 refine ⟨v, h1, v, H2, u, rfl, I2.keepH, ⟨fun b hb _ => I2.frame b hb (by rw [hown]; simp), I2.grow, I2.os, I2.tape, I2.output⟩, I2.mem, fun b hb o => ?_, by rw [hr]; rfl, by rw [hf]; exact h4, h5⟩
 cases hH : E.H0 b o with
 | some q => exact I2.keepH b o q hH
 | none =>
   cases hH2 : H2 b o with
   | none => rfl
   | some q =>
     exfalso
     rcases I2.newH b o (by rw [hH2]; simp) with h | h | h
     · exact h hH
     · omega
     · rw [hown] at h; cases h
theorem slot_ref (hs : slotsRel H ρ S.tmps a.tmps) {t l : Nat} (h : S.get t = .sv (.ref (.cell l [] 0))) : ∃ b, ρ l = some (.pointer (some ⟨b, 0, none⟩)) ∧ a.tmps.getD t undef = .pointer (some ⟨b, 0, none⟩) := by
 have := get_rel hs t
 rw [h] at this
 obtain ⟨b, h1, h2, _⟩ := this
 exact ⟨b, h1, by simpa [pathOff] using h2⟩
theorem nth_past {X : List Sl} : ∀ (k t : Nat), nth .un (app (rep .un k) X) t = if t < k then .un else nth .un X (t - k)
 | 0, t => by simp [rep, app]
 | k + 1, 0 => by simp [rep, app, nth]
 | k + 1, t + 1 => by
   have := nth_past (X := X) k t
   simp only [rep, app, nth] at this ⊢
   rw [this, Nat.add_sub_add_right]
   by_cases h : t < k
   · rw [if_pos h, if_pos (by omega)]
   · rw [if_neg h, if_neg (by omega)]
theorem slots_refs {l m bA bB : Nat} (k n : Nat) {tm : Array Value} (hsz : tm.size = k + 2 + n) (hl : ρ l = some (.pointer (some ⟨bA, 0, none⟩))) (hm : ρ m = some (.pointer (some ⟨bB, 0, none⟩)))
 (tA : tm.getD k undef = .pointer (some ⟨bA, 0, none⟩)) (tB : tm.getD (k + 1) undef = .pointer (some ⟨bB, 0, none⟩)) :
 slotsRel H ρ (app (rep .un k) (.sv (.ref (.cell l [] 0)) :: .sv (.ref (.cell m [] 0)) :: rep .un n)) tm := by
 refine ⟨by rw [app_eq]; simp [rep_length, hsz]; omega, fun t => ?_⟩
 rw [nth_past]
 by_cases h1 : t < k
 · rw [if_pos h1]; trivial
 · rw [if_neg h1]
   obtain ⟨j, rfl⟩ : ∃ j, t = k + j := ⟨t - k, by omega⟩
   rw [Nat.add_sub_cancel_left]
   match j with
   | 0 => exact ⟨bA, hl, by rw [Nat.add_zero, tA]; rfl, trivial⟩
   | 1 => exact ⟨bB, hm, by rw [tB]; rfl, trivial⟩
   | j + 2 =>
     show slRel H ρ tm (nth .un (rep .un n) j) _
     rw [nth_rep]; trivial
end Go.Vse
