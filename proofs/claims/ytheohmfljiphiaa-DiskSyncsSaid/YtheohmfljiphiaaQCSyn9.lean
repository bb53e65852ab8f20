/- Both devices at once: act, DiskSyncs. -/
import Derived.Test.YtheohmfljiphiaaQCRef9
set_option maxRecDepth 100000
namespace Go.Sal
open Go.Vse Go.Sal.Nm

abbrev Blk := List (BitVec 8)
abbrev Wrs := List (Int × List (BitVec 8))
def lastOk (opn : Wrs) (last : List (Int × Int)) : Prop := ∀ i, match mget .i64 last i with
  | some k => 0 ≤ k ∧ k < (opn.length : Int) ∧ (opn.getD k.toNat (0, [])).1 = i ∧ ∀ j, k.toNat < j → j < opn.length → (opn.getD j (0, [])).1 ≠ i
  | none => ∀ j, j < opn.length → (opn.getD j (0, [])).1 ≠ i
structure devOk (fast : List Blk) (opn : Wrs) (last : List (Int × Int)) (left : Int) : Prop where
  pos : 0 < fast.length
  few : fast.length ≤ 4096
  lst : lastOk opn last
  opn_ : okOpen fast.length opn
  blk : okB fast opn
  lft : 0 ≤ left
abbrev OpV := T_Op.den
def actD (o : OpV) (fast : List Blk) (opn : Wrs) (last : List (Int × Int)) (set : Bool) (left : Int) : T_D :=
  bif o.1 == 1 then x_wr fast opn last false set left o.2.1 (cutV o.2.2.2.2.2.1) (wrE false set left fast.length o.2.1 (cutV o.2.2.2.2.2.1).length opn.length)
  else bif o.1 == 3 then x_sy fast opn last false set left
  else bif o.1 == 4 then x_lost o.2.2.2.2.2.2 o.2.2.2.1 o.2.2.1 fast opn
  else bif o.1 == 6 then (fast, opn, last, false, fuS false set o.2.1, fuL false left o.2.1, ())
  else (fast, opn, last, false, set, left, ())
def actR (o : OpV) (L : List Blk) (W : Wrs) (set : Bool) (left : Int) : T_R :=
  bif o.1 == 1 then x_rwr L W false set left o.2.1 (cutV o.2.2.2.2.2.1) (wrE false set left L.length o.2.1 (cutV o.2.2.2.2.2.1).length W.length)
  else bif o.1 == 3 then x_rsy L W false set left
  else bif o.1 == 4 then x_rlost o.2.2.2.2.2.2 o.2.2.2.1 o.2.2.1 L W
  else bif o.1 == 6 then (L, W, false, fuS false set o.2.1, fuL false left o.2.1, ())
  else (L, W, false, set, left, ())
/-- are the answers alike? -/
def actB (o : OpV) (fast : List Blk) (opn : Wrs) (last : List (Int × Int)) (L : List Blk) (W : Wrs) (set : Bool) (left : Int) : Bool :=
  bif o.1 == 1 then wrE false set left fast.length o.2.1 (cutV o.2.2.2.2.2.1).length opn.length == wrE false set left L.length o.2.1 (cutV o.2.2.2.2.2.1).length W.length
  else bif o.1 == 2 then readV fast opn last false o.2.1 == rReadV false L W o.2.1 && atV false fast.length o.2.1 == atV false L.length o.2.1
  else bif o.1 == 3 then syN (syE false set left) opn == syN (syE false set left) W
  else true
structure refOk (n : Nat) (L : List Blk) (W : Wrs) : Prop where
  len : L.length = n
  opn_ : okOpen n W
  blk : okB L W
def g_pre (d : T_D) (r : T_R) : Prop := eqP r.2.2.1 false ∧ eqP r.2.2.2.1 d.2.2.2.2.1 ∧ eqP (α := Int) r.2.2.2.2.1 d.2.2.2.2.2.1 ∧ eqP d.2.2.2.1 false ∧ devOk d.1 d.2.1 d.2.2.1 d.2.2.2.2.2.1 ∧ refOk d.1.length r.1 r.2.1
def an_A1 : Ann := { at_ := fun _ _ => none, pins := [1, 5], prune := 1 }
def an_A2 : Ann := { at_ := fun _ _ => none, pins := [], prune := 1 }
def c_act1 : PC := gM2 T_fsD T_fsR [T_Op] fun d r x => ⟨some (eqP x.1.1 1 ∧ g_pre d r), .tup [.ref (.cell 1 [] 0), .ref (.cell 5 [] 0), .dv (.bool (actB x.1 d.1 d.2.1 d.2.2.1 r.1 r.2.1 d.2.2.2.2.1 d.2.2.2.2.2.1))],
  app (oAt T_fsD 1 12 (actD x.1 d.1 d.2.1 d.2.2.1 d.2.2.2.2.1 d.2.2.2.2.2.1)) (oAt T_fsR 5 22 (actR x.1 r.1 r.2.1 d.2.2.2.2.1 d.2.2.2.2.2.1))⟩
def c_act2 : PC := gM2 T_fsD T_fsR [T_Op] fun d r x => ⟨some (neP x.1.1 5 ∧ g_pre d r), .tup [.ref (.cell 30 [] 0), .ref (.cell 40 [] 0), .dv (.bool (actB x.1 d.1 d.2.1 d.2.2.1 r.1 r.2.1 d.2.2.2.2.1 d.2.2.2.2.2.1))],
  app (oAt T_fsD 30 31 (actD x.1 d.1 d.2.1 d.2.2.1 d.2.2.2.2.1 d.2.2.2.2.2.1)) (oAt T_fsR 40 41 (actR x.1 r.1 r.2.1 d.2.2.2.2.1 d.2.2.2.2.2.1))⟩
def c_act : PC := withAlt c_act2 c_act1
def x_rdev (n : Int) (opn : Wrs) : T_R := (List.replicate n.toNat T_Blk.dflt, opn, false, false, 0, ())
def s1I (n : Nat) (m : Nat) (s : Nat × Wrs × List (Int × Int)) : Prop := s.1 ≤ m ∧ s.1 ≤ 60 ∧ s.2.1.length ≤ s.1 ∧ devOk (List.replicate n T_Blk.dflt) s.2.1 s.2.2 0
structure s2I (i : Int) (want : Blk) (n : Nat) (m k : Nat) (fast : List Blk) (opn : Wrs) (last : List (Int × Int)) (L : List Blk) (W : Wrs) (left : Int) : Prop where
  le : k ≤ m
  few : k ≤ 60
  len : fast.length = n
  val : fast.getD i.toNat [] = want
  non : ∀ w ∈ opn, w.1 ≠ i
  lst : mget .i64 last i = none
  dev : devOk fast opn last left
  ref : refOk n L W
  ol : opn.length ≤ k
  wl : W.length ≤ 60 + k
def an_SyncsL (ws more : List OpV) (i : Int) : Nat → SState → Option LoopAnn
  | 6, S => some { X := Nat × Wrs × List (Int × Int), slots := fun s => [(11, .sv (.dv (.i64 (ofN s.1))))], objs := fun s => (0, .gone) :: app (oAt T_fsD (x_cel S 7) 12 (x_dev 12 s.2.1 s.2.2)) (oAt T_fsR (x_cel S 9) 22 (x_rdev 12 s.2.1)), inv := fun s => s1I 12 ws.length s, meas := fun s => ws.length - s.1 }
  | 15, S => some { X := Nat × List Blk × Wrs × List (Int × Int) × List Blk × Wrs × Bool × Int, slots := fun s => [(7, .sv (.ref (.cell 30 [] 0))), (9, .sv (.ref (.cell 40 [] 0))), (16, .sv (.dv (.i64 (ofN s.1))))], objs := fun s => (0, .gone) :: app (oAt T_fsD 30 31 (s.2.1, s.2.2.1, s.2.2.2.1, false, s.2.2.2.2.2.2.1, s.2.2.2.2.2.2.2, ())) (oAt T_fsR 40 41 (s.2.2.2.2.1, s.2.2.2.2.2.1, false, s.2.2.2.2.2.2.1, s.2.2.2.2.2.2.2, ())), inv := fun s => s2I i (x_by S 12) 12 more.length s.1 s.2.1 s.2.2.1 s.2.2.2.1 s.2.2.2.2.1 s.2.2.2.2.2.1 s.2.2.2.2.2.2.2, meas := fun s => more.length - s.1 }
  | _, _ => none
def an_Syncs (ws more : List OpV) (i : Int) : Ann := { at_ := an_SyncsL ws more i, prune := 1, rows := [1052], drops := [20, 21, 22, 24, 25, 26, 35, 46, 67, 68, 73, 75, 81] }

theorem getD_appL {α : Type} (l : List α) (x d : α) {j : Nat} (h : j < l.length) : (l ++ [x]).getD j d = l.getD j d := by
  simp only [List.getD]; rw [List.getElem?_append_left h]
theorem getD_appR {α : Type} (l : List α) (x d : α) : (l ++ [x]).getD l.length d = x := by simp [List.getD]
theorem getD_set_ne {α : Type} (l : List α) {i j : Nat} (v d : α) (h : i ≠ j) : (l.set i v).getD j d = l.getD j d := by
  simp [List.getD, List.getElem?_set, h]
theorem lastOk_nil : lastOk [] [] := fun i => by
  show ∀ j, j < 0 → _
  intro j h; omega
theorem lastOk_ok {opn : Wrs} {last : List (Int × Int)} (h : lastOk opn last) : okLast opn.length last := fun i k hk => by
  have := h i
  rw [hk] at this
  exact ⟨this.1, this.2.1⟩
theorem lastOk_wr {e j : Int} {b : Blk} {opn : Wrs} {last : List (Int × Int)} (h : lastOk opn last) : lastOk (wrO e opn j b) (wrM e opn last j) := by
  unfold wrO wrM
  cases hd : decide (e = 0) with
  | false => exact h
  | true =>
    simp only [cond_true]
    intro i
    rw [mget_mput]
    by_cases hi : i = j
    · rw [if_pos hi]
      refine ⟨by omega, by simp; omega, ?_, fun k h1 h2 => ?_⟩
      · rw [Int.toNat_natCast, getD_appR]; exact hi.symm
      · rw [Int.toNat_natCast] at h1
        simp at h2; omega
    · rw [if_neg hi]
      have hl := h i
      cases hm : mget .i64 last i with
      | none =>
        rw [hm] at hl
        intro k hk
        simp at hk
        by_cases hk2 : k < opn.length
        · rw [getD_appL _ _ _ hk2]; exact hl k hk2
        · have : k = opn.length := by omega
          subst this
          rw [getD_appR]
          exact fun e => hi e.symm
      | some k0 =>
        rw [hm] at hl
        obtain ⟨k1, k2, k3, k4⟩ := hl
        refine ⟨k1, by simp; omega, ?_, fun k h1 h2 => ?_⟩
        · rw [getD_appL _ _ _ (by omega)]; exact k3
        · simp at h2
          by_cases hk2 : k < opn.length
          · rw [getD_appL _ _ _ hk2]; exact k4 k h1 hk2
          · have : k = opn.length := by omega
            subst this
            rw [getD_appR]
            exact fun e => hi e.symm
theorem holdsK_same {L : List Blk} {W : Wrs} {i : Int} {m : Nat} : ∀ n, m ≤ n → (∀ j, m ≤ j → j < n → (W.getD j (0, [])).1 ≠ i) → holdsK L W i n = holdsK L W i m
  | 0, h, _ => by have : m = 0 := by omega
                  subst this; rfl
  | n + 1, h, hn => by
    by_cases hm : m = n + 1
    · subst hm; rfl
    · show (bif (W.getD n (0, [])).1 == i then (W.getD n (0, [])).2 else holdsK L W i n) = _
      have : ((W.getD n (0, [])).1 == i) = false := by simpa using hn n (by omega) (by omega)
      rw [this, cond_false]
      exact holdsK_same n (by omega) fun j h1 h2 => hn j h1 (by omega)
theorem rd_holds {fast : List Blk} {opn : Wrs} {last : List (Int × Int)} {i : Int} (h : lastOk opn last) (h0 : 0 ≤ i) (h1 : i < (fast.length : Int)) : rdV fast opn last i = holdsV fast opn i := by
  have hl := h i
  have hi : i.toNat < fast.length := by omega
  unfold rdV holdsV
  cases hm : mget .i64 last i with
  | none =>
    rw [hm] at hl
    rw [holdsK_same (m := 0) _ (Nat.zero_le _) fun j _ h2 => hl j h2]
    show fast.getD i.toNat T_Blk.dflt = fast.getD i.toNat []
    rw [getD_at _ _ _ hi, getD_at _ _ _ hi]
  | some k =>
    rw [hm] at hl
    obtain ⟨k1, k2, k3, k4⟩ := hl
    have hk : k.toNat < opn.length := by omega
    rw [holdsK_same (m := k.toNat + 1) _ (by omega) fun j h1 h2 => k4 j (by omega) h2]
    show (opn.getD k.toNat (0, T_Blk.dflt)).2 = bif (opn.getD k.toNat (0, [])).1 == i then (opn.getD k.toNat (0, [])).2 else holdsK fast opn i k.toNat
    have : ((opn.getD k.toNat (0, [])).1 == i) = true := by simpa using k3
    rw [this, cond_true, getD_at _ _ _ hk, getD_at _ _ _ hk]
theorem sync_holds {L : List Blk} {W : Wrs} {i : Int} (hl : okOpen L.length W) (h0 : 0 ≤ i) (hi : i.toNat < L.length) : ∀ n, n ≤ W.length → (syncK W L n).getD i.toNat [] = holdsK L W i n
  | 0, _ => rfl
  | n + 1, h => by
    have ih := sync_holds hl h0 hi n (by omega)
    have hn : n < W.length := by omega
    have hr := hl _ (List.getElem_mem hn)
    show ((syncK W L n).set (W.getD n (0, T_Blk.dflt)).1.toNat (W.getD n (0, T_Blk.dflt)).2).getD i.toNat [] = bif (W.getD n (0, [])).1 == i then (W.getD n (0, [])).2 else holdsK L W i n
    rw [getD_at _ _ _ hn, getD_at _ _ _ hn]
    generalize W[n] = w at hr ⊢
    by_cases hw : w.1 = i
    · rw [show (w.1 == i) = true by simpa using hw, cond_true, hw, getD_set _ _ _ _ (by rw [syncK_len]; exact hi)]
    · rw [show (w.1 == i) = false by simpa using hw, cond_false, getD_set_ne _ _ _ (by omega)]
      exact ih
theorem wrE0 {set : Bool} {left n j m k : Int} (h : wrE false set left n j m k = 0) : (0 ≤ j ∧ j < n) ∧ m ≤ 512 := by
  have hA : wrA false n j m k = 0 := by
    unfold wrE at h
    cases hd : decide (wrA false n j m k = 0) with
    | true => exact of_decide_eq_true hd
    | false => rw [hd] at h; exact h
  unfold wrA at hA
  cases hd : decide (atV false n j = 0) with
  | false => rw [hd] at hA; exact absurd hA (of_decide_eq_false hd)
  | true =>
    rw [hd, cond_true] at hA
    refine ⟨at_zero (of_decide_eq_true hd), ?_⟩
    cases h5 : decide (m > 512) with
    | true => rw [h5] at hA; simp at hA
    | false => have := of_decide_eq_false h5; omega
theorem powL_nn {set : Bool} {left : Int} (h : 0 ≤ left) : 0 ≤ powL set left := by
  unfold powL
  cases (set && decide (left = 0)) <;> simp only [cond_true, cond_false] <;> omega
theorem dev_wr {fast : List Blk} {opn : Wrs} {last : List (Int × Int)} {set : Bool} {left : Int} (h : devOk fast opn last left) (j : Int) (b : Blk) {e : Int} (he : e = wrE false set left fast.length j b.length opn.length) :
    devOk fast (wrO e opn j b) (wrM e opn last j) (wrLeft false set left fast.length j b.length opn.length) := by
  refine ⟨h.pos, h.few, lastOk_wr h.lst, ?_, ⟨h.blk.1, ?_⟩, ?_⟩
  · intro w hw
    unfold wrO at hw
    cases hd : decide (e = 0) with
    | false => rw [hd] at hw; exact h.opn_ w hw
    | true =>
      rw [hd, cond_true] at hw
      have h0 : e = 0 := of_decide_eq_true hd
      simp only [List.mem_append, List.mem_singleton] at hw
      rcases hw with hw | rfl
      · exact h.opn_ w hw
      · exact (wrE0 (he ▸ h0)).1
  · intro w hw
    unfold wrO at hw
    cases hd : decide (e = 0) with
    | false => rw [hd] at hw; exact h.blk.2 w hw
    | true =>
      rw [hd, cond_true] at hw
      have h0 : e = 0 := of_decide_eq_true hd
      simp only [List.mem_append, List.mem_singleton] at hw
      rcases hw with hw | rfl
      · exact h.blk.2 w hw
      · have := (wrE0 (he ▸ h0)).2
        exact wholeV_len2 (by omega)
  · unfold wrLeft
    cases decide (wrA false fast.length j b.length opn.length = 0) with
    | true => exact powL_nn h.lft
    | false => exact h.lft
theorem sync_all {Q : Blk → Prop} {L : List Blk} {W : Wrs} (h1 : ∀ b ∈ L, Q b) (h2 : ∀ w ∈ W, Q w.2) : ∀ n, n ≤ W.length → ∀ b ∈ syncK W L n, Q b
  | 0, _, b, hb => h1 b hb
  | n + 1, h, b, hb => by
    have hn : n < W.length := by omega
    have hb : b ∈ (syncK W L n).set (W.getD n (0, T_Blk.dflt)).1.toNat (W.getD n (0, T_Blk.dflt)).2 := hb
    rcases List.mem_or_eq_of_mem_set hb with hb | hb
    · exact sync_all h1 h2 n (by omega) b hb
    · rw [hb, getD_at _ _ _ hn]; exact h2 _ (List.getElem_mem hn)
theorem dev_sy {fast : List Blk} {opn : Wrs} {last : List (Int × Int)} {set : Bool} {left : Int} (h : devOk fast opn last left) (e : Int) : devOk (syF e opn fast) (syO e opn) (syM e last) (syLeft false set left) := by
  have hl : 0 ≤ syLeft false set left := powL_nn h.lft
  unfold syF syO syM
  cases decide (e = 0) with
  | false => exact ⟨h.pos, h.few, h.lst, h.opn_, h.blk, hl⟩
  | true =>
    simp only [cond_true]
    exact ⟨by rw [syncK_len]; exact h.pos, by rw [syncK_len]; exact h.few, lastOk_nil, fun w hw => (by cases hw), ⟨sync_all h.blk.1 h.blk.2 _ (Nat.le_refl _), fun w hw => by cases hw⟩, hl⟩
theorem dev_lost {fast : List Blk} {opn : Wrs} {last : List (Int × Int)} {left : Int} (h : devOk fast opn last left) (keep : List Bool) (torn at_ : Int) : devOk (loseK keep torn at_ opn fast opn.length) [] [] 0 := by
  refine ⟨by rw [loseK_len]; exact h.pos, by rw [loseK_len]; exact h.few, lastOk_nil, fun w hw => (by cases hw), ⟨fun b hb => ?_, fun w hw => by cases hw⟩, Int.le_refl 0⟩
  obtain ⟨j, hj, rfl⟩ := List.getElem_of_mem hb
  have := lose_len (keep := keep) (torn := torn) (at_ := at_) h.blk h.opn_ opn.length (Nat.le_refl _) j (by rw [loseK_len] at hj; exact hj)
  rwa [getD_at _ _ _ hj] at this
theorem lose_keep {keep : List Bool} {torn at_ : Int} {fast : List Blk} {opn : Wrs} {i : Int} (h0 : 0 ≤ i) (hl : okOpen fast.length opn) (hn : ∀ w ∈ opn, w.1 ≠ i) : ∀ k, k ≤ opn.length → (loseK keep torn at_ opn fast k).getD i.toNat [] = fast.getD i.toNat []
  | 0, _ => rfl
  | k + 1, h => by
    have ih := lose_keep (keep := keep) (torn := torn) (at_ := at_) h0 hl hn k (by omega)
    have hk : k < opn.length := by omega
    have hr := hl _ (List.getElem_mem hk)
    have hne := hn _ (List.getElem_mem hk)
    show (loseStep keep torn at_ k (opn.getD k (0, T_Blk.dflt)) (loseK keep torn at_ opn fast k)).getD i.toNat [] = _
    rw [getD_at _ _ _ hk]
    generalize opn[k] = w at hr hne ⊢
    have hs : ∀ v : Blk, ((loseK keep torn at_ opn fast k).set w.1.toNat v).getD i.toNat [] = fast.getD i.toNat [] := fun v => by
      rw [getD_set_ne _ _ _ (by omega)]; exact ih
    unfold loseStep
    cases decide ((k : Int) = torn) with
    | true =>
      cases decide (0 < at_) with
      | true => exact hs _
      | false => exact ih
    | false =>
      cases keep.getD k false with
      | true => exact hs _
      | false => exact ih
theorem actD_1 {o : OpV} {fast : List Blk} {opn : Wrs} {last : List (Int × Int)} {set : Bool} {left : Int} (h : (o.1 == 1) = true) : actD o fast opn last set left = x_wr fast opn last false set left o.2.1 (cutV o.2.2.2.2.2.1) (wrE false set left fast.length o.2.1 (cutV o.2.2.2.2.2.1).length opn.length) := by
  unfold actD; rw [h]; rfl
theorem actD_3 {o : OpV} {fast : List Blk} {opn : Wrs} {last : List (Int × Int)} {set : Bool} {left : Int} (h1 : (o.1 == 1) = false) (h : (o.1 == 3) = true) : actD o fast opn last set left = x_sy fast opn last false set left := by
  unfold actD; rw [h1, h]; rfl
theorem actD_4 {o : OpV} {fast : List Blk} {opn : Wrs} {last : List (Int × Int)} {set : Bool} {left : Int} (h1 : (o.1 == 1) = false) (h3 : (o.1 == 3) = false) (h : (o.1 == 4) = true) : actD o fast opn last set left = x_lost o.2.2.2.2.2.2 o.2.2.2.1 o.2.2.1 fast opn := by
  unfold actD; rw [h1, h3, h]; rfl
theorem actD_6 {o : OpV} {fast : List Blk} {opn : Wrs} {last : List (Int × Int)} {set : Bool} {left : Int} (h1 : (o.1 == 1) = false) (h3 : (o.1 == 3) = false) (h4 : (o.1 == 4) = false) (h : (o.1 == 6) = true) : actD o fast opn last set left = (fast, opn, last, false, fuS false set o.2.1, fuL false left o.2.1, ()) := by
  unfold actD; rw [h1, h3, h4, h]; rfl
theorem actD_0 {o : OpV} {fast : List Blk} {opn : Wrs} {last : List (Int × Int)} {set : Bool} {left : Int} (h1 : (o.1 == 1) = false) (h3 : (o.1 == 3) = false) (h4 : (o.1 == 4) = false) (h : (o.1 == 6) = false) : actD o fast opn last set left = (fast, opn, last, false, set, left, ()) := by
  unfold actD; rw [h1, h3, h4, h]; rfl
theorem actR_1 {o : OpV} {L : List Blk} {W : Wrs} {set : Bool} {left : Int} (h : (o.1 == 1) = true) : actR o L W set left = x_rwr L W false set left o.2.1 (cutV o.2.2.2.2.2.1) (wrE false set left L.length o.2.1 (cutV o.2.2.2.2.2.1).length W.length) := by
  unfold actR; rw [h]; rfl
theorem actR_3 {o : OpV} {L : List Blk} {W : Wrs} {set : Bool} {left : Int} (h1 : (o.1 == 1) = false) (h : (o.1 == 3) = true) : actR o L W set left = x_rsy L W false set left := by
  unfold actR; rw [h1, h]; rfl
theorem actR_4 {o : OpV} {L : List Blk} {W : Wrs} {set : Bool} {left : Int} (h1 : (o.1 == 1) = false) (h3 : (o.1 == 3) = false) (h : (o.1 == 4) = true) : actR o L W set left = x_rlost o.2.2.2.2.2.2 o.2.2.2.1 o.2.2.1 L W := by
  unfold actR; rw [h1, h3, h]; rfl
theorem actR_6 {o : OpV} {L : List Blk} {W : Wrs} {set : Bool} {left : Int} (h1 : (o.1 == 1) = false) (h3 : (o.1 == 3) = false) (h4 : (o.1 == 4) = false) (h : (o.1 == 6) = true) : actR o L W set left = (L, W, false, fuS false set o.2.1, fuL false left o.2.1, ()) := by
  unfold actR; rw [h1, h3, h4, h]; rfl
theorem actR_0 {o : OpV} {L : List Blk} {W : Wrs} {set : Bool} {left : Int} (h1 : (o.1 == 1) = false) (h3 : (o.1 == 3) = false) (h4 : (o.1 == 4) = false) (h : (o.1 == 6) = false) : actR o L W set left = (L, W, false, set, left, ()) := by
  unfold actR; rw [h1, h3, h4, h]; rfl
theorem wrO_len (e j : Int) (b : Blk) (W : Wrs) : (wrO e W j b).length ≤ W.length + 1 := by
  unfold wrO
  cases decide (e = 0) <;> simp
theorem ref_wr {n : Nat} {L : List Blk} {W : Wrs} {set : Bool} {left : Int} (h : refOk n L W) (j : Int) (b : Blk) {e : Int} (he : e = wrE false set left L.length j b.length W.length) : refOk n L (wrO e W j b) := by
  refine ⟨h.len, ?_, ⟨h.blk.1, ?_⟩⟩
  · intro w hw
    unfold wrO at hw
    cases hd : decide (e = 0) with
    | false => rw [hd] at hw; exact h.opn_ w hw
    | true =>
      rw [hd, cond_true] at hw
      have h0 : e = 0 := of_decide_eq_true hd
      simp only [List.mem_append, List.mem_singleton] at hw
      rcases hw with hw | rfl
      · exact h.opn_ w hw
      · have := (wrE0 (he ▸ h0)).1
        rw [h.len] at this
        exact this
  · intro w hw
    unfold wrO at hw
    cases hd : decide (e = 0) with
    | false => rw [hd] at hw; exact h.blk.2 w hw
    | true =>
      rw [hd, cond_true] at hw
      have h0 : e = 0 := of_decide_eq_true hd
      simp only [List.mem_append, List.mem_singleton] at hw
      rcases hw with hw | rfl
      · exact h.blk.2 w hw
      · have := (wrE0 (he ▸ h0)).2
        exact wholeV_len2 (by omega)
theorem ref_sy {n : Nat} {L : List Blk} {W : Wrs} (h : refOk n L W) (e : Int) : refOk n (syF e W L) (syO e W) := by
  unfold syF syO
  cases decide (e = 0) with
  | false => exact h
  | true =>
    simp only [cond_true]
    exact ⟨by rw [syncK_len]; exact h.len, fun w hw => (by cases hw), ⟨sync_all h.blk.1 h.blk.2 _ (Nat.le_refl _), fun w hw => (by cases hw)⟩⟩
theorem ref_lost {n : Nat} {L : List Blk} {W : Wrs} (h : refOk n L W) (keep : List Bool) (torn at_ : Int) : refOk n (loseK keep torn at_ W L W.length) [] := by
  refine ⟨by rw [loseK_len]; exact h.len, fun w hw => (by cases hw), ⟨fun b hb => ?_, fun w hw => (by cases hw)⟩⟩
  obtain ⟨j, hj, rfl⟩ := List.getElem_of_mem hb
  have := lose_len (keep := keep) (torn := torn) (at_ := at_) h.blk (by rw [h.len]; exact h.opn_) W.length (Nat.le_refl _) j (by rw [loseK_len] at hj; exact hj)
  rwa [getD_at _ _ _ hj] at this
theorem wrLeft_eq {set : Bool} {left n j m k1 k2 : Int} (h1 : k1 < 65536) (h2 : k2 < 65536) : wrLeft false set left n j m k1 = wrLeft false set left n j m k2 := by
  unfold wrLeft wrA
  rw [decide_eq_false (show ¬ k1 ≥ 65536 by omega), decide_eq_false (show ¬ k2 ≥ 65536 by omega)]
theorem s2_act {i : Int} {want : Blk} {n m k : Nat} {fast : List Blk} {opn : Wrs} {last : List (Int × Int)} {L : List Blk} {W : Wrs} {left : Int} (h : s2I i want n m k fast opn last L W left) (hk : k < m) (hk6 : k < 60) (h0 : 0 ≤ i) (hi : i < (n : Int)) (o : OpV) (set : Bool) (hni : ((o.1 == 1) && (o.2.1 == i)) = false) :
    s2I i want n m (k + 1) (actD o fast opn last set left).1 (actD o fast opn last set left).2.1 (actD o fast opn last set left).2.2.1 (actR o L W set left).1 (actR o L W set left).2.1 (actD o fast opn last set left).2.2.2.2.2.1 ∧ (actD o fast opn last set left).2.2.2.1 = false ∧ (actR o L W set left).2.2.1 = false ∧ (actR o L W set left).2.2.2.1 = (actD o fast opn last set left).2.2.2.2.1 ∧ (actR o L W set left).2.2.2.2.1 = (actD o fast opn last set left).2.2.2.2.2.1 := by
  obtain ⟨g1, gk, g2, g3, g4, g5, g6, g7, g8, g9⟩ := h
  cases q1 : o.1 == 1 with
  | true =>
    rw [actD_1 q1, actR_1 q1]
    rw [q1, Bool.true_and] at hni
    have hne : o.2.1 ≠ i := by simpa using hni
    refine ⟨⟨hk, hk6, g2, g3, ?_, ?_, dev_wr g6 _ _ rfl, ref_wr g7 _ _ rfl, Nat.le_trans (wrO_len _ _ _ _) (by omega), Nat.le_trans (wrO_len _ _ _ _) (by omega)⟩, rfl, rfl, rfl, ?_⟩
    · intro w hw
      have hw : w ∈ wrO (wrE false set left fast.length o.2.1 (cutV o.2.2.2.2.2.1).length opn.length) opn o.2.1 (cutV o.2.2.2.2.2.1) := hw
      unfold wrO at hw
      cases hd : decide (wrE false set left fast.length o.2.1 (cutV o.2.2.2.2.2.1).length opn.length = 0) with
      | false => rw [hd] at hw; exact g4 w hw
      | true =>
        rw [hd, cond_true] at hw
        simp only [List.mem_append, List.mem_singleton] at hw
        rcases hw with hw | rfl
        · exact g4 w hw
        · exact hne
    · show mget .i64 (wrM (wrE false set left fast.length o.2.1 (cutV o.2.2.2.2.2.1).length opn.length) opn last o.2.1) i = none
      unfold wrM
      cases decide (wrE false set left fast.length o.2.1 (cutV o.2.2.2.2.2.1).length opn.length = 0) with
      | false => exact g5
      | true =>
        rw [cond_true, mget_mput, if_neg (fun e => hne e.symm)]; exact g5
    · show wrLeft false set left L.length o.2.1 (cutV o.2.2.2.2.2.1).length W.length = wrLeft false set left fast.length o.2.1 (cutV o.2.2.2.2.2.1).length opn.length
      rw [g7.len, g2]
      exact wrLeft_eq (by omega) (by omega)
  | false =>
  cases q3 : o.1 == 3 with
  | true =>
    rw [actD_3 q1 q3, actR_3 q1 q3]
    refine ⟨⟨hk, hk6, ?_, ?_, ?_, ?_, dev_sy g6 _, ref_sy g7 _, ?_, ?_⟩, rfl, rfl, rfl, rfl⟩
    · show (syF _ opn fast).length = n
      unfold syF
      cases decide (syE false set left = 0) with
      | false => exact g2
      | true => rw [cond_true, syncK_len]; exact g2
    · show (syF _ opn fast).getD i.toNat [] = want
      unfold syF
      cases decide (syE false set left = 0) with
      | false => exact g3
      | true =>
        have hi2 : i.toNat < fast.length := by omega
        rw [cond_true, sync_holds g6.opn_ h0 hi2 _ (Nat.le_refl _), holdsK_same (m := 0) _ (Nat.zero_le _) fun j _ hj => by
          rw [getD_at _ _ _ hj]; exact g4 _ (List.getElem_mem hj)]
        exact g3
    · intro w hw
      have hw : w ∈ syO (syE false set left) opn := hw
      unfold syO at hw
      cases hd : decide (syE false set left = 0) with
      | false => rw [hd] at hw; exact g4 w hw
      | true => rw [hd] at hw; cases hw
    · show mget .i64 (syM (syE false set left) last) i = none
      unfold syM
      cases decide (syE false set left = 0) with
      | false => exact g5
      | true => rfl
    · show (syO (syE false set left) opn).length ≤ k + 1
      unfold syO
      cases decide (syE false set left = 0) with
      | false => exact Nat.le_succ_of_le g8
      | true => exact Nat.zero_le _
    · show (syO (syE false set left) W).length ≤ 60 + (k + 1)
      unfold syO
      cases decide (syE false set left = 0) with
      | false => exact Nat.le_succ_of_le g9
      | true => exact Nat.zero_le _
  | false =>
  cases q4 : o.1 == 4 with
  | true =>
    rw [actD_4 q1 q3 q4, actR_4 q1 q3 q4]
    refine ⟨⟨hk, hk6, (loseK_len _ _ _ _ _ _).trans g2, (lose_keep h0 g6.opn_ g4 _ (Nat.le_refl _)).trans g3, fun w hw => (by cases hw), rfl, dev_lost g6 _ _ _, ref_lost g7 _ _ _, Nat.zero_le _, Nat.zero_le _⟩, rfl, rfl, rfl, rfl⟩
  | false =>
  cases q6 : o.1 == 6 with
  | true =>
    rw [actD_6 q1 q3 q4 q6, actR_6 q1 q3 q4 q6]
    exact ⟨⟨hk, hk6, g2, g3, g4, g5, ⟨g6.pos, g6.few, g6.lst, g6.opn_, g6.blk, Int.le_max_right _ _⟩, g7, Nat.le_succ_of_le g8, Nat.le_succ_of_le g9⟩, rfl, rfl, rfl, rfl⟩
  | false =>
    rw [actD_0 q1 q3 q4 q6, actR_0 q1 q3 q4 q6]
    exact ⟨⟨hk, hk6, g2, g3, g4, g5, g6, g7, Nat.le_succ_of_le g8, Nat.le_succ_of_le g9⟩, rfl, rfl, rfl, rfl⟩

theorem law9_act1_vc (o : OpV) (fast : List Blk) (opn : Wrs) (last : List (Int × Int)) (L : List Blk) (W : Wrs) (set : Bool) (left : Int) (hr : refOk fast.length L W) (ho : o.1 = 1) (h : devOk fast opn last left) :
    ((o.1 == 1) = true →
        (0 < List.length fast ∧ 0 ≤ left) ∧
          0 ≤ left ∧
            (wrE false set left (ofN (List.length fast)) o.2.1 (ofN (List.length (cutV o.2.2.2.2.2.1))) (ofN (List.length opn)) ==
                  wrE false set left (ofN (List.length L)) o.2.1 (ofN (List.length (cutV o.2.2.2.2.2.1))) (ofN (List.length W))) =
                actB o fast opn last L W set left ∧
              (false = (actD o fast opn last set left).2.2.2.1 ∧
                  set = (actD o fast opn last set left).2.2.2.2.1 ∧
                    wrLeft false set left (ofN (List.length fast)) o.2.1 (ofN (List.length (cutV o.2.2.2.2.2.1))) (ofN (List.length opn)) = (actD o fast opn last set left).2.2.2.2.2.1) ∧
                fast = (actD o fast opn last set left).1 ∧
                  wrO (wrE false set left (ofN (List.length fast)) o.2.1 (ofN (List.length (cutV o.2.2.2.2.2.1))) (ofN (List.length opn))) opn o.2.1 (cutV o.2.2.2.2.2.1) =
                      (actD o fast opn last set left).2.1 ∧
                    wrM (wrE false set left (ofN (List.length fast)) o.2.1 (ofN (List.length (cutV o.2.2.2.2.2.1))) (ofN (List.length opn))) opn last o.2.1 = (actD o fast opn last set left).2.2.1 ∧
                      (false = (actR o L W set left).2.2.1 ∧
                          set = (actR o L W set left).2.2.2.1 ∧
                            wrLeft false set left (ofN (List.length L)) o.2.1 (ofN (List.length (cutV o.2.2.2.2.2.1))) (ofN (List.length W)) = (actR o L W set left).2.2.2.2.1) ∧
                        L = (actR o L W set left).1 ∧
                          wrO (wrE false set left (ofN (List.length L)) o.2.1 (ofN (List.length (cutV o.2.2.2.2.2.1))) (ofN (List.length W))) W o.2.1 (cutV o.2.2.2.2.2.1) = (actR o L W set left).2.1) ∧
      ((o.1 == 1) = false →
        ((o.1 == 2) = true →
            (0 < List.length fast ∧ okLast (List.length opn) last) ∧
              okB L W ∧
                (readV fast opn last false o.2.1 == rReadV false L W o.2.1 && atV false (ofN (List.length fast)) o.2.1 == atV false (ofN (List.length L)) o.2.1) = actB o fast opn last L W set left ∧
                  (false = (actD o fast opn last set left).2.2.2.1 ∧ set = (actD o fast opn last set left).2.2.2.2.1 ∧ left = (actD o fast opn last set left).2.2.2.2.2.1) ∧
                    fast = (actD o fast opn last set left).1 ∧
                      opn = (actD o fast opn last set left).2.1 ∧
                        last = (actD o fast opn last set left).2.2.1 ∧
                          (false = (actR o L W set left).2.2.1 ∧ set = (actR o L W set left).2.2.2.1 ∧ left = (actR o L W set left).2.2.2.2.1) ∧
                            L = (actR o L W set left).1 ∧ W = (actR o L W set left).2.1) ∧
          ((o.1 == 2) = false →
            ((o.1 == 3) = true →
                (0 < List.length fast ∧ 0 ≤ left ∧ okOpen (List.length fast) opn) ∧
                  (0 ≤ left ∧ okOpen (List.length L) W) ∧
                    (syN (syE false set left) opn == syN (syE false set left) W && syE false set left == syE false set left) = actB o fast opn last L W set left ∧
                      (false = (actD o fast opn last set left).2.2.2.1 ∧ set = (actD o fast opn last set left).2.2.2.2.1 ∧ syLeft false set left = (actD o fast opn last set left).2.2.2.2.2.1) ∧
                        syF (syE false set left) opn fast = (actD o fast opn last set left).1 ∧
                          syO (syE false set left) opn = (actD o fast opn last set left).2.1 ∧
                            syM (syE false set left) last = (actD o fast opn last set left).2.2.1 ∧
                              (false = (actR o L W set left).2.2.1 ∧ set = (actR o L W set left).2.2.2.1 ∧ syLeft false set left = (actR o L W set left).2.2.2.2.1) ∧
                                syF (syE false set left) W L = (actR o L W set left).1 ∧ syO (syE false set left) W = (actR o L W set left).2.1) ∧
              ((o.1 == 3) = false →
                ((o.1 == 4) = true →
                    (0 < List.length fast ∧ List.length fast ≤ 4096 ∧ false = false ∧ okOpen (List.length fast) opn) ∧
                      (List.length L ≤ 4096 ∧ false = false ∧ okOpen (List.length L) W ∧ okB L W) ∧
                        (false = true →
                            false = actB o fast opn last L W set left ∧
                              (true = (actD o fast opn last set left).2.2.2.1 ∧ set = (actD o fast opn last set left).2.2.2.2.1 ∧ left = (actD o fast opn last set left).2.2.2.2.2.1) ∧
                                fast = (actD o fast opn last set left).1 ∧
                                  opn = (actD o fast opn last set left).2.1 ∧
                                    last = (actD o fast opn last set left).2.2.1 ∧
                                      (true = (actR o L W set left).2.2.1 ∧ set = (actR o L W set left).2.2.2.1 ∧ left = (actR o L W set left).2.2.2.2.1) ∧
                                        L = (actR o L W set left).1 ∧ W = (actR o L W set left).2.1) ∧
                          (false = false →
                            (false = true →
                                true = actB o fast opn last L W set left ∧
                                  (true = (actD o fast opn last set left).2.2.2.1 ∧ set = (actD o fast opn last set left).2.2.2.2.1 ∧ left = (actD o fast opn last set left).2.2.2.2.2.1) ∧
                                    fast = (actD o fast opn last set left).1 ∧
                                      opn = (actD o fast opn last set left).2.1 ∧
                                        last = (actD o fast opn last set left).2.2.1 ∧
                                          (true = (actR o L W set left).2.2.1 ∧ set = (actR o L W set left).2.2.2.1 ∧ left = (actR o L W set left).2.2.2.2.1) ∧
                                            L = (actR o L W set left).1 ∧ W = (actR o L W set left).2.1) ∧
                              (false = false →
                                (0 < List.length fast ∧ okLast (List.length opn) last) ∧
                                  ((atV true (ofN (List.length fast)) 0 == 91) = true ∧ 0 < List.length fast) ∧
                                    ((atV true (ofN (List.length fast)) 0 == 91 && true) = true ∧ 0 < List.length fast) ∧ False))) ∧
                  ((o.1 == 4) = false →
                    ((o.1 == 5) = true → False) ∧
                      ((o.1 == 5) = false →
                        ((o.1 == 6) = true →
                            0 < List.length fast ∧
                              true = actB o fast opn last L W set left ∧
                                (false = (actD o fast opn last set left).2.2.2.1 ∧
                                    fuS false set o.2.1 = (actD o fast opn last set left).2.2.2.2.1 ∧ fuL false left o.2.1 = (actD o fast opn last set left).2.2.2.2.2.1) ∧
                                  fast = (actD o fast opn last set left).1 ∧
                                    opn = (actD o fast opn last set left).2.1 ∧
                                      last = (actD o fast opn last set left).2.2.1 ∧
                                        (false = (actR o L W set left).2.2.1 ∧ fuS false set o.2.1 = (actR o L W set left).2.2.2.1 ∧ fuL false left o.2.1 = (actR o L W set left).2.2.2.2.1) ∧
                                          L = (actR o L W set left).1 ∧ W = (actR o L W set left).2.1) ∧
                          ((o.1 == 6) = false →
                            true = actB o fast opn last L W set left ∧
                              (false = (actD o fast opn last set left).2.2.2.1 ∧ set = (actD o fast opn last set left).2.2.2.2.1 ∧ left = (actD o fast opn last set left).2.2.2.2.2.1) ∧
                                fast = (actD o fast opn last set left).1 ∧
                                  opn = (actD o fast opn last set left).2.1 ∧
                                    last = (actD o fast opn last set left).2.2.1 ∧
                                      (false = (actR o L W set left).2.2.1 ∧ set = (actR o L W set left).2.2.2.1 ∧ left = (actR o L W set left).2.2.2.2.1) ∧
                                        L = (actR o L W set left).1 ∧ W = (actR o L W set left).2.1)))))) := by
  have q1 : (o.1 == 1) = true := by simpa using ho
  refine ⟨fun _ => ?_, fun q => by rw [q1] at q; cases q⟩
  rw [actD_1 q1, actR_1 q1]
  exact ⟨⟨h.pos, h.lft⟩, h.lft, by unfold actB; rw [q1]; rfl, ⟨rfl, rfl, rfl⟩, rfl, rfl, rfl, ⟨rfl, rfl, rfl⟩, rfl, rfl⟩

theorem law9_act2_vc (o : OpV) (fast : List Blk) (opn : Wrs) (last : List (Int × Int)) (L : List Blk) (W : Wrs) (set : Bool) (left : Int) (hr : refOk fast.length L W) (ho : o.1 ≠ 5) (h : devOk fast opn last left) :
    ((o.1 == 1) = true →
        (0 < List.length fast ∧ 0 ≤ left) ∧
          0 ≤ left ∧
            (wrE false set left (ofN (List.length fast)) o.2.1 (ofN (List.length (cutV o.2.2.2.2.2.1))) (ofN (List.length opn)) ==
                  wrE false set left (ofN (List.length L)) o.2.1 (ofN (List.length (cutV o.2.2.2.2.2.1))) (ofN (List.length W))) =
                actB o fast opn last L W set left ∧
              (false = (actD o fast opn last set left).2.2.2.1 ∧
                  set = (actD o fast opn last set left).2.2.2.2.1 ∧
                    wrLeft false set left (ofN (List.length fast)) o.2.1 (ofN (List.length (cutV o.2.2.2.2.2.1))) (ofN (List.length opn)) = (actD o fast opn last set left).2.2.2.2.2.1) ∧
                fast = (actD o fast opn last set left).1 ∧
                  wrO (wrE false set left (ofN (List.length fast)) o.2.1 (ofN (List.length (cutV o.2.2.2.2.2.1))) (ofN (List.length opn))) opn o.2.1 (cutV o.2.2.2.2.2.1) =
                      (actD o fast opn last set left).2.1 ∧
                    wrM (wrE false set left (ofN (List.length fast)) o.2.1 (ofN (List.length (cutV o.2.2.2.2.2.1))) (ofN (List.length opn))) opn last o.2.1 = (actD o fast opn last set left).2.2.1 ∧
                      (false = (actR o L W set left).2.2.1 ∧
                          set = (actR o L W set left).2.2.2.1 ∧
                            wrLeft false set left (ofN (List.length L)) o.2.1 (ofN (List.length (cutV o.2.2.2.2.2.1))) (ofN (List.length W)) = (actR o L W set left).2.2.2.2.1) ∧
                        L = (actR o L W set left).1 ∧
                          wrO (wrE false set left (ofN (List.length L)) o.2.1 (ofN (List.length (cutV o.2.2.2.2.2.1))) (ofN (List.length W))) W o.2.1 (cutV o.2.2.2.2.2.1) = (actR o L W set left).2.1) ∧
      ((o.1 == 1) = false →
        ((o.1 == 2) = true →
            (0 < List.length fast ∧ okLast (List.length opn) last) ∧
              okB L W ∧
                (readV fast opn last false o.2.1 == rReadV false L W o.2.1 && atV false (ofN (List.length fast)) o.2.1 == atV false (ofN (List.length L)) o.2.1) = actB o fast opn last L W set left ∧
                  (false = (actD o fast opn last set left).2.2.2.1 ∧ set = (actD o fast opn last set left).2.2.2.2.1 ∧ left = (actD o fast opn last set left).2.2.2.2.2.1) ∧
                    fast = (actD o fast opn last set left).1 ∧
                      opn = (actD o fast opn last set left).2.1 ∧
                        last = (actD o fast opn last set left).2.2.1 ∧
                          (false = (actR o L W set left).2.2.1 ∧ set = (actR o L W set left).2.2.2.1 ∧ left = (actR o L W set left).2.2.2.2.1) ∧
                            L = (actR o L W set left).1 ∧ W = (actR o L W set left).2.1) ∧
          ((o.1 == 2) = false →
            ((o.1 == 3) = true →
                (0 < List.length fast ∧ 0 ≤ left ∧ okOpen (List.length fast) opn) ∧
                  (0 ≤ left ∧ okOpen (List.length L) W) ∧
                    (syN (syE false set left) opn == syN (syE false set left) W && syE false set left == syE false set left) = actB o fast opn last L W set left ∧
                      (false = (actD o fast opn last set left).2.2.2.1 ∧ set = (actD o fast opn last set left).2.2.2.2.1 ∧ syLeft false set left = (actD o fast opn last set left).2.2.2.2.2.1) ∧
                        syF (syE false set left) opn fast = (actD o fast opn last set left).1 ∧
                          syO (syE false set left) opn = (actD o fast opn last set left).2.1 ∧
                            syM (syE false set left) last = (actD o fast opn last set left).2.2.1 ∧
                              (false = (actR o L W set left).2.2.1 ∧ set = (actR o L W set left).2.2.2.1 ∧ syLeft false set left = (actR o L W set left).2.2.2.2.1) ∧
                                syF (syE false set left) W L = (actR o L W set left).1 ∧ syO (syE false set left) W = (actR o L W set left).2.1) ∧
              ((o.1 == 3) = false →
                ((o.1 == 4) = true →
                    (0 < List.length fast ∧ List.length fast ≤ 4096 ∧ false = false ∧ okOpen (List.length fast) opn) ∧
                      (List.length L ≤ 4096 ∧ false = false ∧ okOpen (List.length L) W ∧ okB L W) ∧
                        (false = true →
                            false = actB o fast opn last L W set left ∧
                              (true = (actD o fast opn last set left).2.2.2.1 ∧ set = (actD o fast opn last set left).2.2.2.2.1 ∧ left = (actD o fast opn last set left).2.2.2.2.2.1) ∧
                                fast = (actD o fast opn last set left).1 ∧
                                  opn = (actD o fast opn last set left).2.1 ∧
                                    last = (actD o fast opn last set left).2.2.1 ∧
                                      (true = (actR o L W set left).2.2.1 ∧ set = (actR o L W set left).2.2.2.1 ∧ left = (actR o L W set left).2.2.2.2.1) ∧
                                        L = (actR o L W set left).1 ∧ W = (actR o L W set left).2.1) ∧
                          (false = false →
                            (false = true →
                                true = actB o fast opn last L W set left ∧
                                  (true = (actD o fast opn last set left).2.2.2.1 ∧ set = (actD o fast opn last set left).2.2.2.2.1 ∧ left = (actD o fast opn last set left).2.2.2.2.2.1) ∧
                                    fast = (actD o fast opn last set left).1 ∧
                                      opn = (actD o fast opn last set left).2.1 ∧
                                        last = (actD o fast opn last set left).2.2.1 ∧
                                          (true = (actR o L W set left).2.2.1 ∧ set = (actR o L W set left).2.2.2.1 ∧ left = (actR o L W set left).2.2.2.2.1) ∧
                                            L = (actR o L W set left).1 ∧ W = (actR o L W set left).2.1) ∧
                              (false = false →
                                (0 < List.length fast ∧ okLast (List.length opn) last) ∧
                                  ((atV true (ofN (List.length fast)) 0 == 91) = true ∧ 0 < List.length fast) ∧
                                    ((atV true (ofN (List.length fast)) 0 == 91 && true) = true ∧ 0 < List.length fast) ∧
                                      (atV true (ofN (List.length fast)) 0 == 91 && true && opV true (ofN (List.length opn)) == 0) = actB o fast opn last L W set left ∧
                                        (false = (actD o fast opn last set left).2.2.2.1 ∧ false = (actD o fast opn last set left).2.2.2.2.1 ∧ 0 = (actD o fast opn last set left).2.2.2.2.2.1) ∧
                                          loseK o.2.2.2.2.2.2 o.2.2.2.1 o.2.2.1 opn fast (List.length opn) = (actD o fast opn last set left).1 ∧
                                            nilOf (Int × List (BitVec 8)) = (actD o fast opn last set left).2.1 ∧
                                              nilOf (Int × Int) = (actD o fast opn last set left).2.2.1 ∧
                                                (false = (actR o L W set left).2.2.1 ∧ false = (actR o L W set left).2.2.2.1 ∧ 0 = (actR o L W set left).2.2.2.2.1) ∧
                                                  loseK o.2.2.2.2.2.2 o.2.2.2.1 o.2.2.1 W L (List.length W) = (actR o L W set left).1 ∧ nilOf (Int × List (BitVec 8)) = (actR o L W set left).2.1))) ∧
                  ((o.1 == 4) = false →
                    ((o.1 == 5) = true → False) ∧
                      ((o.1 == 5) = false →
                        ((o.1 == 6) = true →
                            0 < List.length fast ∧
                              true = actB o fast opn last L W set left ∧
                                (false = (actD o fast opn last set left).2.2.2.1 ∧
                                    fuS false set o.2.1 = (actD o fast opn last set left).2.2.2.2.1 ∧ fuL false left o.2.1 = (actD o fast opn last set left).2.2.2.2.2.1) ∧
                                  fast = (actD o fast opn last set left).1 ∧
                                    opn = (actD o fast opn last set left).2.1 ∧
                                      last = (actD o fast opn last set left).2.2.1 ∧
                                        (false = (actR o L W set left).2.2.1 ∧ fuS false set o.2.1 = (actR o L W set left).2.2.2.1 ∧ fuL false left o.2.1 = (actR o L W set left).2.2.2.2.1) ∧
                                          L = (actR o L W set left).1 ∧ W = (actR o L W set left).2.1) ∧
                          ((o.1 == 6) = false →
                            true = actB o fast opn last L W set left ∧
                              (false = (actD o fast opn last set left).2.2.2.1 ∧ set = (actD o fast opn last set left).2.2.2.2.1 ∧ left = (actD o fast opn last set left).2.2.2.2.2.1) ∧
                                fast = (actD o fast opn last set left).1 ∧
                                  opn = (actD o fast opn last set left).2.1 ∧
                                    last = (actD o fast opn last set left).2.2.1 ∧
                                      (false = (actR o L W set left).2.2.1 ∧ set = (actR o L W set left).2.2.2.1 ∧ left = (actR o L W set left).2.2.2.2.1) ∧
                                        L = (actR o L W set left).1 ∧ W = (actR o L W set left).2.1)))))) := by
  refine ⟨fun q => ?_, fun q1 => ⟨fun q => ?_, fun q2 => ⟨fun q => ?_, fun q3 => ⟨fun q => ?_, fun q4 => ⟨fun q => ?_, fun _ => ⟨fun q => ?_, fun q6 => ?_⟩⟩⟩⟩⟩⟩
  · rw [actD_1 q, actR_1 q]
    exact ⟨⟨h.pos, h.lft⟩, h.lft, by unfold actB; rw [q]; rfl, ⟨rfl, rfl, rfl⟩, rfl, rfl, rfl, ⟨rfl, rfl, rfl⟩, rfl, rfl⟩
  · have k2 : o.1 = 2 := by simpa using q
    have e3 : (o.1 == 3) = false := by rw [k2]; rfl
    have e4 : (o.1 == 4) = false := by rw [k2]; rfl
    have e6 : (o.1 == 6) = false := by rw [k2]; rfl
    rw [actD_0 q1 e3 e4 e6, actR_0 q1 e3 e4 e6]
    exact ⟨⟨h.pos, lastOk_ok h.lst⟩, hr.blk, by unfold actB; rw [q1, q]; rfl, ⟨rfl, rfl, rfl⟩, rfl, rfl, rfl, ⟨rfl, rfl, rfl⟩, rfl, rfl⟩
  · rw [actD_3 q1 q, actR_3 q1 q]
    exact ⟨⟨h.pos, h.lft, h.opn_⟩, ⟨h.lft, by rw [hr.len]; exact hr.opn_⟩, by unfold actB; rw [q1, q2, q]; simp, ⟨rfl, rfl, rfl⟩, rfl, rfl, rfl, ⟨rfl, rfl, rfl⟩, rfl, rfl⟩
  · rw [actD_4 q1 q3 q, actR_4 q1 q3 q]
    exact ⟨⟨h.pos, h.few, rfl, h.opn_⟩, ⟨by rw [hr.len]; exact h.few, rfl, by rw [hr.len]; exact hr.opn_, hr.blk⟩, (fun q => nomatch q), fun _ => ⟨(fun q => nomatch q), fun _ => ⟨⟨h.pos, lastOk_ok h.lst⟩, ⟨rfl, h.pos⟩, ⟨rfl, h.pos⟩, by unfold actB; rw [q1, q2, q3]; rfl, ⟨rfl, rfl, rfl⟩, rfl, rfl, rfl, ⟨rfl, rfl, rfl⟩, rfl, rfl⟩⟩⟩
  · exact ho (by simpa using q)
  · rw [actD_6 q1 q3 q4 q, actR_6 q1 q3 q4 q]
    exact ⟨h.pos, by unfold actB; rw [q1, q2, q3]; rfl, ⟨rfl, rfl, rfl⟩, rfl, rfl, rfl, ⟨rfl, rfl, rfl⟩, rfl, rfl⟩
  · rw [actD_0 q1 q3 q4 q6, actR_0 q1 q3 q4 q6]
    exact ⟨by unfold actB; rw [q1, q2, q3]; rfl, ⟨rfl, rfl, rfl⟩, rfl, rfl, rfl, ⟨rfl, rfl, rfl⟩, rfl, rfl⟩

theorem law9_DiskSyncs_vc (ws more : List OpV) (i : Int) :
    (ofN 4 ≤ 12 ∧ ofN 12 ≤ 4096) ∧
      (ofN 4 ≤ 12 ∧ ofN 12 ≤ 4096) ∧
        ((false || decide (i < 0) || decide (12 ≤ i)) = true → true = true) ∧
          ((false || decide (i < 0) || decide (12 ≤ i)) = false →
            (∃ (x : Nat × List (Int × List (BitVec 8)) × List (Int × Int)),
                s1I 12 (List.length ws) x ∧
                  0 = ofN x.1 ∧
                    (false = false ∧ false = false ∧ ofN 0 = 0) ∧
                      List.replicate (Int.toNat 12) (T.dflt (T.arr 512 T.u8)) = List.replicate (Int.toNat 12) (T.dflt (T.arr 512 T.u8)) ∧
                        nilOf (Int × List (BitVec 8)) = x.2.1 ∧
                          nilOf (Int × Int) = x.2.2 ∧
                            (false = false ∧ false = false ∧ ofN 0 = 0) ∧
                              List.replicate (Int.toNat 12) (T.dflt (T.arr 512 T.u8)) = List.replicate (Int.toNat 12) (T.dflt (T.arr 512 T.u8)) ∧ nilOf (Int × List (BitVec 8)) = x.2.1) ∧
              ∀ (x : Nat × List (Int × List (BitVec 8)) × List (Int × Int)),
                s1I 12 (List.length ws) x →
                  ((decide (ofN x.1 < ofN (List.length ws)) && decide (ofN x.1 < 60)) = true →
                      within (ofN x.1) (List.length ws) ∧
                        (((List.getD ws (Int.toNat (ofN x.1)) (T.dflt T_Op)).1 == 1) = true →
                            within (ofN x.1) (List.length ws) ∧
                              ((List.getD ws (Int.toNat (ofN x.1)) (T.dflt T_Op)).1 = 1 ∧
                                  false = false ∧
                                    false = false ∧
                                      ofN 0 = 0 ∧
                                        false = false ∧
                                          devOk (List.replicate (Int.toNat 12) (T.dflt (T.arr 512 T.u8))) x.2.1 x.2.2 0 ∧
                                            refOk (List.length (List.replicate (Int.toNat 12) (T.dflt (T.arr 512 T.u8)))) (List.replicate (Int.toNat 12) (T.dflt (T.arr 512 T.u8))) x.2.1) ∧
                                inI64 (ofN x.1 + 1) ∧
                                  ∃ (x' : Nat × List (Int × List (BitVec 8)) × List (Int × Int)),
                                    s1I 12 (List.length ws) x' ∧
                                      List.length ws - x'.1 < List.length ws - x.1 ∧
                                        ofN x.1 + 1 = ofN x'.1 ∧
                                          ((actD
                                                          (List.getD ws (Int.toNat (ofN x.1))
                                                            (T.dflt T_Op))
                                                          (List.replicate (Int.toNat 12) (T.dflt (T.arr 512 T.u8))) x.2.1 x.2.2 false 0).2.2.2.1 =
                                                false ∧
                                              (actD
                                                              (List.getD ws (Int.toNat (ofN x.1))
                                                                (T.dflt T_Op))
                                                              (List.replicate (Int.toNat 12) (T.dflt (T.arr 512 T.u8))) x.2.1 x.2.2 false 0).2.2.2.2.1 =
                                                  false ∧
                                                (actD
                                                                (List.getD ws (Int.toNat (ofN x.1))
                                                                  (T.dflt T_Op))
                                                                (List.replicate (Int.toNat 12) (T.dflt (T.arr 512 T.u8))) x.2.1 x.2.2 false 0).2.2.2.2.2.1 =
                                                  0) ∧
                                            (actD
                                                    (List.getD ws (Int.toNat (ofN x.1))
                                                      (T.dflt T_Op))
                                                    (List.replicate (Int.toNat 12) (T.dflt (T.arr 512 T.u8))) x.2.1 x.2.2 false 0).1 =
                                                List.replicate (Int.toNat 12) (T.dflt (T.arr 512 T.u8)) ∧
                                              (actD
                                                        (List.getD ws (Int.toNat (ofN x.1))
                                                          (T.dflt T_Op))
                                                        (List.replicate (Int.toNat 12) (T.dflt (T.arr 512 T.u8))) x.2.1 x.2.2 false 0).2.1 =
                                                  x'.2.1 ∧
                                                (actD
                                                            (List.getD ws (Int.toNat (ofN x.1))
                                                              (T.dflt T_Op))
                                                            (List.replicate (Int.toNat 12) (T.dflt (T.arr 512 T.u8))) x.2.1 x.2.2 false 0).2.2.1 =
                                                    x'.2.2 ∧
                                                  ((actR
                                                                (List.getD ws (Int.toNat (ofN x.1))
                                                                  (T.dflt T_Op))
                                                                (List.replicate (Int.toNat 12) (T.dflt (T.arr 512 T.u8))) x.2.1 false 0).2.2.1 =
                                                        false ∧
                                                      (actR
                                                                    (List.getD ws (Int.toNat (ofN x.1))
                                                                      (T.dflt T_Op))
                                                                    (List.replicate (Int.toNat 12) (T.dflt (T.arr 512 T.u8))) x.2.1 false 0).2.2.2.1 =
                                                          false ∧
                                                        (actR
                                                                      (List.getD ws (Int.toNat (ofN x.1))
                                                                        (T.dflt T_Op))
                                                                      (List.replicate (Int.toNat 12) (T.dflt (T.arr 512 T.u8))) x.2.1 false 0).2.2.2.2.1 =
                                                          0) ∧
                                                    (actR
                                                            (List.getD ws (Int.toNat (ofN x.1))
                                                              (T.dflt T_Op))
                                                            (List.replicate (Int.toNat 12) (T.dflt (T.arr 512 T.u8))) x.2.1 false 0).1 =
                                                        List.replicate (Int.toNat 12) (T.dflt (T.arr 512 T.u8)) ∧
                                                      (actR
                                                              (List.getD ws (Int.toNat (ofN x.1))
                                                                (T.dflt T_Op))
                                                              (List.replicate (Int.toNat 12) (T.dflt (T.arr 512 T.u8))) x.2.1 false 0).2.1 =
                                                        x'.2.1) ∧
                          (((List.getD ws (Int.toNat (ofN x.1)) (T.dflt T_Op)).1 == 1) = false →
                            inI64 (ofN x.1 + 1) ∧
                              ∃ (x' : Nat × List (Int × List (BitVec 8)) × List (Int × Int)),
                                s1I 12 (List.length ws) x' ∧
                                  List.length ws - x'.1 < List.length ws - x.1 ∧
                                    ofN x.1 + 1 = ofN x'.1 ∧
                                      (false = false ∧ false = false ∧ ofN 0 = 0) ∧
                                        List.replicate (Int.toNat 12) (T.dflt (T.arr 512 T.u8)) = List.replicate (Int.toNat 12) (T.dflt (T.arr 512 T.u8)) ∧
                                          x.2.1 = x'.2.1 ∧
                                            x.2.2 = x'.2.2 ∧
                                              (false = false ∧ false = false ∧ ofN 0 = 0) ∧
                                                List.replicate (Int.toNat 12) (T.dflt (T.arr 512 T.u8)) = List.replicate (Int.toNat 12) (T.dflt (T.arr 512 T.u8)) ∧ x.2.1 = x'.2.1)) ∧
                    ((decide (ofN x.1 < ofN (List.length ws)) && decide (ofN x.1 < 60)) = false →
                      (0 < List.length (List.replicate (Int.toNat 12) (T.dflt (T.arr 512 T.u8))) ∧ okLast (List.length x.2.1) x.2.2) ∧
                        (0 < List.length (List.replicate (Int.toNat 12) (T.dflt (T.arr 512 T.u8))) ∧ ofN 0 ≤ 0 ∧ okOpen (List.length (List.replicate (Int.toNat 12) (T.dflt (T.arr 512 T.u8)))) x.2.1) ∧
                          ((atV false (ofN (List.length (List.replicate (Int.toNat 12) (T.dflt (T.arr 512 T.u8))))) i != 0 || syE false false 0 != 0) = true → false = true) ∧
                            ((atV false (ofN (List.length (List.replicate (Int.toNat 12) (T.dflt (T.arr 512 T.u8))))) i != 0 || syE false false 0 != 0) = false →
                              (∃ (x_1 : Nat × List (List (BitVec 8)) × List (Int × List (BitVec 8)) × List (Int × Int) × List (List (BitVec 8)) × List (Int × List (BitVec 8)) × Bool × Int),
                                  s2I i (readV (List.replicate (Int.toNat 12) (T.dflt (T.arr 512 T.u8))) x.2.1 x.2.2 false i) 12 (List.length more) x_1.1 x_1.2.1 x_1.2.2.1 x_1.2.2.2.1 x_1.2.2.2.2.1
                                      x_1.2.2.2.2.2.1 x_1.2.2.2.2.2.2.2 ∧
                                    0 = ofN x_1.1 ∧
                                      (false = false ∧ false = x_1.2.2.2.2.2.2.1 ∧ syLeft false false 0 = x_1.2.2.2.2.2.2.2) ∧
                                        syF (syE false false 0) x.2.1 (List.replicate (Int.toNat 12) (T.dflt (T.arr 512 T.u8))) = x_1.2.1 ∧
                                          syO (syE false false 0) x.2.1 = x_1.2.2.1 ∧
                                            syM (syE false false 0) x.2.2 = x_1.2.2.2.1 ∧
                                              (false = false ∧ false = x_1.2.2.2.2.2.2.1 ∧ 0 = x_1.2.2.2.2.2.2.2) ∧
                                                List.replicate (Int.toNat 12) (T.dflt (T.arr 512 T.u8)) = x_1.2.2.2.2.1 ∧ x.2.1 = x_1.2.2.2.2.2.1) ∧
                                ∀ (x_1 : Nat × List (List (BitVec 8)) × List (Int × List (BitVec 8)) × List (Int × Int) × List (List (BitVec 8)) × List (Int × List (BitVec 8)) × Bool × Int),
                                  s2I i (readV (List.replicate (Int.toNat 12) (T.dflt (T.arr 512 T.u8))) x.2.1 x.2.2 false i) 12 (List.length more) x_1.1 x_1.2.1 x_1.2.2.1 x_1.2.2.2.1 x_1.2.2.2.2.1
                                      x_1.2.2.2.2.2.1 x_1.2.2.2.2.2.2.2 →
                                    ((decide (ofN x_1.1 < ofN (List.length more)) && decide (ofN x_1.1 < 60)) = true →
                                        within (ofN x_1.1) (List.length more) ∧
                                          (((List.getD more (Int.toNat (ofN x_1.1))
                                                          (T.dflt T_Op)).1 ==
                                                      1 &&
                                                    (List.getD more (Int.toNat (ofN x_1.1))
                                                            (T.dflt T_Op)).2.1 ==
                                                      i ||
                                                  (List.getD more (Int.toNat (ofN x_1.1))
                                                        (T.dflt T_Op)).1 ==
                                                    5) =
                                                true →
                                              inI64 (ofN x_1.1 + 1) ∧
                                                ∃ (x' :
                                                  Nat × List (List (BitVec 8)) × List (Int × List (BitVec 8)) × List (Int × Int) × List (List (BitVec 8)) × List (Int × List (BitVec 8)) × Bool × Int),
                                                  s2I i (readV (List.replicate (Int.toNat 12) (T.dflt (T.arr 512 T.u8))) x.2.1 x.2.2 false i) 12 (List.length more) x'.1 x'.2.1 x'.2.2.1 x'.2.2.2.1
                                                      x'.2.2.2.2.1 x'.2.2.2.2.2.1 x'.2.2.2.2.2.2.2 ∧
                                                    List.length more - x'.1 < List.length more - x_1.1 ∧
                                                      ofN x_1.1 + 1 = ofN x'.1 ∧
                                                        (false = false ∧ x_1.2.2.2.2.2.2.1 = x'.2.2.2.2.2.2.1 ∧ x_1.2.2.2.2.2.2.2 = x'.2.2.2.2.2.2.2) ∧
                                                          x_1.2.1 = x'.2.1 ∧
                                                            x_1.2.2.1 = x'.2.2.1 ∧
                                                              x_1.2.2.2.1 = x'.2.2.2.1 ∧
                                                                (false = false ∧ x_1.2.2.2.2.2.2.1 = x'.2.2.2.2.2.2.1 ∧ x_1.2.2.2.2.2.2.2 = x'.2.2.2.2.2.2.2) ∧
                                                                  x_1.2.2.2.2.1 = x'.2.2.2.2.1 ∧ x_1.2.2.2.2.2.1 = x'.2.2.2.2.2.1) ∧
                                            (((List.getD more (Int.toNat (ofN x_1.1))
                                                          (T.dflt T_Op)).1 ==
                                                      1 &&
                                                    (List.getD more (Int.toNat (ofN x_1.1))
                                                            (T.dflt T_Op)).2.1 ==
                                                      i ||
                                                  (List.getD more (Int.toNat (ofN x_1.1))
                                                        (T.dflt T_Op)).1 ==
                                                    5) =
                                                false →
                                              ((List.getD more (Int.toNat (ofN x_1.1))
                                                        (T.dflt T_Op)).1 ≠
                                                    5 ∧
                                                  false = false ∧
                                                    x_1.2.2.2.2.2.2.1 = x_1.2.2.2.2.2.2.1 ∧
                                                      x_1.2.2.2.2.2.2.2 = x_1.2.2.2.2.2.2.2 ∧
                                                        false = false ∧ devOk x_1.2.1 x_1.2.2.1 x_1.2.2.2.1 x_1.2.2.2.2.2.2.2 ∧ refOk (List.length x_1.2.1) x_1.2.2.2.2.1 x_1.2.2.2.2.2.1) ∧
                                                inI64 (ofN x_1.1 + 1) ∧
                                                  ∃ (x' :
                                                    Nat × List (List (BitVec 8)) × List (Int × List (BitVec 8)) × List (Int × Int) × List (List (BitVec 8)) × List (Int × List (BitVec 8)) × Bool × Int),
                                                    s2I i (readV (List.replicate (Int.toNat 12) (T.dflt (T.arr 512 T.u8))) x.2.1 x.2.2 false i) 12 (List.length more) x'.1 x'.2.1 x'.2.2.1 x'.2.2.2.1
                                                        x'.2.2.2.2.1 x'.2.2.2.2.2.1 x'.2.2.2.2.2.2.2 ∧
                                                      List.length more - x'.1 < List.length more - x_1.1 ∧
                                                        ofN x_1.1 + 1 = ofN x'.1 ∧
                                                          ((actD
                                                                          (List.getD more (Int.toNat (ofN x_1.1))
                                                                            (T.dflt T_Op))
                                                                          x_1.2.1 x_1.2.2.1 x_1.2.2.2.1 x_1.2.2.2.2.2.2.1 x_1.2.2.2.2.2.2.2).2.2.2.1 =
                                                                false ∧
                                                              (actD
                                                                              (List.getD more (Int.toNat (ofN x_1.1))
                                                                                (T.dflt T_Op))
                                                                              x_1.2.1 x_1.2.2.1 x_1.2.2.2.1 x_1.2.2.2.2.2.2.1 x_1.2.2.2.2.2.2.2).2.2.2.2.1 =
                                                                  x'.2.2.2.2.2.2.1 ∧
                                                                (actD
                                                                                (List.getD more (Int.toNat (ofN x_1.1))
                                                                                  (T.dflt T_Op))
                                                                                x_1.2.1 x_1.2.2.1 x_1.2.2.2.1 x_1.2.2.2.2.2.2.1 x_1.2.2.2.2.2.2.2).2.2.2.2.2.1 =
                                                                  x'.2.2.2.2.2.2.2) ∧
                                                            (actD
                                                                    (List.getD more (Int.toNat (ofN x_1.1))
                                                                      (T.dflt T_Op))
                                                                    x_1.2.1 x_1.2.2.1 x_1.2.2.2.1 x_1.2.2.2.2.2.2.1 x_1.2.2.2.2.2.2.2).1 =
                                                                x'.2.1 ∧
                                                              (actD
                                                                        (List.getD more (Int.toNat (ofN x_1.1))
                                                                          (T.dflt T_Op))
                                                                        x_1.2.1 x_1.2.2.1 x_1.2.2.2.1 x_1.2.2.2.2.2.2.1 x_1.2.2.2.2.2.2.2).2.1 =
                                                                  x'.2.2.1 ∧
                                                                (actD
                                                                            (List.getD more (Int.toNat (ofN x_1.1))
                                                                              (T.dflt T_Op))
                                                                            x_1.2.1 x_1.2.2.1 x_1.2.2.2.1 x_1.2.2.2.2.2.2.1 x_1.2.2.2.2.2.2.2).2.2.1 =
                                                                    x'.2.2.2.1 ∧
                                                                  ((actR
                                                                                (List.getD more (Int.toNat (ofN x_1.1))
                                                                                  (T.dflt T_Op))
                                                                                x_1.2.2.2.2.1 x_1.2.2.2.2.2.1 x_1.2.2.2.2.2.2.1 x_1.2.2.2.2.2.2.2).2.2.1 =
                                                                        false ∧
                                                                      (actR
                                                                                    (List.getD more (Int.toNat (ofN x_1.1))
                                                                                      (T.dflt
                                                                                        T_Op))
                                                                                    x_1.2.2.2.2.1 x_1.2.2.2.2.2.1 x_1.2.2.2.2.2.2.1 x_1.2.2.2.2.2.2.2).2.2.2.1 =
                                                                          x'.2.2.2.2.2.2.1 ∧
                                                                        (actR
                                                                                      (List.getD more (Int.toNat (ofN x_1.1))
                                                                                        (T.dflt
                                                                                          T_Op))
                                                                                      x_1.2.2.2.2.1 x_1.2.2.2.2.2.1 x_1.2.2.2.2.2.2.1 x_1.2.2.2.2.2.2.2).2.2.2.2.1 =
                                                                          x'.2.2.2.2.2.2.2) ∧
                                                                    (actR
                                                                            (List.getD more (Int.toNat (ofN x_1.1))
                                                                              (T.dflt T_Op))
                                                                            x_1.2.2.2.2.1 x_1.2.2.2.2.2.1 x_1.2.2.2.2.2.2.1 x_1.2.2.2.2.2.2.2).1 =
                                                                        x'.2.2.2.2.1 ∧
                                                                      (actR
                                                                              (List.getD more (Int.toNat (ofN x_1.1))
                                                                                (T.dflt T_Op))
                                                                              x_1.2.2.2.2.1 x_1.2.2.2.2.2.1 x_1.2.2.2.2.2.2.1 x_1.2.2.2.2.2.2.2).2.1 =
                                                                        x'.2.2.2.2.2.1)) ∧
                                      ((decide (ofN x_1.1 < ofN (List.length more)) && decide (ofN x_1.1 < 60)) = false →
                                        (0 < List.length x_1.2.1 ∧ okLast (List.length x_1.2.2.1) x_1.2.2.2.1) ∧
                                          (atV false (ofN (List.length x_1.2.1)) i == 0 &&
                                                readV x_1.2.1 x_1.2.2.1 x_1.2.2.2.1 false i == readV (List.replicate (Int.toNat 12) (T.dflt (T.arr 512 T.u8))) x.2.1 x.2.2 false i &&
                                              true) =
                                            true)))) := by
  refine ⟨by decide, by decide, fun _ => rfl, fun q => ?_⟩
  have hi : 0 ≤ i ∧ i < 12 := by simp at q; omega
  have h12 : List.length (List.replicate (Int.toNat 12) (T.dflt (T.arr 512 T.u8))) = 12 := by rw [List.length_replicate]; rfl
  have hb12 : ∀ b ∈ List.replicate 12 T_Blk.dflt, b.length = 512 := fun b hb => by
    rw [List.eq_of_mem_replicate hb]; rfl
  have hd0 : devOk (List.replicate 12 T_Blk.dflt) [] [] 0 := ⟨by decide, by decide, lastOk_nil, fun w hw => (by cases hw), ⟨hb12, fun w hw => (by cases hw)⟩, Int.le_refl 0⟩
  refine ⟨⟨(0, [], []), ⟨Nat.zero_le _, Nat.zero_le _, Nat.zero_le _, hd0⟩, rfl, ⟨rfl, rfl, rfl⟩, rfl, rfl, rfl, ⟨rfl, rfl, rfl⟩, rfl, rfl⟩, fun x hx => ?_⟩
  obtain ⟨k, opn, last⟩ := x
  obtain ⟨hk0, hk60, hol, hdv⟩ := hx
  dsimp only at hk0 hk60 hol hdv ⊢
  refine ⟨fun q2 => ?_, fun q2 => ?_⟩
  · have hk : k < ws.length ∧ k < 60 := by
      simp only [Bool.and_eq_true, decide_eq_true_eq] at q2
      have a : ∀ n : Nat, (ofN n : Int) = n := fun _ => rfl
      simp only [a] at q2
      omega
    have hw : within (ofN k) ws.length := ⟨by show (0 : Int) ≤ (k : Int); omega, by show (k : Int) < (ws.length : Int); omega⟩
    have h64 : inI64 (ofN k + 1) := by show inI64 ((k : Int) + 1); unfold inI64; omega
    generalize List.getD ws (Int.toNat (ofN k)) _ = o
    refine ⟨hw, fun q3 => ?_, fun q3 => ⟨h64, (k + 1, opn, last), ⟨hk.1, hk.2, Nat.le_succ_of_le hol, hdv⟩, by dsimp only; omega, rfl, ⟨rfl, rfl, rfl⟩, rfl, rfl, rfl, ⟨rfl, rfl, rfl⟩, rfl, rfl⟩⟩
    have hA := actD_1 (fast := List.replicate (Int.toNat 12) (T.dflt (T.arr 512 T.u8))) (opn := opn) (last := last) (set := false) (left := 0) q3
    have hd := dev_wr (set := false) hdv o.2.1 (cutV o.2.2.2.2.2.1) rfl
    rw [wrLeft0] at hd
    have hR := actR_1 (L := List.replicate (Int.toNat 12) (T.dflt (T.arr 512 T.u8))) (W := opn) (set := false) (left := 0) q3
    have hro : refOk 12 (List.replicate 12 T_Blk.dflt) opn := ⟨List.length_replicate, hdv.opn_, hdv.blk⟩
    rw [hA, hR]
    exact ⟨hw, ⟨by simpa using q3, rfl, rfl, rfl, rfl, hdv, hro⟩, h64, (k + 1, _, _), ⟨hk.1, hk.2, Nat.le_trans (wrO_len _ _ _ _) (Nat.succ_le_succ hol), hd⟩, by dsimp only; omega, rfl, ⟨rfl, rfl, wrLeft0 _ _ _ _⟩, rfl, rfl, rfl, ⟨rfl, rfl, wrLeft0 _ _ _ _⟩, rfl, rfl⟩
  · have hat : atV false (ofN (List.length (List.replicate (Int.toNat 12) (T.dflt (T.arr 512 T.u8))))) i = 0 := by
      rw [h12]; exact atV_in hi.1 hi.2
    have hrd : readV (List.replicate (Int.toNat 12) (T.dflt (T.arr 512 T.u8))) opn last false i = holdsV (List.replicate 12 T_Blk.dflt) opn i := by
      unfold readV
      rw [show atV false ((List.length (List.replicate (Int.toNat 12) (T.dflt (T.arr 512 T.u8))) : Nat) : Int) i = 0 from hat]
      exact rd_holds hdv.lst hi.1 (by rw [List.length_replicate]; exact hi.2)
    have hs := dev_sy (set := false) hdv 0
    rw [hat]
    refine ⟨⟨by rw [h12]; decide, lastOk_ok hdv.lst⟩, ⟨by rw [h12]; decide, by decide, hdv.opn_⟩, fun q => absurd q (by decide), fun _ => ⟨⟨(0, syncK opn (List.replicate 12 T_Blk.dflt) opn.length, [], [], List.replicate 12 T_Blk.dflt, opn, false, 0), ⟨Nat.zero_le _, Nat.zero_le _, by rw [syncK_len]; exact h12, ?_, fun w hw => (by cases hw), rfl, hs, ⟨List.length_replicate, hdv.opn_, hdv.blk⟩, Nat.zero_le _, by dsimp only; omega⟩, rfl, ⟨rfl, rfl, rfl⟩, rfl, rfl, rfl, ⟨rfl, rfl, rfl⟩, rfl, rfl⟩, fun y hy => ?_⟩⟩
    · dsimp only
      rw [hrd]
      exact sync_holds hdv.opn_ hi.1 (by rw [List.length_replicate]; omega) _ (Nat.le_refl _)
    generalize readV (List.replicate (Int.toNat 12) (T.dflt (T.arr 512 T.u8))) opn last false i = want at hy ⊢
    obtain ⟨m, fast2, opn2, last2, L2, W2, set2, left2⟩ := y
    dsimp only at hy ⊢
    refine ⟨fun q3 => ?_, fun q3 => ?_⟩
    · have hm : m < more.length ∧ m < 60 := by
        simp only [Bool.and_eq_true, decide_eq_true_eq] at q3
        have a : ∀ n : Nat, (ofN n : Int) = n := fun _ => rfl
        simp only [a] at q3
        omega
      have hw : within (ofN m) more.length := ⟨by show (0 : Int) ≤ (m : Int); omega, by show (m : Int) < (more.length : Int); omega⟩
      have h64 : inI64 (ofN m + 1) := by show inI64 ((m : Int) + 1); unfold inI64; omega
      generalize List.getD more (Int.toNat (ofN m)) _ = o
      refine ⟨hw, fun q4 => ⟨h64, (m + 1, fast2, opn2, last2, L2, W2, set2, left2), ⟨hm.1, hm.2, hy.len, hy.val, hy.non, hy.lst, hy.dev, hy.ref, Nat.le_succ_of_le hy.ol, Nat.le_succ_of_le hy.wl⟩, by dsimp only; omega, rfl, ⟨rfl, rfl, rfl⟩, rfl, rfl, rfl, ⟨rfl, rfl, rfl⟩, rfl, rfl⟩, fun q4 => ?_⟩
      simp only [Bool.or_eq_false_iff] at q4
      have h5 : o.1 ≠ 5 := by simpa using q4.2
      obtain ⟨g1, g2, g3, g4, g5⟩ := s2_act hy hm.1 hm.2 hi.1 hi.2 o set2 q4.1
      exact ⟨⟨h5, rfl, rfl, rfl, rfl, hy.dev, by rw [hy.len]; exact hy.ref⟩, h64, (m + 1, _, _, _, _, _, _, _), g1, by dsimp only; omega, rfl, ⟨g2, rfl, rfl⟩, rfl, rfl, rfl, ⟨g3, g4, g5⟩, rfl, rfl⟩
    · have hat2 : atV false (ofN (List.length fast2)) i = 0 := by rw [hy.len]; exact atV_in hi.1 hi.2
      refine ⟨⟨by rw [hy.len]; decide, lastOk_ok hy.dev.lst⟩, ?_⟩
      rw [hat2]
      have hrv : readV fast2 opn2 last2 false i = want := by
        unfold readV
        rw [show atV false ((fast2.length : Nat) : Int) i = 0 from hat2]
        show rdV fast2 opn2 last2 i = want
        unfold rdV
        rw [hy.lst]
        have hlt : i.toNat < fast2.length := by rw [hy.len]; omega
        have := hy.val
        rw [getD_at _ _ _ hlt] at this
        show fast2.getD i.toNat T_Blk.dflt = want
        rw [getD_at _ _ _ hlt]; exact this
      rw [hrv]; simp

theorem law9_act1_spec : Vse.Spec P f_law09_act c_act1 := spec_gm2 (l := [(f_disk_Disk_Write, c_Write), (f_disk_Disk_Read, c_Read), (f_disk_Disk_Sync, c_Sync), (f_disk_Disk_Lose, c_Lose), (f_disk_Disk_Fuse, c_Fuse), (f_disk_Disk_Down, c_Down), (f_disk_Disk_Open, c_Open), (f_ref09_Disk_Write, c_rWrite), (f_ref09_Disk_Read, c_rRead), (f_ref09_Disk_Sync, c_rSync), (f_ref09_Disk_Lose, c_rLose), (f_ref09_Disk_Fuse, c_rFuse), (f_law09_cut, c_cut)]) ⟨disk_Write_spec, disk_Read_spec, disk_Sync_spec, disk_Lose_spec, disk_Fuse_spec, disk_Down_spec, disk_Open_spec, ref9_Write_spec, ref9_Read_spec, ref9_Sync_spec, ref9_Lose_spec, ref9_Fuse_spec, law9_cut_spec, trivial⟩ h_law09_act rfl rfl fun d r x h _ _ => by
  obtain ⟨fast, opn, last, down, set, left, _⟩ := d
  obtain ⟨L, W, rdown, rset, rleft, _⟩ := r
  obtain ⟨o, _⟩ := x
  obtain ⟨ho, e3, e4, e5, e6, hd, hr⟩ := h
  have e3 : rdown = false := e3
  have e4 : rset = set := e4
  have e5 : rleft = left := e5
  have e6 : down = false := e6
  subst e3; subst e4; subst e5; subst e6
  exact bodyG_ok an_A1 (law9_act1_vc o fast opn last L W rset rleft hr ho hd) (by kernel_rfl)

theorem law9_act2_spec : Vse.Spec P f_law09_act c_act2 := spec_gm2 (l := [(f_disk_Disk_Write, c_Write), (f_disk_Disk_Read, c_Read), (f_disk_Disk_Sync, c_Sync), (f_disk_Disk_Lose, c_Lose), (f_disk_Disk_Fuse, c_Fuse), (f_disk_Disk_Down, c_Down), (f_disk_Disk_Open, c_Open), (f_ref09_Disk_Write, c_rWrite), (f_ref09_Disk_Read, c_rRead), (f_ref09_Disk_Sync, c_rSync), (f_ref09_Disk_Lose, c_rLose), (f_ref09_Disk_Fuse, c_rFuse), (f_law09_cut, c_cut)]) ⟨disk_Write_spec, disk_Read_spec, disk_Sync_spec, disk_Lose_spec, disk_Fuse_spec, disk_Down_spec, disk_Open_spec, ref9_Write_spec, ref9_Read_spec, ref9_Sync_spec, ref9_Lose_spec, ref9_Fuse_spec, law9_cut_spec, trivial⟩ h_law09_act rfl rfl fun d r x h _ _ => by
  obtain ⟨fast, opn, last, down, set, left, _⟩ := d
  obtain ⟨L, W, rdown, rset, rleft, _⟩ := r
  obtain ⟨o, _⟩ := x
  obtain ⟨ho, e3, e4, e5, e6, hd, hr⟩ := h
  have e3 : rdown = false := e3
  have e4 : rset = set := e4
  have e5 : rleft = left := e5
  have e6 : down = false := e6
  subst e3; subst e4; subst e5; subst e6
  exact bodyG_ok an_A2 (law9_act2_vc o fast opn last L W rset rleft hr ho hd) (by kernel_rfl)

theorem law9_act_spec : Vse.Spec P f_law09_act c_act := spec_alt law9_act2_spec law9_act1_spec rfl

theorem law9_DiskSyncs_spec : Vse.Spec P f_law09_DiskSyncs (c_lw [.slc T_Op, .slc T_Op, .i64]) := spec_fn (l := [(f_disk_New, c_New), (f_ref09_New, c_rNew), (f_law09_act, c_act), (f_disk_Disk_Read, c_Read), (f_disk_Disk_Sync, c_Sync), (f_law09_alive, c_alive)]) ⟨disk_New_spec, ref9_New_spec, law9_act_spec, disk_Read_spec, disk_Sync_spec, law9_alive_spec, trivial⟩ h_law09_DiskSyncs rfl rfl fun x _ _ => by
  obtain ⟨ws, more, i, _⟩ := x
  exact body_ok (an_Syncs ws more i) (law9_DiskSyncs_vc ws more i) (by kernel_rfl)

end Go.Sal
