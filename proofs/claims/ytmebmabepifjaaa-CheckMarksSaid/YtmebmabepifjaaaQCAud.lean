/- Contracts of check: audits. -/
import Derived.Test.YtmebmabepifjaaaQCChk
set_option maxRecDepth 100000
namespace Go.Sal
open Go.Vse Go.Sal.Nm

def c_forks : PC := D [.slc T_Mark] [.i64, .i64, .bool] (fun _ => none) (fun x => (forkA x.1, forkB x.1, forkC x.1, ()))

def an_forks (l : List Mark) : Nat → SState → Option LoopAnn
  | 2, _ => some { X := Nat, slots := fun k => [(9, .sv (.dv (.i64 k)))], objs := fun _ => [], inv := fun k => k ≤ l.length ∧ forkR l (l.length - k) = forkV l, meas := fun k => l.length - k }
  | 5, S => some { X := Nat, slots := fun i => [(13, .sv (.dv (.i64 i)))], objs := fun _ => [], inv := fun i => i ≤ (x_int S 12).toNat ∧ clashV l (x_int S 12).toNat ((x_int S 12).toNat - i) = clashV l (x_int S 12).toNat (x_int S 12).toNat, meas := fun i => (x_int S 12).toNat - i }
  | _, _ => none

theorem apart_eq (a b : Mark) : (a.2.1 == b.2.1 && !(a.2.1 == b.2.1 && (a.2.2.1 == b.2.2.1 && eqL T.u8 a.2.2.2.1 b.2.2.2.1))) = apartV a b := by
  have e : (a.2.1 == b.2.1 && (a.2.2.1 == b.2.2.1 && eqL T.u8 a.2.2.2.1 b.2.2.2.1)) = decide (headM a = headM b) := by
    rw [eqL_u8, Bool.eq_iff_iff]
    unfold headM
    simp only [Bool.and_eq_true, beq_iff_eq, decide_eq_true_eq, Prod.mk.injEq]
  rw [e]
  unfold apartV
  congr 1
theorem clashV_step {l : List Mark} {k i : Nat} (h : i < k) : clashV l k (k - i) = if apartV (l.getD i T_Mark.dflt) (l.getD k T_Mark.dflt) = true then some i else clashV l k (k - (i + 1)) := by
  obtain ⟨j, hj⟩ : ∃ j, k - i = j + 1 := ⟨k - i - 1, by omega⟩
  have e1 : k - (j + 1) = i := by omega
  have e2 : k - (i + 1) = j := by omega
  rw [hj, clashV, e1, e2]
theorem forkR_step {l : List Mark} {k : Nat} (h : k < l.length) : forkR l (l.length - k) = match clashV l k k with
    | some i => some (i, k)
    | none => forkR l (l.length - (k + 1)) := by
  obtain ⟨j, hj⟩ : ∃ j, l.length - k = j + 1 := ⟨l.length - k - 1, by omega⟩
  have e1 : l.length - (j + 1) = k := by omega
  have e2 : l.length - (k + 1) = j := by omega
  rw [hj, forkR, e1, e2]
  cases clashV l k k <;> rfl
theorem firstV_step {p : Mark → Bool} {l : List Mark} {i : Nat} (h : i < l.length) : firstV p (l.drop i) i = if p (l.getD i T_Mark.dflt) = true then some i else firstV p (l.drop (i + 1)) (i + 1) := by
  rw [List.drop_eq_getElem_cons h, firstV, getD_lt h]
theorem firstV_end {p : Mark → Bool} {l : List Mark} : firstV p (l.drop l.length) l.length = none := by
  rw [List.drop_of_length_le (Nat.le_refl _)]; rfl

theorem check_forks_vc (l : List Mark) (hl : l.length ≤ LIM) :
    (∃ (x : Nat), (x ≤ List.length l ∧ forkR l (List.length l - x) = forkV l) ∧ 0 = ofN x) ∧
      ∀ (x : Nat),
        x ≤ List.length l ∧ forkR l (List.length l - x) = forkV l →
          (decide (ofN x < ofN (List.length l)) = true →
              (∃ (x_1 : Nat), (x_1 ≤ Int.toNat (ofN x) ∧ clashV l (Int.toNat (ofN x)) (Int.toNat (ofN x) - x_1) = clashV l (Int.toNat (ofN x)) (Int.toNat (ofN x))) ∧ 0 = ofN x_1) ∧
                ∀ (x_1 : Nat),
                  x_1 ≤ Int.toNat (ofN x) ∧ clashV l (Int.toNat (ofN x)) (Int.toNat (ofN x) - x_1) = clashV l (Int.toNat (ofN x)) (Int.toNat (ofN x)) →
                    (decide (ofN x_1 < ofN x) = true →
                        within (ofN x_1) (List.length l) ∧
                          within (ofN x) (List.length l) ∧
                            (((List.getD l (Int.toNat (ofN x_1)) (T.dflt T_Mark)).2.1 ==
                                    (List.getD l (Int.toNat (ofN x)) (T.dflt T_Mark)).2.1) =
                                  true →
                                within (ofN x_1) (List.length l)) ∧
                              (((List.getD l (Int.toNat (ofN x_1)) (T.dflt T_Mark)).2.1 ==
                                      (List.getD l (Int.toNat (ofN x)) (T.dflt T_Mark)).2.1) =
                                    true →
                                  within (ofN x) (List.length l)) ∧
                                (((List.getD l (Int.toNat (ofN x_1)) (T.dflt T_Mark)).2.1 ==
                                          (List.getD l (Int.toNat (ofN x)) (T.dflt T_Mark)).2.1 &&
                                        !((List.getD l (Int.toNat (ofN x_1)) (T.dflt T_Mark)).2.1 ==
                                              (List.getD l (Int.toNat (ofN x)) (T.dflt T_Mark)).2.1 &&
                                            ((List.getD l (Int.toNat (ofN x_1)) (T.dflt T_Mark)).2.2.1 ==
                                                (List.getD l (Int.toNat (ofN x)) (T.dflt T_Mark)).2.2.1 &&
                                              eqL T.u8 (List.getD l (Int.toNat (ofN x_1)) (T.dflt T_Mark)).2.2.2.1
                                                (List.getD l (Int.toNat (ofN x)) (T.dflt T_Mark)).2.2.2.1))) =
                                      true →
                                    ofN x_1 = forkA l ∧ ofN x = forkB l ∧ true = forkC l) ∧
                                  (((List.getD l (Int.toNat (ofN x_1)) (T.dflt T_Mark)).2.1 ==
                                          (List.getD l (Int.toNat (ofN x)) (T.dflt T_Mark)).2.1 &&
                                        !((List.getD l (Int.toNat (ofN x_1)) (T.dflt T_Mark)).2.1 ==
                                              (List.getD l (Int.toNat (ofN x)) (T.dflt T_Mark)).2.1 &&
                                            ((List.getD l (Int.toNat (ofN x_1)) (T.dflt T_Mark)).2.2.1 ==
                                                (List.getD l (Int.toNat (ofN x)) (T.dflt T_Mark)).2.2.1 &&
                                              eqL T.u8 (List.getD l (Int.toNat (ofN x_1)) (T.dflt T_Mark)).2.2.2.1
                                                (List.getD l (Int.toNat (ofN x)) (T.dflt T_Mark)).2.2.2.1))) =
                                      false →
                                    inI64 (ofN x_1 + 1) ∧
                                      ∃ (x' : Nat),
                                        (x' ≤ Int.toNat (ofN x) ∧ clashV l (Int.toNat (ofN x)) (Int.toNat (ofN x) - x') = clashV l (Int.toNat (ofN x)) (Int.toNat (ofN x))) ∧
                                          Int.toNat (ofN x) - x' < Int.toNat (ofN x) - x_1 ∧ ofN x_1 + 1 = ofN x')) ∧
                      (decide (ofN x_1 < ofN x) = false →
                        inI64 (ofN x + 1) ∧ ∃ (x' : Nat), (x' ≤ List.length l ∧ forkR l (List.length l - x') = forkV l) ∧ List.length l - x' < List.length l - x ∧ ofN x + 1 = ofN x')) ∧
            (decide (ofN x < ofN (List.length l)) = false → 0 = forkA l ∧ 0 = forkB l ∧ false = forkC l) := by
  have hl' : l.length ≤ 9223372036854775807 := hl
  refine ⟨⟨0, ⟨by omega, rfl⟩, rfl⟩, fun x ⟨h1, h2⟩ => ⟨fun hc => ?_, fun hc => ?_⟩⟩
  · have hc := of_decide_eq_true hc
    have hc : x < l.length := by unfold ofN at hc; omega
    rw [show Int.toNat (ofN x) = x from rfl]
    have hs := forkR_step hc
    rw [h2] at hs
    refine ⟨⟨0, ⟨by omega, rfl⟩, rfl⟩, fun i ⟨g1, g2⟩ => ⟨fun hd => ?_, fun hd => ?_⟩⟩
    · have hd := of_decide_eq_true hd
      have hd : i < x := by unfold ofN at hd; omega
      rw [show Int.toNat (ofN i) = i from rfl, apart_eq]
      have wi : within (ofN i) l.length := by unfold within ofN; omega
      have wx : within (ofN x) l.length := by unfold within ofN; omega
      have hcs := clashV_step (l := l) hd
      refine ⟨wi, wx, fun _ => wi, fun _ => wx, fun g => ?_, fun g => ?_⟩
      · rw [if_pos g] at hcs
        rw [hcs] at g2
        rw [← g2] at hs
        have hf : forkV l = some (i, x) := hs
        unfold forkA forkB forkC
        rw [hf]
        exact ⟨rfl, rfl, rfl⟩
      · rw [if_neg (by rw [g]; decide)] at hcs
        exact ⟨by unfold inI64 ofN; omega, i + 1, ⟨by omega, hcs.symm.trans g2⟩, by omega, by unfold ofN; omega⟩
    · have hd := of_decide_eq_false hd
      have hd : i = x := by unfold ofN at hd; omega
      subst hd
      rw [Nat.sub_self] at g2
      have g2 : none = clashV l i i := g2
      rw [← g2] at hs
      exact ⟨by unfold inI64 ofN; omega, i + 1, ⟨hc, hs.symm⟩, by omega, by unfold ofN; omega⟩
  · have hc := of_decide_eq_false hc
    have hc : x = l.length := by unfold ofN at hc; omega
    rw [hc, Nat.sub_self] at h2
    have h2 : none = forkV l := h2
    unfold forkA forkB forkC
    rw [← h2]
    exact ⟨rfl, rfl, rfl⟩

def c_Audit : PC := D [.slc .u8, .slc T_Rec, .slc T_Mark] [T_Fin] (fun x => some (x.1.length ≤ 1000000)) (fun x => (auditV x.1 x.2.1 x.2.2.1, ()))

def an_Audit (key : Bytes) (l : List Rec) (ms : List Mark) : Nat → SState → Option LoopAnn
  | 5, _ => some { X := Nat, slots := fun i => [(33, .sv (.dv (.i64 i)))], objs := fun _ => [], inv := fun i => i ≤ ms.length ∧ firstV (fun m => !sealedV key m) (ms.drop i) i = firstV (fun m => !sealedV key m) ms 0, meas := fun i => ms.length - i }
  | 14, _ => some { X := Nat, slots := fun j => [(57, .sv (.dv (.i64 j)))], objs := fun _ => [], inv := fun j => j ≤ 2 ∧ (1 ≤ j → firstV (failV l 4) ms 0 = none) ∧ (2 ≤ j → firstV (failV l 5) ms 0 = none), meas := fun j => 2 - j }
  | 17, S => some { X := Nat, slots := fun i => [(63, .sv (.dv (.i64 i)))], objs := fun _ => [], inv := fun i => i ≤ ms.length ∧ firstV (failV l (x_int S 16)) (ms.drop i) i = firstV (failV l (x_int S 16)) ms 0, meas := fun i => ms.length - i }
  | _, _ => none

theorem kind_eq (a b : Int) : (a == b) = decide (a = b) := by
  rw [Bool.eq_iff_iff]; simp only [beq_iff_eq, decide_eq_true_eq]
theorem audit_chain {key : Bytes} {l : List Rec} {ms : List Mark} (h : ¬ (walkV head0 l 0).2.2 = 0) : auditV key l ms = (1, (walkV head0 l 0).2.1, 0) := if_neg h
theorem audit_sealed {key : Bytes} {l : List Rec} {ms : List Mark} {i : Nat} (h : (walkV head0 l 0).2.2 = 0) (h1 : firstV (fun m => !sealedV key m) ms 0 = some i) : auditV key l ms = (2, (i : Int), 0) := by
  unfold auditV; rw [if_pos h, h1]
theorem audit_fork {key : Bytes} {l : List Rec} {ms : List Mark} {p : Nat × Nat} (h : (walkV head0 l 0).2.2 = 0) (h1 : firstV (fun m => !sealedV key m) ms 0 = none) (h2 : forkV ms = some p) : auditV key l ms = (3, (p.1 : Int), (p.2 : Int)) := by
  unfold auditV; rw [if_pos h, h1, h2]
theorem audit_other {key : Bytes} {l : List Rec} {ms : List Mark} {i : Nat} (h : (walkV head0 l 0).2.2 = 0) (h1 : firstV (fun m => !sealedV key m) ms 0 = none) (h2 : forkV ms = none) (h3 : firstV (failV l 4) ms 0 = some i) : auditV key l ms = (4, (i : Int), 0) := by
  unfold auditV; rw [if_pos h, h1, h2, h3]
theorem audit_short {key : Bytes} {l : List Rec} {ms : List Mark} {i : Nat} (h : (walkV head0 l 0).2.2 = 0) (h1 : firstV (fun m => !sealedV key m) ms 0 = none) (h2 : forkV ms = none) (h3 : firstV (failV l 4) ms 0 = none) (h4 : firstV (failV l 5) ms 0 = some i) : auditV key l ms = (5, (i : Int), 0) := by
  unfold auditV; rw [if_pos h, h1, h2, h3, h4]
theorem audit_good {key : Bytes} {l : List Rec} {ms : List Mark} (h : (walkV head0 l 0).2.2 = 0) (h1 : firstV (fun m => !sealedV key m) ms 0 = none) (h2 : forkV ms = none) (h3 : firstV (failV l 4) ms 0 = none) (h4 : firstV (failV l 5) ms 0 = none) : auditV key l ms = (6, 0, 0) := by
  unfold auditV; rw [if_pos h, h1, h2, h3, h4]
theorem audit_kind {key : Bytes} {l : List Rec} {ms : List Mark} {i j : Nat} (hj : j < 2) (h : (walkV head0 l 0).2.2 = 0) (h1 : firstV (fun m => !sealedV key m) ms 0 = none) (h2 : forkV ms = none) (h3 : 1 ≤ j → firstV (failV l 4) ms 0 = none)
    (h4 : firstV (failV l (List.getD [4, 5] j (T.dflt T.i64))) ms 0 = some i) : auditV key l ms = (List.getD [4, 5] j (T.dflt T.i64), (i : Int), 0) := by
  match j, hj with
  | 0, _ => exact audit_other h h1 h2 h4
  | 1, _ => exact audit_short h h1 h2 (h3 (Nat.le_refl _)) h4

theorem check_Audit_vc (key : Bytes) (l : List Rec) (ms : List Mark) (hk : key.length ≤ 1000000) (hm : ms.length ≤ LIM) :
    (((walkV (ofN 0, ofN 0, List.replicate 32 0#8) l 0).2.2 != 0) = true →
        1 = (auditV key l ms).1 ∧ (walkV (ofN 0, ofN 0, List.replicate 32 0#8) l 0).2.1 = (auditV key l ms).2.1 ∧ ofN 0 = (auditV key l ms).2.2) ∧
      (((walkV (ofN 0, ofN 0, List.replicate 32 0#8) l 0).2.2 != 0) = false →
        (∃ (x : Nat),
            (x ≤ List.length ms ∧
                firstV (fun (m : Int × Int × Int × List (BitVec 8) × List (BitVec 8)) => !sealedV key m) (List.drop x ms) x =
                  firstV (fun (m : Int × Int × Int × List (BitVec 8) × List (BitVec 8)) => !sealedV key m) ms 0) ∧
              0 = ofN x) ∧
          ∀ (x : Nat),
            x ≤ List.length ms ∧
                firstV (fun (m : Int × Int × Int × List (BitVec 8) × List (BitVec 8)) => !sealedV key m) (List.drop x ms) x =
                  firstV (fun (m : Int × Int × Int × List (BitVec 8) × List (BitVec 8)) => !sealedV key m) ms 0 →
              (decide (ofN x < ofN (List.length ms)) = true →
                  within (ofN x) (List.length ms) ∧
                    List.length key ≤ 1000000 ∧
                      ((!sealedV key (List.getD ms (Int.toNat (ofN x)) (T.dflt T_Mark))) = true →
                          2 = (auditV key l ms).1 ∧ ofN x = (auditV key l ms).2.1 ∧ ofN 0 = (auditV key l ms).2.2) ∧
                        ((!sealedV key (List.getD ms (Int.toNat (ofN x)) (T.dflt T_Mark))) = false →
                          inI64 (ofN x + 1) ∧
                            ∃ (x' : Nat),
                              (x' ≤ List.length ms ∧
                                  firstV (fun (m : Int × Int × Int × List (BitVec 8) × List (BitVec 8)) => !sealedV key m) (List.drop x' ms) x' =
                                    firstV (fun (m : Int × Int × Int × List (BitVec 8) × List (BitVec 8)) => !sealedV key m) ms 0) ∧
                                List.length ms - x' < List.length ms - x ∧ ofN x + 1 = ofN x')) ∧
                (decide (ofN x < ofN (List.length ms)) = false →
                  (forkC ms = true → 3 = (auditV key l ms).1 ∧ forkA ms = (auditV key l ms).2.1 ∧ forkB ms = (auditV key l ms).2.2) ∧
                    (forkC ms = false →
                      (∃ (x : Nat), (x ≤ 2 ∧ (1 ≤ x → firstV (failV l 4) ms 0 = none) ∧ (2 ≤ x → firstV (failV l 5) ms 0 = none)) ∧ 0 = ofN x) ∧
                        ∀ (x : Nat),
                          x ≤ 2 ∧ (1 ≤ x → firstV (failV l 4) ms 0 = none) ∧ (2 ≤ x → firstV (failV l 5) ms 0 = none) →
                            (decide (ofN x < ofN (List.length [4, 5])) = true →
                                within (ofN x) (List.length [4, 5]) ∧
                                  (∃ (x_1 : Nat),
                                      (x_1 ≤ List.length ms ∧
                                          firstV (failV l (List.getD [4, 5] (Int.toNat (ofN x)) (T.dflt T.i64))) (List.drop x_1 ms) x_1 =
                                            firstV (failV l (List.getD [4, 5] (Int.toNat (ofN x)) (T.dflt T.i64))) ms 0) ∧
                                        0 = ofN x_1) ∧
                                    ∀ (x_1 : Nat),
                                      x_1 ≤ List.length ms ∧
                                          firstV (failV l (List.getD [4, 5] (Int.toNat (ofN x)) (T.dflt T.i64))) (List.drop x_1 ms) x_1 =
                                            firstV (failV l (List.getD [4, 5] (Int.toNat (ofN x)) (T.dflt T.i64))) ms 0 →
                                        (decide (ofN x_1 < ofN (List.length ms)) = true →
                                            within (ofN x_1) (List.length ms) ∧
                                              ((List.getD [4, 5] (Int.toNat (ofN x)) (T.dflt T.i64) == 4 &&
                                                        !decide
                                                            (ofN (List.length l) <
                                                              (List.getD ms (Int.toNat (ofN x_1)) (T.dflt T_Mark)).2.1) &&
                                                      !hasV l
                                                          ((List.getD ms (Int.toNat (ofN x_1)) (T.dflt T_Mark)).2.1,
                                                            (List.getD ms (Int.toNat (ofN x_1)) (T.dflt T_Mark)).2.2.1,
                                                            (List.getD ms (Int.toNat (ofN x_1)) (T.dflt T_Mark)).2.2.2.1)) =
                                                    true →
                                                  List.getD [4, 5] (Int.toNat (ofN x)) (T.dflt T.i64) = (auditV key l ms).1 ∧ ofN x_1 = (auditV key l ms).2.1 ∧ ofN 0 = (auditV key l ms).2.2) ∧
                                                ((List.getD [4, 5] (Int.toNat (ofN x)) (T.dflt T.i64) == 4 &&
                                                        !decide
                                                            (ofN (List.length l) <
                                                              (List.getD ms (Int.toNat (ofN x_1)) (T.dflt T_Mark)).2.1) &&
                                                      !hasV l
                                                          ((List.getD ms (Int.toNat (ofN x_1)) (T.dflt T_Mark)).2.1,
                                                            (List.getD ms (Int.toNat (ofN x_1)) (T.dflt T_Mark)).2.2.1,
                                                            (List.getD ms (Int.toNat (ofN x_1)) (T.dflt T_Mark)).2.2.2.1)) =
                                                    false →
                                                  ((List.getD [4, 5] (Int.toNat (ofN x)) (T.dflt T.i64) == 5 &&
                                                          decide
                                                            (ofN (List.length l) <
                                                              (List.getD ms (Int.toNat (ofN x_1)) (T.dflt T_Mark)).2.1)) =
                                                        true →
                                                      List.getD [4, 5] (Int.toNat (ofN x)) (T.dflt T.i64) = (auditV key l ms).1 ∧ ofN x_1 = (auditV key l ms).2.1 ∧ ofN 0 = (auditV key l ms).2.2) ∧
                                                    ((List.getD [4, 5] (Int.toNat (ofN x)) (T.dflt T.i64) == 5 &&
                                                          decide
                                                            (ofN (List.length l) <
                                                              (List.getD ms (Int.toNat (ofN x_1)) (T.dflt T_Mark)).2.1)) =
                                                        false →
                                                      inI64 (ofN x_1 + 1) ∧
                                                        ∃ (x' : Nat),
                                                          (x' ≤ List.length ms ∧
                                                              firstV (failV l (List.getD [4, 5] (Int.toNat (ofN x)) (T.dflt T.i64))) (List.drop x' ms) x' =
                                                                firstV (failV l (List.getD [4, 5] (Int.toNat (ofN x)) (T.dflt T.i64))) ms 0) ∧
                                                            List.length ms - x' < List.length ms - x_1 ∧ ofN x_1 + 1 = ofN x'))) ∧
                                          (decide (ofN x_1 < ofN (List.length ms)) = false →
                                            inI64 (ofN x + 1) ∧
                                              ∃ (x' : Nat), (x' ≤ 2 ∧ (1 ≤ x' → firstV (failV l 4) ms 0 = none) ∧ (2 ≤ x' → firstV (failV l 5) ms 0 = none)) ∧ 2 - x' < 2 - x ∧ ofN x + 1 = ofN x')) ∧
                              (decide (ofN x < ofN (List.length [4, 5])) = false → 6 = (auditV key l ms).1 ∧ ofN 0 = (auditV key l ms).2.1 ∧ ofN 0 = (auditV key l ms).2.2)))) := by
  have hm' : ms.length ≤ 9223372036854775807 := hm
  have e0 : ((ofN 0, ofN 0, List.replicate 32 0#8) : HeadT) = head0 := rfl
  rw [e0]
  refine ⟨fun hw => ?_, fun hw => ⟨⟨0, ⟨by omega, rfl⟩, rfl⟩, fun x ⟨k1, k2⟩ => ⟨fun hc => ?_, fun hc => ?_⟩⟩⟩
  · rw [audit_chain (by simpa using hw)]; exact ⟨rfl, rfl, rfl⟩
  · have hw : (walkV head0 l 0).2.2 = 0 := by simpa using hw
    have hc := of_decide_eq_true hc
    have hc : x < ms.length := by unfold ofN at hc; omega
    rw [show Int.toNat (ofN x) = x from rfl]
    have hs := firstV_step (p := fun m => !sealedV key m) hc
    rw [k2] at hs
    refine ⟨by unfold within ofN; omega, hk, fun g => ?_, fun g => ⟨by unfold inI64 ofN; omega, x + 1, ⟨by omega, ?_⟩, by omega, by unfold ofN; omega⟩⟩
    · rw [if_pos g] at hs
      rw [audit_sealed hw hs]; exact ⟨rfl, rfl, rfl⟩
    · rw [if_neg (by show ¬ (!sealedV key (ms.getD x T_Mark.dflt)) = true; rw [g]; decide)] at hs
      exact hs.symm
  · have hw : (walkV head0 l 0).2.2 = 0 := by simpa using hw
    have hc := of_decide_eq_false hc
    have hc : x = ms.length := by unfold ofN at hc; omega
    rw [hc, firstV_end] at k2
    have k2 := k2.symm
    refine ⟨fun g => ?_, fun g => ?_⟩
    · cases hf : forkV ms with
      | none => unfold forkC at g; rw [hf] at g; cases g
      | some p =>
        rw [audit_fork hw k2 hf]
        unfold forkA forkB
        rw [hf]; exact ⟨rfl, rfl, rfl⟩
    · have hf : forkV ms = none := by
        cases hf : forkV ms with
        | none => rfl
        | some p => unfold forkC at g; rw [hf] at g; cases g
      refine ⟨⟨0, ⟨by omega, fun h => by omega, fun h => by omega⟩, rfl⟩, fun j ⟨j1, j2, j3⟩ => ⟨fun hj => ?_, fun hj => ?_⟩⟩
      · have hj := of_decide_eq_true hj
        have hj : j < 2 := by
          have hj : (j : Int) < ((2 : Nat) : Int) := hj
          omega
        rw [show Int.toNat (ofN j) = j from rfl]
        have hkd : List.getD [4, 5] j (T.dflt T.i64) = (4 : Int) ∨ List.getD [4, 5] j (T.dflt T.i64) = (5 : Int) := by
          match j, hj with
          | 0, _ => exact .inl rfl
          | 1, _ => exact .inr rfl
        refine ⟨by unfold within; show (0 : Int) ≤ ofN j ∧ ofN j < ((2 : Nat) : Int); unfold ofN; omega, ⟨0, ⟨by omega, rfl⟩, rfl⟩, fun i ⟨i1, i2⟩ => ⟨fun hi => ?_, fun hi => ?_⟩⟩
        · have hi := of_decide_eq_true hi
          have hi : i < ms.length := by unfold ofN at hi; omega
          rw [show Int.toNat (ofN i) = i from rfl]
          have hs := firstV_step (p := failV l (List.getD [4, 5] j (T.dflt T.i64))) hi
          rw [i2] at hs
          have found : failV l (List.getD [4, 5] j (T.dflt T.i64)) (ms.getD i T_Mark.dflt) = true → List.getD [4, 5] j (T.dflt T.i64) = (auditV key l ms).1 ∧ ofN i = (auditV key l ms).2.1 ∧ ofN 0 = (auditV key l ms).2.2 := fun g => by
            rw [if_pos g] at hs
            rw [audit_kind hj hw k2 hf j2 hs]; exact ⟨rfl, rfl, rfl⟩
          rw [kind_eq, kind_eq]
          refine ⟨by unfold within ofN; omega, fun g => found ?_, fun g => ⟨fun g' => found ?_, fun g' => ⟨by unfold inI64 ofN; omega, i + 1, ⟨by omega, ?_⟩, by omega, by unfold ofN; omega⟩⟩⟩
          · unfold failV
            rw [Bool.or_eq_true]; exact .inl g
          · unfold failV
            rw [Bool.or_eq_true]; exact .inr g'
          · have g3 : failV l (List.getD [4, 5] j (T.dflt T.i64)) (ms.getD i T_Mark.dflt) = false := by
              unfold failV
              rw [Bool.or_eq_false_iff]; exact ⟨g, g'⟩
            rw [if_neg (by rw [g3]; decide)] at hs
            exact hs.symm
        · have hi := of_decide_eq_false hi
          have hi : i = ms.length := by unfold ofN at hi; omega
          rw [hi, firstV_end] at i2
          refine ⟨by unfold inI64 ofN; omega, j + 1, ⟨by omega, fun _ => ?_, fun h => ?_⟩, by omega, by unfold ofN; omega⟩
          · match j, hj, i2, j2 with
            | 0, _, i2, _ => exact i2.symm
            | 1, _, _, j2 => exact j2 (Nat.le_refl _)
          · match j, hj, i2, h with
            | 0, _, _, h => omega
            | 1, _, i2, _ => exact i2.symm
      · have hj := of_decide_eq_false hj
        have hj : ¬ (j : Int) < ((2 : Nat) : Int) := hj
        rw [audit_good hw k2 hf (j2 (by omega)) (j3 (by omega))]
        exact ⟨rfl, rfl, rfl⟩

theorem check_forks_spec : Vse.Spec P f_check_forks c_forks :=
  spec_fn (l := []) trivial h_check_forks rfl rfl fun x _ ok => body_ok (an_forks x.1) (check_forks_vc x.1 ok.1.1) (by kernel_rfl)

theorem check_Audit_spec : Vse.Spec P f_check_Audit c_Audit :=
  spec_fn (l := [(f_record_Walk, c_Walk), (f_check_Sealed, c_Sealed), (f_check_forks, c_forks), (f_check_Has, c_Has)]) ⟨record_Walk_spec, check_Sealed_spec, check_forks_spec, check_Has_spec, trivial⟩ h_check_Audit rfl rfl
    fun x h ok => body_ok (an_Audit x.1 x.2.1 x.2.2.1) (check_Audit_vc x.1 x.2.1 x.2.2.1 (got h) ok.2.2.1.1) (by kernel_rfl)

end Go.Sal
