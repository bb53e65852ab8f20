/- Contracts of ref27 and of ref17: what is summed, and two unlike texts of one sum. -/
import Derived.Test.YtdddnamfecgkeaaQCGro27
import Derived.Test.YtdddnamfecgkeaaQSalMer4
set_option maxRecDepth 100000
namespace Go.Sal
open Go.Vse Go.Sal.Nm

abbrev T_Txt : T := .slc .u8

def c_node : PC := O [T_Dig, T_Dig] .u8 t_uint8 1 [] (fun _ => none) (fun x => (ntext x.1 x.2.1, ()))
def c_Texts (k : Nat) : PC := O [.slc T_Dig] T_Txt t_sl_uint8 1 [] (fun x => some (x.1.length < k ∧ x.1.length ≤ 1048576)) (fun x => (textsV x.1, ()))
def c_PTexts (k : Nat) : PC := O [T_Dig, .i64, .i64, .slc T_Dig] T_Txt t_sl_uint8 1 [] (fun x => some (x.2.2.2.1.length < k ∧ x.2.2.2.1.length ≤ 1048576 ∧ leP x.2.2.1 1048576)) (fun x => (ptV x.1 x.2.1 x.2.2.1 x.2.2.2.1, ()))
def c_GTexts (k : Nat) : PC := O [T_Dig, .i64, .i64, .bool, .slc T_Dig] T_Txt t_sl_uint8 1 [] (fun x => some (x.2.2.2.2.1.length < k ∧ x.2.2.2.2.1.length ≤ 1048576 ∧ leP x.2.2.1 1048576)) (fun x => (gtV x.1 x.2.1 x.2.2.1 x.2.2.2.1 x.2.2.2.2.1, ()))
def c_Clash : PC := D [.slc T_Txt] [.bool] (fun x => some (x.1.length ≤ 1048576 ∧ ∀ t ∈ x.1, t.length ≤ 1000000)) (fun x => (clashB x.1, ()))

theorem pt_none {leaf : Dig} {i n : Int} {p : List Dig} (h : n ≤ 1 ∨ i < 0 ∨ n ≤ i ∨ p.length = 0) : ptV leaf i n p = [] := by
  by_cases hp : p.length = 0
  · have e : p = [] := List.eq_nil_of_length_eq_zero hp
    subst e; rfl
  · unfold ptV
    rw [rev_last (d := T_Dig.dflt) (by omega), ptR, if_pos (by omega)]
theorem pt_step {leaf : Dig} {i n : Int} {p : List Dig} (h : ¬ (n ≤ 1 ∨ i < 0 ∨ n ≤ i)) (hp : 1 ≤ p.length) : ptV leaf i n p =
    if i < (partN n.toNat : Int) then ptV leaf i (partN n.toNat) (p.take (p.length - 1)) ++ [ntext (madeV' leaf zero32 i (partN n.toNat) (p.take (p.length - 1))).1 (p.getD (p.length - 1) T_Dig.dflt)]
    else ptV leaf (i - (partN n.toNat : Int)) (n - (partN n.toNat : Int)) (p.take (p.length - 1)) ++ [ntext (p.getD (p.length - 1) T_Dig.dflt) (madeV' leaf zero32 (i - (partN n.toNat : Int)) (n - (partN n.toNat : Int)) (p.take (p.length - 1))).1] := by
  have e : ptV leaf i n p = ptR leaf p.reverse i n := rfl
  rw [e, rev_last (d := T_Dig.dflt) hp, ptR, if_neg h]
  rfl
theorem gt_none {was : Dig} {m n : Int} {w : Bool} {p : List Dig} (h : m < 1 ∨ n ≤ m ∨ p.length = 0) : gtV was m n w p = [] := by
  by_cases hp : p.length = 0
  · have e : p = [] := List.eq_nil_of_length_eq_zero hp
    subst e; rfl
  · unfold gtV
    rw [rev_last (d := T_Dig.dflt) (by omega), gtR, if_pos (by omega)]
theorem gt_step {was : Dig} {m n : Int} {w : Bool} {p : List Dig} (h : ¬ (m < 1 ∨ n ≤ m)) (hp : 1 ≤ p.length) : gtV was m n w p =
    if m ≤ (partN n.toNat : Int) then gtV was m (partN n.toNat) w (p.take (p.length - 1)) ++ [ntext (grownV was was m (partN n.toNat) w (p.take (p.length - 1))).1.2 (p.getD (p.length - 1) T_Dig.dflt)]
    else gtV was (m - (partN n.toNat : Int)) (n - (partN n.toNat : Int)) false (p.take (p.length - 1)) ++ [ntext (p.getD (p.length - 1) T_Dig.dflt) (grownV was was (m - (partN n.toNat : Int)) (n - (partN n.toNat : Int)) false (p.take (p.length - 1))).1.1, ntext (p.getD (p.length - 1) T_Dig.dflt) (grownV was was (m - (partN n.toNat : Int)) (n - (partN n.toNat : Int)) false (p.take (p.length - 1))).1.2] := by
  have e : gtV was m n w p = gtR was p.reverse m n w := rfl
  rw [e, rev_last (d := T_Dig.dflt) hp, gtR, if_neg h]
  rfl

theorem ref27_node_vc (l r : Dig) (hl : l.length = 32) (hr : r.length = 32) :
    List.length [1#8] + List.length (List.take 32 (List.drop 0 l)) ≤ ROOM ∧
      List.length ([1#8] ++ List.take 32 (List.drop 0 l)) + List.length (List.take 32 (List.drop 0 r)) ≤ ROOM ∧ [1#8] ++ List.take 32 (List.drop 0 l) ++ List.take 32 (List.drop 0 r) = ntext l r := by
  have e : [1#8] ++ List.take 32 (List.drop 0 l) ++ List.take 32 (List.drop 0 r) = ntext l r := by
    rw [List.drop_zero, List.drop_zero, List.take_of_length_le (by omega), List.take_of_length_le (by omega)]; rfl
  exact ⟨by unfold ROOM; simp only [List.length_take, List.length_drop, List.length_cons, List.length_nil]; omega, by unfold ROOM; simp only [List.length_append, List.length_take, List.length_drop, List.length_cons, List.length_nil]; omega, e⟩

theorem ref27_Texts_vc (k : Nat) (l : List Dig) (hk : l.length < k + 1) (hl : l.length ≤ 1048576) :
    (decide (ofN (List.length l) < 2) = true → [nilOf (T.den T.u8)] = textsV l) ∧
      (decide (ofN (List.length l) < 2) = false →
        (2 ≤ ofN (List.length l) ∧ ofN (List.length l) ≤ 1048576) ∧
          (0 ≤ ofN (partN (Int.toNat (ofN (List.length l)))) ∧ ofN (partN (Int.toNat (ofN (List.length l)))) ≤ ofN (List.length l)) ∧
            (List.length (List.drop 0 (List.take (Int.toNat (ofN (partN (Int.toNat (ofN (List.length l)))))) l)) < k ∧
                List.length (List.drop 0 (List.take (Int.toNat (ofN (partN (Int.toNat (ofN (List.length l)))))) l)) ≤ 1048576) ∧
              (0 ≤ ofN (partN (Int.toNat (ofN (List.length l)))) ∧ ofN (partN (Int.toNat (ofN (List.length l)))) ≤ ofN (List.length l)) ∧
                (List.length (List.drop (Int.toNat (ofN (partN (Int.toNat (ofN (List.length l)))))) (List.take (List.length l) l)) < k ∧
                    List.length (List.drop (Int.toNat (ofN (partN (Int.toNat (ofN (List.length l)))))) (List.take (List.length l) l)) ≤ 1048576) ∧
                  List.length (textsV (List.drop 0 (List.take (Int.toNat (ofN (partN (Int.toNat (ofN (List.length l)))))) l))) +
                        List.length (textsV (List.drop (Int.toNat (ofN (partN (Int.toNat (ofN (List.length l)))))) (List.take (List.length l) l))) ≤
                      ROOM ∧
                    (0 ≤ ofN (partN (Int.toNat (ofN (List.length l)))) ∧ ofN (partN (Int.toNat (ofN (List.length l)))) ≤ ofN (List.length l)) ∧
                      (List.length (List.drop 0 (List.take (Int.toNat (ofN (partN (Int.toNat (ofN (List.length l)))))) l)) < 1048577 ∧
                          List.length (List.drop 0 (List.take (Int.toNat (ofN (partN (Int.toNat (ofN (List.length l)))))) l)) ≤ 1048576) ∧
                        (0 ≤ ofN (partN (Int.toNat (ofN (List.length l)))) ∧ ofN (partN (Int.toNat (ofN (List.length l)))) ≤ ofN (List.length l)) ∧
                          (List.length (List.drop (Int.toNat (ofN (partN (Int.toNat (ofN (List.length l)))))) (List.take (List.length l) l)) < 1048577 ∧
                              List.length (List.drop (Int.toNat (ofN (partN (Int.toNat (ofN (List.length l)))))) (List.take (List.length l) l)) ≤ 1048576) ∧
                            List.length
                                    (textsV (List.drop 0 (List.take (Int.toNat (ofN (partN (Int.toNat (ofN (List.length l)))))) l)) ++
                                      textsV (List.drop (Int.toNat (ofN (partN (Int.toNat (ofN (List.length l)))))) (List.take (List.length l) l))) +
                                  List.length
                                    [ntext (rootV (List.drop 0 (List.take (Int.toNat (ofN (partN (Int.toNat (ofN (List.length l)))))) l)))
                                        (rootV (List.drop (Int.toNat (ofN (partN (Int.toNat (ofN (List.length l)))))) (List.take (List.length l) l)))] ≤
                                ROOM ∧
                              textsV (List.drop 0 (List.take (Int.toNat (ofN (partN (Int.toNat (ofN (List.length l)))))) l)) ++
                                    textsV (List.drop (Int.toNat (ofN (partN (Int.toNat (ofN (List.length l)))))) (List.take (List.length l) l)) ++
                                  [ntext (rootV (List.drop 0 (List.take (Int.toNat (ofN (partN (Int.toNat (ofN (List.length l)))))) l)))
                                      (rootV (List.drop (Int.toNat (ofN (partN (Int.toNat (ofN (List.length l)))))) (List.take (List.length l) l)))] =
                                textsV l) := by
  refine ⟨fun g => ?_, fun g => ?_⟩
  · have g := of_decide_eq_true g
    exact (textsV_small (by unfold ofN at g; omega)).symm
  · have g := of_decide_eq_false g
    have h2 : ¬ l.length < 2 := by unfold ofN at g; omega
    have h3 := partN_lt (n := l.length) (by omega)
    have h4 := partN_pos l.length
    have ht : (l.take (partN l.length)).length = partN l.length := by rw [List.length_take]; omega
    have hd : (l.drop (partN l.length)).length = l.length - partN l.length := List.length_drop
    have q1 := textsV_len (l.take (partN l.length))
    have q2 := textsV_len (l.drop (partN l.length))
    rw [ht] at q1
    rw [hd] at q2
    rw [show Int.toNat (ofN l.length) = l.length from rfl, show Int.toNat (ofN (partN l.length)) = partN l.length from rfl, List.drop_zero, List.take_length, ht, hd, textsV_step h2]
    have a1 : (2 : Int) ≤ ofN l.length ∧ ofN l.length ≤ 1048576 := by unfold ofN; omega
    have a2 : (0 : Int) ≤ ofN (partN l.length) ∧ ofN (partN l.length) ≤ ofN l.length := by unfold ofN; omega
    refine ⟨a1, a2, ⟨by omega, by omega⟩, a2, ⟨by omega, by omega⟩, by unfold ROOM; omega, a2, ⟨by omega, by omega⟩, a2, ⟨by omega, by omega⟩, ?_, rfl⟩
    rw [List.length_append]
    simp only [List.length_cons, List.length_nil]
    unfold ROOM; omega

theorem ref27_PathTexts_vc (k : Nat) (leaf : Dig) (i n : Int) (p : List Dig) (hk : p.length < k + 1) (hl : p.length ≤ 1048576) (hn : n ≤ 1048576) :
    ((decide (n ≤ 1) || decide (i < 0) || decide (n ≤ i) || ofN (List.length p) == 0) = true → ptV leaf i n p = nilOf (T.den (T.slc T.u8))) ∧
      ((decide (n ≤ 1) || decide (i < 0) || decide (n ≤ i) || ofN (List.length p) == 0) = false →
        (2 ≤ n ∧ n ≤ 1048576) ∧
          inI64 (ofN (List.length p) - 1) ∧
            within (ofN (List.length p) - 1) (List.length p) ∧
              inI64 (ofN (List.length p) - 1) ∧
                (0 ≤ ofN (List.length p) - 1 ∧ ofN (List.length p) - 1 ≤ ofN (List.length p)) ∧
                  (decide (i < ofN (partN (Int.toNat n))) = true →
                      (List.length (List.drop 0 (List.take (Int.toNat (ofN (List.length p) - 1)) p)) < 9223372036854775808 ∧
                          1 ≤ ofN (partN (Int.toNat n)) ∧ ofN (partN (Int.toNat n)) ≤ 1048576 ∧ 0 ≤ i ∧ i + 1 ≤ ofN (partN (Int.toNat n))) ∧
                        (List.length (List.drop 0 (List.take (Int.toNat (ofN (List.length p) - 1)) p)) < k ∧
                            List.length (List.drop 0 (List.take (Int.toNat (ofN (List.length p) - 1)) p)) ≤ 1048576 ∧ ofN (partN (Int.toNat n)) ≤ 1048576) ∧
                          List.length (ptV leaf i (ofN (partN (Int.toNat n))) (List.drop 0 (List.take (Int.toNat (ofN (List.length p) - 1)) p))) +
                                List.length
                                  [ntext (madeV' leaf zero32 i (ofN (partN (Int.toNat n))) (List.drop 0 (List.take (Int.toNat (ofN (List.length p) - 1)) p))).1
                                      (List.getD p (Int.toNat (ofN (List.length p) - 1)) (T.dflt (T.arr 32 T.u8)))] ≤
                              ROOM ∧
                            ptV leaf i (ofN (partN (Int.toNat n))) (List.drop 0 (List.take (Int.toNat (ofN (List.length p) - 1)) p)) ++
                                [ntext (madeV' leaf zero32 i (ofN (partN (Int.toNat n))) (List.drop 0 (List.take (Int.toNat (ofN (List.length p) - 1)) p))).1
                                    (List.getD p (Int.toNat (ofN (List.length p) - 1)) (T.dflt (T.arr 32 T.u8)))] =
                              ptV leaf i n p) ∧
                    (decide (i < ofN (partN (Int.toNat n))) = false →
                      inI64 (i - ofN (partN (Int.toNat n))) ∧
                        inI64 (n - ofN (partN (Int.toNat n))) ∧
                          (List.length (List.drop 0 (List.take (Int.toNat (ofN (List.length p) - 1)) p)) < 9223372036854775808 ∧
                              1 ≤ n - ofN (partN (Int.toNat n)) ∧
                                n - ofN (partN (Int.toNat n)) ≤ 1048576 ∧ 0 ≤ i - ofN (partN (Int.toNat n)) ∧ i - ofN (partN (Int.toNat n)) + 1 ≤ n - ofN (partN (Int.toNat n))) ∧
                            inI64 (i - ofN (partN (Int.toNat n))) ∧
                              inI64 (n - ofN (partN (Int.toNat n))) ∧
                                (List.length (List.drop 0 (List.take (Int.toNat (ofN (List.length p) - 1)) p)) < k ∧
                                    List.length (List.drop 0 (List.take (Int.toNat (ofN (List.length p) - 1)) p)) ≤ 1048576 ∧ n - ofN (partN (Int.toNat n)) ≤ 1048576) ∧
                                  List.length (ptV leaf (i - ofN (partN (Int.toNat n))) (n - ofN (partN (Int.toNat n))) (List.drop 0 (List.take (Int.toNat (ofN (List.length p) - 1)) p))) +
                                        List.length
                                          [ntext (List.getD p (Int.toNat (ofN (List.length p) - 1)) (T.dflt (T.arr 32 T.u8)))
                                              (madeV' leaf zero32 (i - ofN (partN (Int.toNat n))) (n - ofN (partN (Int.toNat n))) (List.drop 0 (List.take (Int.toNat (ofN (List.length p) - 1)) p))).1] ≤
                                      ROOM ∧
                                    ptV leaf (i - ofN (partN (Int.toNat n))) (n - ofN (partN (Int.toNat n))) (List.drop 0 (List.take (Int.toNat (ofN (List.length p) - 1)) p)) ++
                                        [ntext (List.getD p (Int.toNat (ofN (List.length p) - 1)) (T.dflt (T.arr 32 T.u8)))
                                            (madeV' leaf zero32 (i - ofN (partN (Int.toNat n))) (n - ofN (partN (Int.toNat n))) (List.drop 0 (List.take (Int.toNat (ofN (List.length p) - 1)) p))).1] =
                                      ptV leaf i n p)) := by
  refine ⟨fun g => ?_, fun g => ?_⟩
  · simp only [Bool.or_eq_true, decide_eq_true_eq, beq_iff_eq, ofN] at g
    exact pt_none (by omega)
  · simp only [Bool.or_eq_false_iff, decide_eq_false_iff_not, beq_eq_false_iff_ne, ne_eq, ofN] at g
    have hp1 : 1 ≤ p.length := by omega
    have hs := pt_step (leaf := leaf) (i := i) (n := n) (p := p) (by omega) hp1
    have ei : Int.toNat (ofN p.length - 1) = p.length - 1 := by unfold ofN; omega
    have ht : (p.take (p.length - 1)).length = p.length - 1 := by rw [List.length_take]; omega
    obtain ⟨q1, q2⟩ := part_int (n := n) (by omega)
    have a1 : (2 : Int) ≤ n ∧ n ≤ 1048576 := by omega
    have a2 : inI64 (ofN p.length - 1) := by unfold inI64 ofN; omega
    have a3 : within (ofN p.length - 1) p.length := by unfold within ofN; omega
    have a4 : (0 : Int) ≤ ofN p.length - 1 ∧ ofN p.length - 1 ≤ ofN p.length := by unfold ofN; omega
    rw [ei, List.drop_zero, ht]
    refine ⟨a1, a2, a3, a2, a4, fun c => ?_, fun c => ?_⟩
    · have c := of_decide_eq_true c
      have b1 := ptV_len leaf i (ofN (partN (Int.toNat n))) (p.take (p.length - 1))
      rw [ht] at b1
      rw [hs, if_pos c]
      exact ⟨⟨by omega, by omega, by omega, by omega, by omega⟩, ⟨by omega, by omega, by omega⟩, by unfold ROOM; simp only [List.length_cons, List.length_nil]; omega, rfl⟩
    · have c := of_decide_eq_false c
      have b1 := ptV_len leaf (i - ofN (partN (Int.toNat n))) (n - ofN (partN (Int.toNat n))) (p.take (p.length - 1))
      rw [ht] at b1
      have d1 : inI64 (i - ofN (partN (Int.toNat n))) := by unfold inI64; omega
      have d2 : inI64 (n - ofN (partN (Int.toNat n))) := by unfold inI64; omega
      rw [hs, if_neg c]
      exact ⟨d1, d2, ⟨by omega, by omega, by omega, by omega, by omega⟩, d1, d2, ⟨by omega, by omega, by omega⟩, by unfold ROOM; simp only [List.length_cons, List.length_nil]; omega, rfl⟩

theorem ref27_GrowthTexts_vc (k : Nat) (was : Dig) (m n : Int) (w : Bool) (p : List Dig) (hk : p.length < k + 1) (hl : p.length ≤ 1048576) (hn : n ≤ 1048576) :
    ((decide (m < 1) || decide (n ≤ m) || ofN (List.length p) == 0) = true → gtV was m n w p = nilOf (T.den (T.slc T.u8))) ∧
      ((decide (m < 1) || decide (n ≤ m) || ofN (List.length p) == 0) = false →
        (2 ≤ n ∧ n ≤ 1048576) ∧
          inI64 (ofN (List.length p) - 1) ∧
            within (ofN (List.length p) - 1) (List.length p) ∧
              inI64 (ofN (List.length p) - 1) ∧
                (0 ≤ ofN (List.length p) - 1 ∧ ofN (List.length p) - 1 ≤ ofN (List.length p)) ∧
                  (decide (m ≤ ofN (partN (Int.toNat n))) = true →
                      (List.length (List.drop 0 (List.take (Int.toNat (ofN (List.length p) - 1)) p)) < 9223372036854775808 ∧ 1 ≤ m ∧ m ≤ ofN (partN (Int.toNat n)) ∧ ofN (partN (Int.toNat n)) ≤ 1048576) ∧
                        (List.length (List.drop 0 (List.take (Int.toNat (ofN (List.length p) - 1)) p)) < k ∧
                            List.length (List.drop 0 (List.take (Int.toNat (ofN (List.length p) - 1)) p)) ≤ 1048576 ∧ ofN (partN (Int.toNat n)) ≤ 1048576) ∧
                          List.length (gtV was m (ofN (partN (Int.toNat n))) w (List.drop 0 (List.take (Int.toNat (ofN (List.length p) - 1)) p))) +
                                List.length
                                  [ntext (grownV was was m (ofN (partN (Int.toNat n))) w (List.drop 0 (List.take (Int.toNat (ofN (List.length p) - 1)) p))).1.2
                                      (List.getD p (Int.toNat (ofN (List.length p) - 1)) (T.dflt (T.arr 32 T.u8)))] ≤
                              ROOM ∧
                            gtV was m (ofN (partN (Int.toNat n))) w (List.drop 0 (List.take (Int.toNat (ofN (List.length p) - 1)) p)) ++
                                [ntext (grownV was was m (ofN (partN (Int.toNat n))) w (List.drop 0 (List.take (Int.toNat (ofN (List.length p) - 1)) p))).1.2
                                    (List.getD p (Int.toNat (ofN (List.length p) - 1)) (T.dflt (T.arr 32 T.u8)))] =
                              gtV was m n w p) ∧
                    (decide (m ≤ ofN (partN (Int.toNat n))) = false →
                      inI64 (m - ofN (partN (Int.toNat n))) ∧
                        inI64 (n - ofN (partN (Int.toNat n))) ∧
                          (List.length (List.drop 0 (List.take (Int.toNat (ofN (List.length p) - 1)) p)) < 9223372036854775808 ∧
                              1 ≤ m - ofN (partN (Int.toNat n)) ∧ m - ofN (partN (Int.toNat n)) ≤ n - ofN (partN (Int.toNat n)) ∧ n - ofN (partN (Int.toNat n)) ≤ 1048576) ∧
                            inI64 (m - ofN (partN (Int.toNat n))) ∧
                              inI64 (n - ofN (partN (Int.toNat n))) ∧
                                (List.length (List.drop 0 (List.take (Int.toNat (ofN (List.length p) - 1)) p)) < k ∧
                                    List.length (List.drop 0 (List.take (Int.toNat (ofN (List.length p) - 1)) p)) ≤ 1048576 ∧ n - ofN (partN (Int.toNat n)) ≤ 1048576) ∧
                                  List.length (gtV was (m - ofN (partN (Int.toNat n))) (n - ofN (partN (Int.toNat n))) false (List.drop 0 (List.take (Int.toNat (ofN (List.length p) - 1)) p))) +
                                        List.length
                                          [ntext (List.getD p (Int.toNat (ofN (List.length p) - 1)) (T.dflt (T.arr 32 T.u8)))
                                              (grownV was was (m - ofN (partN (Int.toNat n))) (n - ofN (partN (Int.toNat n))) false (List.drop 0 (List.take (Int.toNat (ofN (List.length p) - 1)) p))).1.1,
                                            ntext (List.getD p (Int.toNat (ofN (List.length p) - 1)) (T.dflt (T.arr 32 T.u8)))
                                              (grownV was was (m - ofN (partN (Int.toNat n))) (n - ofN (partN (Int.toNat n))) false
                                                    (List.drop 0 (List.take (Int.toNat (ofN (List.length p) - 1)) p))).1.2] ≤
                                      ROOM ∧
                                    gtV was (m - ofN (partN (Int.toNat n))) (n - ofN (partN (Int.toNat n))) false (List.drop 0 (List.take (Int.toNat (ofN (List.length p) - 1)) p)) ++
                                        [ntext (List.getD p (Int.toNat (ofN (List.length p) - 1)) (T.dflt (T.arr 32 T.u8)))
                                            (grownV was was (m - ofN (partN (Int.toNat n))) (n - ofN (partN (Int.toNat n))) false (List.drop 0 (List.take (Int.toNat (ofN (List.length p) - 1)) p))).1.1,
                                          ntext (List.getD p (Int.toNat (ofN (List.length p) - 1)) (T.dflt (T.arr 32 T.u8)))
                                            (grownV was was (m - ofN (partN (Int.toNat n))) (n - ofN (partN (Int.toNat n))) false (List.drop 0 (List.take (Int.toNat (ofN (List.length p) - 1)) p))).1.2] =
                                      gtV was m n w p)) := by
  refine ⟨fun g => ?_, fun g => ?_⟩
  · simp only [Bool.or_eq_true, decide_eq_true_eq, beq_iff_eq, ofN] at g
    exact gt_none (by omega)
  · simp only [Bool.or_eq_false_iff, decide_eq_false_iff_not, beq_eq_false_iff_ne, ne_eq, ofN] at g
    have hp1 : 1 ≤ p.length := by omega
    have hs := gt_step (was := was) (m := m) (n := n) (w := w) (p := p) (by omega) hp1
    have ei : Int.toNat (ofN p.length - 1) = p.length - 1 := by unfold ofN; omega
    have ht : (p.take (p.length - 1)).length = p.length - 1 := by rw [List.length_take]; omega
    obtain ⟨q1, q2⟩ := part_int (n := n) (by omega)
    have a1 : (2 : Int) ≤ n ∧ n ≤ 1048576 := by omega
    have a2 : inI64 (ofN p.length - 1) := by unfold inI64 ofN; omega
    have a3 : within (ofN p.length - 1) p.length := by unfold within ofN; omega
    have a4 : (0 : Int) ≤ ofN p.length - 1 ∧ ofN p.length - 1 ≤ ofN p.length := by unfold ofN; omega
    rw [ei, List.drop_zero, ht]
    refine ⟨a1, a2, a3, a2, a4, fun c => ?_, fun c => ?_⟩
    · have c := of_decide_eq_true c
      have b1 := gtV_len was m (ofN (partN (Int.toNat n))) w (p.take (p.length - 1))
      rw [ht] at b1
      rw [hs, if_pos c]
      exact ⟨⟨by omega, by omega, by omega, by omega⟩, ⟨by omega, by omega, by omega⟩, by unfold ROOM; simp only [List.length_cons, List.length_nil]; omega, rfl⟩
    · have c := of_decide_eq_false c
      have b1 := gtV_len was (m - ofN (partN (Int.toNat n))) (n - ofN (partN (Int.toNat n))) false (p.take (p.length - 1))
      rw [ht] at b1
      have d1 : inI64 (m - ofN (partN (Int.toNat n))) := by unfold inI64; omega
      have d2 : inI64 (n - ofN (partN (Int.toNat n))) := by unfold inI64; omega
      rw [hs, if_neg c]
      exact ⟨d1, d2, ⟨by omega, by omega, by omega, by omega⟩, d1, d2, ⟨by omega, by omega, by omega⟩, by unfold ROOM; simp only [List.length_cons, List.length_nil]; omega, rfl⟩

def an_Clash (l : List Bytes) : Nat → SState → Option LoopAnn
  | 3, S => some { X := Nat, slots := fun i => [(3, .sv (.own 10 T_Dig ((l.take i).map sha))), (4, .sv (.dv (.i64 i)))], objs := fun _ => [(x_tok S 3, .gone), (10, .tok t_api_Digest 32)], inv := fun i => i ≤ l.length, meas := fun i => l.length - i }
  | 7, _ => some { X := Nat, slots := fun i => [(5, .sv (.dv (.i64 i)))], objs := fun _ => [], inv := fun i => i ≤ l.length ∧ ∀ a, a < i → rowB l a = false, meas := fun i => l.length - i }
  | 10, S => some { X := Nat, slots := fun k => [(6, .sv (.dv (.i64 k)))], objs := fun _ => [], inv := fun k => k ≤ (x_int S 5).toNat ∧ ∀ b, b < k → pairV l (x_int S 5).toNat b = false, meas := fun k => (x_int S 5).toNat - k }
  | _, _ => none

theorem ref17_Clash_vc (l : List Bytes) (hl : l.length ≤ 1048576) (ht : ∀ t ∈ l, t.length ≤ 1000000) :
    (∃ (x : Nat), x ≤ List.length l ∧ List.map sha (List.take x l) = nilOf (T.den (T.arr 32 T.u8)) ∧ 0 = ofN x) ∧
      ∀ (x : Nat),
        x ≤ List.length l →
          (decide (ofN x < ofN (List.length l)) = true →
              within (ofN x) (List.length l) ∧
                List.length (List.getD l (Int.toNat (ofN x)) (T.dflt (T.slc T.u8))) ≤ 1073741824 ∧
                  List.length (List.map sha (List.take x l)) + List.length [sha (List.getD l (Int.toNat (ofN x)) (T.dflt (T.slc T.u8)))] ≤ ROOM ∧
                    inI64 (ofN x + 1) ∧
                      ∃ (x' : Nat),
                        x' ≤ List.length l ∧
                          List.length l - x' < List.length l - x ∧
                            List.map sha (List.take x l) ++ [sha (List.getD l (Int.toNat (ofN x)) (T.dflt (T.slc T.u8)))] = List.map sha (List.take x' l) ∧ ofN x + 1 = ofN x') ∧
            (decide (ofN x < ofN (List.length l)) = false →
              (∃ (x : Nat), (x ≤ List.length l ∧ ∀ (a : Nat), a < x → rowB l a = false) ∧ 0 = ofN x) ∧
                ∀ (x_1 : Nat),
                  (x_1 ≤ List.length l ∧ ∀ (a : Nat), a < x_1 → rowB l a = false) →
                    (decide (ofN x_1 < ofN (List.length l)) = true →
                        (∃ (x : Nat), (x ≤ Int.toNat (ofN x_1) ∧ ∀ (b : Nat), b < x → pairV l (Int.toNat (ofN x_1)) b = false) ∧ 0 = ofN x) ∧
                          ∀ (x_2 : Nat),
                            (x_2 ≤ Int.toNat (ofN x_1) ∧ ∀ (b : Nat), b < x_2 → pairV l (Int.toNat (ofN x_1)) b = false) →
                              (decide (ofN x_2 < ofN x_1) = true →
                                  within (ofN x_1) (List.length (List.map sha (List.take x l))) ∧
                                    within (ofN x_2) (List.length (List.map sha (List.take x l))) ∧
                                      (eqL T.u8 (List.getD (List.map sha (List.take x l)) (Int.toNat (ofN x_1)) (T.dflt (T.arr 32 T.u8)))
                                              (List.getD (List.map sha (List.take x l)) (Int.toNat (ofN x_2)) (T.dflt (T.arr 32 T.u8))) =
                                            true →
                                          within (ofN x_1) (List.length l)) ∧
                                        (eqL T.u8 (List.getD (List.map sha (List.take x l)) (Int.toNat (ofN x_1)) (T.dflt (T.arr 32 T.u8)))
                                                (List.getD (List.map sha (List.take x l)) (Int.toNat (ofN x_2)) (T.dflt (T.arr 32 T.u8))) =
                                              true →
                                            within (ofN x_2) (List.length l)) ∧
                                          ((eqL T.u8 (List.getD (List.map sha (List.take x l)) (Int.toNat (ofN x_1)) (T.dflt (T.arr 32 T.u8)))
                                                    (List.getD (List.map sha (List.take x l)) (Int.toNat (ofN x_2)) (T.dflt (T.arr 32 T.u8))) &&
                                                  List.getD l (Int.toNat (ofN x_1)) (T.dflt (T.slc T.u8)) != List.getD l (Int.toNat (ofN x_2)) (T.dflt (T.slc T.u8))) =
                                                true →
                                              true = clashB l) ∧
                                            ((eqL T.u8 (List.getD (List.map sha (List.take x l)) (Int.toNat (ofN x_1)) (T.dflt (T.arr 32 T.u8)))
                                                    (List.getD (List.map sha (List.take x l)) (Int.toNat (ofN x_2)) (T.dflt (T.arr 32 T.u8))) &&
                                                  List.getD l (Int.toNat (ofN x_1)) (T.dflt (T.slc T.u8)) != List.getD l (Int.toNat (ofN x_2)) (T.dflt (T.slc T.u8))) =
                                                false →
                                              inI64 (ofN x_2 + 1) ∧
                                                ∃ (x' : Nat),
                                                  (x' ≤ Int.toNat (ofN x_1) ∧ ∀ (b : Nat), b < x' → pairV l (Int.toNat (ofN x_1)) b = false) ∧
                                                    Int.toNat (ofN x_1) - x' < Int.toNat (ofN x_1) - x_2 ∧ ofN x_2 + 1 = ofN x')) ∧
                                (decide (ofN x_2 < ofN x_1) = false →
                                  inI64 (ofN x_1 + 1) ∧ ∃ (x' : Nat), (x' ≤ List.length l ∧ ∀ (a : Nat), a < x' → rowB l a = false) ∧ List.length l - x' < List.length l - x_1 ∧ ofN x_1 + 1 = ofN x')) ∧
                      (decide (ofN x_1 < ofN (List.length l)) = false → false = clashB l)) := by
  refine ⟨⟨0, by omega, rfl, rfl⟩, fun x hx => ⟨fun hc => ?_, fun hc => ?_⟩⟩
  · have hc := of_decide_eq_true hc
    have hc : x < l.length := by unfold ofN at hc; omega
    rw [show Int.toNat (ofN x) = x from rfl]
    refine ⟨by unfold within ofN; omega, ?_, ?_, by unfold inI64 ofN; omega, x + 1, by omega, by omega, ?_, by unfold ofN; omega⟩
    · rw [getD_lt hc]
      have := ht _ (List.getElem_mem hc)
      omega
    · rw [List.length_map, List.length_take]
      simp only [List.length_cons, List.length_nil]
      unfold ROOM; omega
    · rw [take_snoc' (d := T.dflt (T.slc T.u8)) hc, List.map_append]; rfl
  · have hc := of_decide_eq_false hc
    have hx' : x = l.length := by unfold ofN at hc; omega
    rw [hx', List.take_length, List.length_map]
    have em : ∀ a, a < l.length → (l.map sha).getD a (T.dflt (T.arr 32 T.u8)) = sha (l.getD a []) := fun a ha => by
      rw [getD_lt (by rw [List.length_map]; exact ha), getD_lt ha, List.getElem_map]
    refine ⟨⟨0, ⟨by omega, fun a ha => by omega⟩, rfl⟩, fun i ⟨h1, h2⟩ => ⟨fun hi => ?_, fun hi => ?_⟩⟩
    · have hi := of_decide_eq_true hi
      have hi : i < l.length := by unfold ofN at hi; omega
      rw [show Int.toNat (ofN i) = i from rfl]
      refine ⟨⟨0, ⟨by omega, fun b hb => by omega⟩, rfl⟩, fun k ⟨k1, k2⟩ => ⟨fun hk => ?_, fun hk => ?_⟩⟩
      · have hk := of_decide_eq_true hk
        have hk : k < i := by unfold ofN at hk; omega
        rw [show Int.toNat (ofN k) = k from rfl]
        have wi : within (ofN i) l.length := by unfold within ofN; omega
        have wk : within (ofN k) l.length := by unfold within ofN; omega
        rw [em i hi, em k (by omega), eqL_u8]
        have ep : (sha (l.getD i []) == sha (l.getD k []) && List.getD l i (T.dflt (T.slc T.u8)) != List.getD l k (T.dflt (T.slc T.u8))) = pairV l i k := rfl
        refine ⟨wi, wk, fun _ => wi, fun _ => wk, fun g => ?_, fun g => ⟨by unfold inI64 ofN; omega, k + 1, ⟨by omega, fun b hb => ?_⟩, by omega, by unfold ofN; omega⟩⟩
        · exact (clash_of hi hk (ep.symm.trans g)).symm
        · rcases Nat.lt_or_ge b k with h | h
          · exact k2 b h
          · rw [show b = k by omega]; exact ep.symm.trans g
      · have hk := of_decide_eq_false hk
        have hk : k = i := by unfold ofN at hk; omega
        refine ⟨by unfold inI64 ofN; omega, i + 1, ⟨by omega, fun a ha => ?_⟩, by omega, by unfold ofN; omega⟩
        rcases Nat.lt_or_ge a i with h | h
        · exact h2 a h
        · rw [show a = i by omega]
          exact rowB_none (fun b hb => k2 b (by omega))
    · have hi := of_decide_eq_false hi
      have hi : i = l.length := by unfold ofN at hi; omega
      exact (clashB_none (fun a ha => h2 a (by omega))).symm

theorem law27_MerkleSound_vc (l : List Dig) (leaf : Dig) (i : Int) (p : List Dig) (was : Dig) (m : Int) (q : List Dig) (hl : d32 l) (hp : d32 p) (hq : d32 q) (hleaf : leaf.length = 32) (hwas : was.length = 32) :
    ofN 0 ≤ 40 ∧
      ofN 0 ≤ 12 ∧
        ofN 0 ≤ 12 ∧
          (((rootA (List.take (Int.toNat 40) l)).2 != 0 ||
                  ofN (List.length (List.take (Int.toNat 40) l)) == 0 &&
                    (inV (rootA (List.take (Int.toNat 40) l)).1 leaf i 0 (List.take (Int.toNat 12) p) || m != 0 && grownB was (rootA (List.take (Int.toNat 40) l)).1 m 0 (List.take (Int.toNat 12) q))) =
                true →
              false = true) ∧
            (((rootA (List.take (Int.toNat 40) l)).2 != 0 ||
                  ofN (List.length (List.take (Int.toNat 40) l)) == 0 &&
                    (inV (rootA (List.take (Int.toNat 40) l)).1 leaf i 0 (List.take (Int.toNat 12) p) || m != 0 && grownB was (rootA (List.take (Int.toNat 40) l)).1 m 0 (List.take (Int.toNat 12) q))) =
                false →
              ((decide (0 ≤ i) && decide (i < ofN (List.length (List.take (Int.toNat 40) l)))) = true → within i (List.length (List.take (Int.toNat 40) l))) ∧
                ((decide (0 ≤ m) && decide (m ≤ ofN (List.length (List.take (Int.toNat 40) l)))) = true →
                    (0 ≤ m ∧ m ≤ ofN (List.length (List.take (Int.toNat 40) l))) ∧
                      (((decide (0 ≤ i) && decide (i < ofN (List.length (List.take (Int.toNat 40) l))) && eqL T.u8 (List.getD (List.take (Int.toNat 40) l) (Int.toNat i) (T.dflt (T.arr 32 T.u8))) leaf ||
                                !inV (rootA (List.take (Int.toNat 40) l)).1 leaf i (ofN (List.length (List.take (Int.toNat 40) l))) (List.take (Int.toNat 12) p)) &&
                              (eqL T.u8 (rootA (List.drop 0 (List.take (Int.toNat m) (List.take (Int.toNat 40) l)))).1 was ||
                                !grownB was (rootA (List.take (Int.toNat 40) l)).1 m (ofN (List.length (List.take (Int.toNat 40) l))) (List.take (Int.toNat 12) q))) =
                            true →
                          true = true) ∧
                        (((decide (0 ≤ i) && decide (i < ofN (List.length (List.take (Int.toNat 40) l))) && eqL T.u8 (List.getD (List.take (Int.toNat 40) l) (Int.toNat i) (T.dflt (T.arr 32 T.u8))) leaf ||
                                !inV (rootA (List.take (Int.toNat 40) l)).1 leaf i (ofN (List.length (List.take (Int.toNat 40) l))) (List.take (Int.toNat 12) p)) &&
                              (eqL T.u8 (rootA (List.drop 0 (List.take (Int.toNat m) (List.take (Int.toNat 40) l)))).1 was ||
                                !grownB was (rootA (List.take (Int.toNat 40) l)).1 m (ofN (List.length (List.take (Int.toNat 40) l))) (List.take (Int.toNat 12) q))) =
                            false →
                          (List.length (List.take (Int.toNat 40) l) < 1048577 ∧ List.length (List.take (Int.toNat 40) l) ≤ 1048576) ∧
                            (List.length (List.take (Int.toNat 12) p) < 1048577 ∧ List.length (List.take (Int.toNat 12) p) ≤ 1048576 ∧ ofN (List.length (List.take (Int.toNat 40) l)) ≤ 1048576) ∧
                              List.length (textsV (List.take (Int.toNat 40) l)) + List.length (ptV leaf i (ofN (List.length (List.take (Int.toNat 40) l))) (List.take (Int.toNat 12) p)) ≤ ROOM ∧
                                ((decide (0 ≤ m) && decide (m ≤ ofN (List.length (List.take (Int.toNat 40) l)))) = true →
                                    (0 ≤ m ∧ m ≤ ofN (List.length (List.take (Int.toNat 40) l))) ∧
                                      (List.length (List.drop 0 (List.take (Int.toNat m) (List.take (Int.toNat 40) l))) < 1048577 ∧
                                          List.length (List.drop 0 (List.take (Int.toNat m) (List.take (Int.toNat 40) l))) ≤ 1048576) ∧
                                        List.length (textsV (List.take (Int.toNat 40) l) ++ ptV leaf i (ofN (List.length (List.take (Int.toNat 40) l))) (List.take (Int.toNat 12) p)) +
                                              List.length (textsV (List.drop 0 (List.take (Int.toNat m) (List.take (Int.toNat 40) l)))) ≤
                                            ROOM ∧
                                          (List.length (List.take (Int.toNat 12) q) < 1048577 ∧
                                              List.length (List.take (Int.toNat 12) q) ≤ 1048576 ∧ ofN (List.length (List.take (Int.toNat 40) l)) ≤ 1048576) ∧
                                            List.length
                                                    (textsV (List.take (Int.toNat 40) l) ++ ptV leaf i (ofN (List.length (List.take (Int.toNat 40) l))) (List.take (Int.toNat 12) p) ++
                                                      textsV (List.drop 0 (List.take (Int.toNat m) (List.take (Int.toNat 40) l)))) +
                                                  List.length (gtV was m (ofN (List.length (List.take (Int.toNat 40) l))) true (List.take (Int.toNat 12) q)) ≤
                                                ROOM ∧
                                              (List.length
                                                      (textsV (List.take (Int.toNat 40) l) ++ ptV leaf i (ofN (List.length (List.take (Int.toNat 40) l))) (List.take (Int.toNat 12) p) ++
                                                          textsV (List.drop 0 (List.take (Int.toNat m) (List.take (Int.toNat 40) l))) ++
                                                        gtV was m (ofN (List.length (List.take (Int.toNat 40) l))) true (List.take (Int.toNat 12) q)) ≤
                                                    1048576 ∧
                                                  ∀ (t : List (BitVec 8)),
                                                    List.Mem t
                                                        (textsV (List.take (Int.toNat 40) l) ++ ptV leaf i (ofN (List.length (List.take (Int.toNat 40) l))) (List.take (Int.toNat 12) p) ++
                                                            textsV (List.drop 0 (List.take (Int.toNat m) (List.take (Int.toNat 40) l))) ++
                                                          gtV was m (ofN (List.length (List.take (Int.toNat 40) l))) true (List.take (Int.toNat 12) q)) →
                                                      List.length t ≤ 1000000) ∧
                                                (clashB
                                                      (textsV (List.take (Int.toNat 40) l) ++ ptV leaf i (ofN (List.length (List.take (Int.toNat 40) l))) (List.take (Int.toNat 12) p) ++
                                                          textsV (List.drop 0 (List.take (Int.toNat m) (List.take (Int.toNat 40) l))) ++
                                                        gtV was m (ofN (List.length (List.take (Int.toNat 40) l))) true (List.take (Int.toNat 12) q)) &&
                                                    true) =
                                                  true) ∧
                                  ((decide (0 ≤ m) && decide (m ≤ ofN (List.length (List.take (Int.toNat 40) l)))) = false →
                                    (List.length (textsV (List.take (Int.toNat 40) l) ++ ptV leaf i (ofN (List.length (List.take (Int.toNat 40) l))) (List.take (Int.toNat 12) p)) ≤ 1048576 ∧
                                        ∀ (t : List (BitVec 8)),
                                          List.Mem t (textsV (List.take (Int.toNat 40) l) ++ ptV leaf i (ofN (List.length (List.take (Int.toNat 40) l))) (List.take (Int.toNat 12) p)) →
                                            List.length t ≤ 1000000) ∧
                                      (clashB (textsV (List.take (Int.toNat 40) l) ++ ptV leaf i (ofN (List.length (List.take (Int.toNat 40) l))) (List.take (Int.toNat 12) p)) && true) = true))) ∧
                  ((decide (0 ≤ m) && decide (m ≤ ofN (List.length (List.take (Int.toNat 40) l)))) = false →
                    (((decide (0 ≤ i) && decide (i < ofN (List.length (List.take (Int.toNat 40) l))) && eqL T.u8 (List.getD (List.take (Int.toNat 40) l) (Int.toNat i) (T.dflt (T.arr 32 T.u8))) leaf ||
                              !inV (rootA (List.take (Int.toNat 40) l)).1 leaf i (ofN (List.length (List.take (Int.toNat 40) l))) (List.take (Int.toNat 12) p)) &&
                            (decide (0 ≤ m) && decide (m ≤ ofN (List.length (List.take (Int.toNat 40) l))) ||
                              !grownB was (rootA (List.take (Int.toNat 40) l)).1 m (ofN (List.length (List.take (Int.toNat 40) l))) (List.take (Int.toNat 12) q))) =
                          true →
                        true = true) ∧
                      (((decide (0 ≤ i) && decide (i < ofN (List.length (List.take (Int.toNat 40) l))) && eqL T.u8 (List.getD (List.take (Int.toNat 40) l) (Int.toNat i) (T.dflt (T.arr 32 T.u8))) leaf ||
                              !inV (rootA (List.take (Int.toNat 40) l)).1 leaf i (ofN (List.length (List.take (Int.toNat 40) l))) (List.take (Int.toNat 12) p)) &&
                            (decide (0 ≤ m) && decide (m ≤ ofN (List.length (List.take (Int.toNat 40) l))) ||
                              !grownB was (rootA (List.take (Int.toNat 40) l)).1 m (ofN (List.length (List.take (Int.toNat 40) l))) (List.take (Int.toNat 12) q))) =
                          false →
                        (List.length (List.take (Int.toNat 40) l) < 1048577 ∧ List.length (List.take (Int.toNat 40) l) ≤ 1048576) ∧
                          (List.length (List.take (Int.toNat 12) p) < 1048577 ∧ List.length (List.take (Int.toNat 12) p) ≤ 1048576 ∧ ofN (List.length (List.take (Int.toNat 40) l)) ≤ 1048576) ∧
                            List.length (textsV (List.take (Int.toNat 40) l)) + List.length (ptV leaf i (ofN (List.length (List.take (Int.toNat 40) l))) (List.take (Int.toNat 12) p)) ≤ ROOM ∧
                              ((decide (0 ≤ m) && decide (m ≤ ofN (List.length (List.take (Int.toNat 40) l)))) = true →
                                  (0 ≤ m ∧ m ≤ ofN (List.length (List.take (Int.toNat 40) l))) ∧
                                    (List.length (List.drop 0 (List.take (Int.toNat m) (List.take (Int.toNat 40) l))) < 1048577 ∧
                                        List.length (List.drop 0 (List.take (Int.toNat m) (List.take (Int.toNat 40) l))) ≤ 1048576) ∧
                                      List.length (textsV (List.take (Int.toNat 40) l) ++ ptV leaf i (ofN (List.length (List.take (Int.toNat 40) l))) (List.take (Int.toNat 12) p)) +
                                            List.length (textsV (List.drop 0 (List.take (Int.toNat m) (List.take (Int.toNat 40) l)))) ≤
                                          ROOM ∧
                                        (List.length (List.take (Int.toNat 12) q) < 1048577 ∧
                                            List.length (List.take (Int.toNat 12) q) ≤ 1048576 ∧ ofN (List.length (List.take (Int.toNat 40) l)) ≤ 1048576) ∧
                                          List.length
                                                  (textsV (List.take (Int.toNat 40) l) ++ ptV leaf i (ofN (List.length (List.take (Int.toNat 40) l))) (List.take (Int.toNat 12) p) ++
                                                    textsV (List.drop 0 (List.take (Int.toNat m) (List.take (Int.toNat 40) l)))) +
                                                List.length (gtV was m (ofN (List.length (List.take (Int.toNat 40) l))) true (List.take (Int.toNat 12) q)) ≤
                                              ROOM ∧
                                            (List.length
                                                    (textsV (List.take (Int.toNat 40) l) ++ ptV leaf i (ofN (List.length (List.take (Int.toNat 40) l))) (List.take (Int.toNat 12) p) ++
                                                        textsV (List.drop 0 (List.take (Int.toNat m) (List.take (Int.toNat 40) l))) ++
                                                      gtV was m (ofN (List.length (List.take (Int.toNat 40) l))) true (List.take (Int.toNat 12) q)) ≤
                                                  1048576 ∧
                                                ∀ (t : List (BitVec 8)),
                                                  List.Mem t
                                                      (textsV (List.take (Int.toNat 40) l) ++ ptV leaf i (ofN (List.length (List.take (Int.toNat 40) l))) (List.take (Int.toNat 12) p) ++
                                                          textsV (List.drop 0 (List.take (Int.toNat m) (List.take (Int.toNat 40) l))) ++
                                                        gtV was m (ofN (List.length (List.take (Int.toNat 40) l))) true (List.take (Int.toNat 12) q)) →
                                                    List.length t ≤ 1000000) ∧
                                              (clashB
                                                    (textsV (List.take (Int.toNat 40) l) ++ ptV leaf i (ofN (List.length (List.take (Int.toNat 40) l))) (List.take (Int.toNat 12) p) ++
                                                        textsV (List.drop 0 (List.take (Int.toNat m) (List.take (Int.toNat 40) l))) ++
                                                      gtV was m (ofN (List.length (List.take (Int.toNat 40) l))) true (List.take (Int.toNat 12) q)) &&
                                                  true) =
                                                true) ∧
                                ((decide (0 ≤ m) && decide (m ≤ ofN (List.length (List.take (Int.toNat 40) l)))) = false →
                                  (List.length (textsV (List.take (Int.toNat 40) l) ++ ptV leaf i (ofN (List.length (List.take (Int.toNat 40) l))) (List.take (Int.toNat 12) p)) ≤ 1048576 ∧
                                      ∀ (t : List (BitVec 8)),
                                        List.Mem t (textsV (List.take (Int.toNat 40) l) ++ ptV leaf i (ofN (List.length (List.take (Int.toNat 40) l))) (List.take (Int.toNat 12) p)) →
                                          List.length t ≤ 1000000) ∧
                                    (clashB (textsV (List.take (Int.toNat 40) l) ++ ptV leaf i (ofN (List.length (List.take (Int.toNat 40) l))) (List.take (Int.toNat 12) p)) && true) = true)))) := by
  have hl0 : d32 (List.take (Int.toNat 40) l) := d32_take hl _
  have hp0 : d32 (List.take (Int.toNat 12) p) := d32_take hp _
  have hq0 : d32 (List.take (Int.toNat 12) q) := d32_take hq _
  have hll : (List.take (Int.toNat 40) l).length ≤ 40 := by rw [List.length_take]; exact Nat.min_le_left _ _
  have hpl : (List.take (Int.toNat 12) p).length ≤ 12 := by rw [List.length_take]; exact Nat.min_le_left _ _
  have hql : (List.take (Int.toNat 12) q).length ≤ 12 := by rw [List.length_take]; exact Nat.min_le_left _ _
  generalize List.take (Int.toNat 40) l = l at hl0 hll ⊢
  generalize List.take (Int.toNat 12) p = p at hp0 hpl ⊢
  generalize List.take (Int.toNat 12) q = q at hq0 hql ⊢
  have er : ∀ k : Nat, rootA (l.take k) = (rootV (l.take k), 0) := fun k => if_pos (by rw [List.length_take]; omega)
  have er0 : rootA l = (rootV l, 0) := if_pos (by omega)
  rw [List.drop_zero, er0, er]
  have tl := textsV_len l
  have pl := ptV_len leaf i (ofN l.length) p
  have gl := gtV_len was m (ofN l.length) true q
  have tm := textsV_mem _ l (Nat.le_refl _) hl0
  have pm : ∀ t ∈ ptV leaf i (ofN l.length) p, t.length ≤ 1000000 := ptV_mem hleaf hp0
  have gm : ∀ t ∈ gtV was m (ofN l.length) true q, t.length ≤ 1000000 := gtV_mem hwas hq0
  have t1 : (l.take m.toNat).length ≤ 40 := by rw [List.length_take]; omega
  have tl1 := textsV_len (l.take m.toNat)
  have tm1 := textsV_mem _ (l.take m.toNat) (Nat.le_refl _) (d32_take hl0 _)
  have r1 : (l.length < 1048577 ∧ l.length ≤ 1048576) := by omega
  have r2 : (p.length < 1048577 ∧ p.length ≤ 1048576 ∧ ofN l.length ≤ 1048576) := by unfold ofN; omega
  have r3 : (q.length < 1048577 ∧ q.length ≤ 1048576 ∧ ofN l.length ≤ 1048576) := by unfold ofN; omega
  have r4 : (textsV l).length + (ptV leaf i (ofN l.length) p).length ≤ ROOM := by unfold ROOM; omega
  have r5 : ((l.take m.toNat).length < 1048577 ∧ (l.take m.toNat).length ≤ 1048576) := by omega
  have r6 : (textsV l ++ ptV leaf i (ofN l.length) p).length + (textsV (l.take m.toNat)).length ≤ ROOM := by rw [List.length_append]; unfold ROOM; omega
  have r7 : (textsV l ++ ptV leaf i (ofN l.length) p ++ textsV (l.take m.toNat)).length + (gtV was m (ofN l.length) true q).length ≤ ROOM := by rw [List.length_append, List.length_append]; unfold ROOM; omega
  have r8 : (textsV l ++ ptV leaf i (ofN l.length) p ++ textsV (l.take m.toNat) ++ gtV was m (ofN l.length) true q).length ≤ 1048576 := by rw [List.length_append, List.length_append, List.length_append]; omega
  have r9 : ∀ t ∈ textsV l ++ ptV leaf i (ofN l.length) p, t.length ≤ 1000000 := fun t h => (List.mem_append.1 h).elim (tm t) (pm t)
  have r10 : ∀ t ∈ textsV l ++ ptV leaf i (ofN l.length) p ++ textsV (l.take m.toNat) ++ gtV was m (ofN l.length) true q, t.length ≤ 1000000 := fun t h =>
    (List.mem_append.1 h).elim (fun h => (List.mem_append.1 h).elim (r9 t) (tm1 t)) (gm t)
  have r11 : (textsV l ++ ptV leaf i (ofN l.length) p).length ≤ 1048576 := by rw [List.length_append]; omega
  have el : T.dflt (T.arr 32 T.u8) = T_Dig.dflt := rfl
  refine ⟨by decide, by decide, by decide, fun g => ?_, fun _ => ⟨fun g => ?_, fun g => ⟨?_, fun b => ?_, fun b => ?_⟩, fun g => ⟨fun b => ?_, fun b => ?_⟩⟩⟩
  · exfalso
    rw [Bool.or_eq_true, Bool.and_eq_true, Bool.or_eq_true, Bool.and_eq_true] at g
    rcases g with g | ⟨g0, g1 | ⟨g1, g2⟩⟩
    · cases g
    · rw [in_out (by omega)] at g1; cases g1
    · rw [grownB_out (by have : ¬ m = 0 := by simpa using g1
                         omega)] at g2; cases g2
  · rw [Bool.and_eq_true, decide_eq_true_eq, decide_eq_true_eq] at g
    unfold within; exact g
  · rw [Bool.and_eq_true, decide_eq_true_eq, decide_eq_true_eq] at g; exact g
  · rfl
  · rw [Bool.and_eq_true, decide_eq_true_eq, decide_eq_true_eq] at g
    refine ⟨r1, r2, r4, fun _ => ⟨g, r5, r6, r3, r7, ⟨r8, r10⟩, ?_⟩, fun c => ?_⟩
    · rw [Bool.and_true]
      rw [Bool.and_eq_false_iff, Bool.or_eq_false_iff, Bool.or_eq_false_iff] at b
      rcases b with ⟨b1, b2⟩ | ⟨b1, b2⟩
      · have hc := in_sound hl0 hleaf (by simpa using b2) (fun e => by
          rw [eqL_u8, el, e.2.2] at b1
          simp only [Bool.and_eq_false_iff, decide_eq_false_iff_not, beq_eq_false_iff_ne, ne_eq] at b1
          rcases b1 with (b1 | b1) | b1
          · exact b1 e.1
          · exact b1 e.2.1
          · exact b1 trivial)
        exact clash_mem (hc.more (fun x hx => by simp [hx]) (fun x hx => List.mem_append_left _ (List.mem_append_left _ (List.mem_append_right _ hx))))
      · have hc := grown_sound hl0 hq0 hwas g.1 g.2 (by simpa using b2) (by rw [eqL_u8] at b1; simpa using b1)
        exact clash_mem (hc.more (fun x hx => by simp [hx]) (fun x hx => List.mem_append_right _ hx))
    · rw [Bool.and_eq_false_iff, decide_eq_false_iff_not, decide_eq_false_iff_not] at c
      exact absurd g (by omega)
  · rfl
  · have g' := g
    rw [Bool.and_eq_false_iff, decide_eq_false_iff_not, decide_eq_false_iff_not] at g'
    have go : ¬ ((0 : Int) ≤ m ∧ m ≤ ofN l.length) := by omega
    refine ⟨r1, r2, r4, fun c => ?_, fun _ => ⟨⟨r11, r9⟩, ?_⟩⟩
    · rw [g] at c; cases c
    · rw [Bool.and_true]
      rw [grownB_out go, g] at b
      rw [Bool.and_eq_false_iff, Bool.or_eq_false_iff] at b
      rcases b with ⟨b1, b2⟩ | b1
      · have hc := in_sound hl0 hleaf (by simpa using b2) (fun e => by
          rw [eqL_u8, el, e.2.2] at b1
          simp only [Bool.and_eq_false_iff, decide_eq_false_iff_not, beq_eq_false_iff_ne, ne_eq] at b1
          rcases b1 with (b1 | b1) | b1
          · exact b1 e.1
          · exact b1 e.2.1
          · exact b1 trivial)
        exact clash_mem (hc.more (fun x hx => by simp [hx]) (fun x hx => by simp [hx]))
      · cases b1

theorem ref27_node_spec : Vse.Spec P f_ref27_node c_node :=
  spec_fn (l := []) trivial h_ref27_node rfl rfl fun x _ ok => body_ok an_none (ref27_node_vc x.1 x.2.1 ok.1.1 ok.2.1.1) (by kernel_rfl)

theorem ref27_Texts_spec : ∀ k, Vse.Spec P f_ref27_Texts (c_Texts k)
  | 0 => spec_fn (l := []) trivial h_ref27_Texts rfl rfl fun x h _ => absurd (got h).1 (Nat.not_lt_zero _)
  | k + 1 => spec_fn (l := [(f_ref27_part, c_first), (f_ref27_Texts, c_Texts k), (f_ref27_root, c_root 1048577), (f_ref27_node, c_node)]) ⟨ref27_part_spec, ref27_Texts_spec k, ref27_root_spec _, ref27_node_spec, trivial⟩
      h_ref27_Texts rfl rfl fun x h _ => body_ok an_none (ref27_Texts_vc k x.1 (got h).1 (got h).2) (by kernel_rfl)

theorem ref27_PathTexts_spec : ∀ k, Vse.Spec P f_ref27_PathTexts (c_PTexts k)
  | 0 => spec_fn (l := []) trivial h_ref27_PathTexts rfl rfl fun x h _ => absurd (got h).1 (Nat.not_lt_zero _)
  | k + 1 => spec_fn (l := [(f_ref27_part, c_first), (f_ref27_makes, c_made (fun _ => zero32) (LIM + 1)), (f_ref27_PathTexts, c_PTexts k), (f_ref27_node, c_node)]) ⟨ref27_part_spec, ref27_makes_spec _, ref27_PathTexts_spec k, ref27_node_spec, trivial⟩
      h_ref27_PathTexts rfl rfl fun x h _ => body_ok an_none (ref27_PathTexts_vc k x.1 x.2.1 x.2.2.1 x.2.2.2.1 (got h).1 (got h).2.1 (got h).2.2) (by kernel_rfl)

theorem ref27_GrowthTexts_spec : ∀ k, Vse.Spec P f_ref27_GrowthTexts (c_GTexts k)
  | 0 => spec_fn (l := []) trivial h_ref27_GrowthTexts rfl rfl fun x h _ => absurd (got h).1 (Nat.not_lt_zero _)
  | k + 1 => spec_fn (l := [(f_ref27_part, c_first), (f_ref27_both, c_both (LIM + 1)), (f_ref27_GrowthTexts, c_GTexts k), (f_ref27_node, c_node)]) ⟨ref27_part_spec, ref27_both_spec _, ref27_GrowthTexts_spec k, ref27_node_spec, trivial⟩
      h_ref27_GrowthTexts rfl rfl fun x h _ => body_ok an_none (ref27_GrowthTexts_vc k x.1 x.2.1 x.2.2.1 x.2.2.2.1 x.2.2.2.2.1 (got h).1 (got h).2.1 (got h).2.2) (by kernel_rfl)

theorem ref17_Clash_spec : Vse.Spec P f_ref17_Clash c_Clash :=
  spec_fn (l := [(f_ref03_Of, c_rOf)]) ⟨ref03_Of_spec, trivial⟩ h_ref17_Clash rfl rfl fun x h _ => body_ok (an_Clash x.1) (ref17_Clash_vc x.1 (got h).1 (got h).2) (by kernel_rfl)

theorem law27_MerkleSound_spec : Vse.Spec P f_law27_MerkleSound (c_law27 [.slc T_Dig, T_Dig, .i64, .slc T_Dig, T_Dig, .i64, .slc T_Dig]) :=
  spec_fn (l := [(f_law27_cut, c_cut27), (f_merkle_Root, c_Root), (f_merkle_In, c_In), (f_merkle_Grown, c_Grown), (f_ref27_Root, c_Root), (f_ref27_Texts, c_Texts 1048577), (f_ref27_PathTexts, c_PTexts 1048577), (f_ref27_GrowthTexts, c_GTexts 1048577), (f_ref17_Clash, c_Clash), (f_law27_alive, c_true27)])
    ⟨law27_cut_spec, merkle_Root_spec, merkle_In_spec, merkle_Grown_spec, ref27_Root_spec, ref27_Texts_spec _, ref27_PathTexts_spec _, ref27_GrowthTexts_spec _, ref17_Clash_spec, law27_alive_spec, trivial⟩ h_law27_MerkleSound rfl rfl
    fun x _ ok => body_ok an_none (law27_MerkleSound_vc x.1 x.2.1 x.2.2.1 x.2.2.2.1 x.2.2.2.2.1 x.2.2.2.2.2.1 x.2.2.2.2.2.2.1 (fun d h => (ok.1.2 d h).1) (fun d h => (ok.2.2.2.1.2 d h).1) (fun d h => (ok.2.2.2.2.2.2.1.2 d h).1) ok.2.1.1 ok.2.2.2.2.1.1) (by kernel_rfl)

end Go.Sal
