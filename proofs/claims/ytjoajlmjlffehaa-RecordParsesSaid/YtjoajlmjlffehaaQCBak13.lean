/- The laws of chapter 13 on Parse. -/
import Derived.Test.YtjoajlmjlffehaaQCEnd13
import Derived.Test.YtjoajlmjlffehaaQCRPar
set_option maxRecDepth 100000
namespace Go.Sal
open Go.Vse Go.Sal.Nm

theorem same_self (a : Rec) : sameV a a = true := by
  unfold sameV; simp

theorem law13_RecordParses_vc (b : Bytes) :
    (decide (3000 < ofN (List.length b)) = true →
        (ofN 0 ≤ 3000 ∧ 3000 ≤ ofN (List.length b)) ∧
          (sameV (parseV (List.drop 0 (List.take (Int.toNat 3000) b))).1 (parseR (List.drop 0 (List.take (Int.toNat 3000) b))).1 &&
                (parseV (List.drop 0 (List.take (Int.toNat 3000) b))).2 == (parseR (List.drop 0 (List.take (Int.toNat 3000) b))).2 &&
              true) =
            true) ∧
      (decide (3000 < ofN (List.length b)) = false → (sameV (parseV b).1 (parseR b).1 && (parseV b).2 == (parseR b).2 && true) = true) := by
  have h : ∀ c : Bytes, (sameV (parseV c).1 (parseR c).1 && (parseV c).2 == (parseR c).2 && true) = true := fun c => by
    rw [parse_same, same_self]; simp
  refine ⟨fun g => ⟨⟨by decide, ?_⟩, h _⟩, fun _ => h b⟩
  have g := of_decide_eq_true g
  exact Int.le_of_lt g

theorem law13_RecordBack_vc (r : Rec) (b : Bytes) (hp : r.2.2.1.length = 32) (hd : ∀ p ∈ r.2.2.2.2.2.2, p.1.length = 32) :
    (decide (3000 < ofN (List.length b)) = true →
        (ofN 0 ≤ 3000 ∧ 3000 ≤ ofN (List.length b)) ∧
          (((bytesV (cutV r)).2 == 0) = true →
              (((parseV (bytesV (cutV r)).1).2 != 0 || !sameV (parseV (bytesV (cutV r)).1).1 (cutV r)) = true → false = true) ∧
                (((parseV (bytesV (cutV r)).1).2 != 0 || !sameV (parseV (bytesV (cutV r)).1).1 (cutV r)) = false →
                  (((parseV (List.drop 0 (List.take (Int.toNat 3000) b))).2 != 0) = true →
                      (sameV (parseV (List.drop 0 (List.take (Int.toNat 3000) b))).1 (ofN 0, ofN 0, List.replicate 32 0#8, ofN 0, ofN 0, nilOf (BitVec 8), nilOf (T.den (T.pair (T.arr 32 T.u8) T.i64))) &&
                          true) =
                        true) ∧
                    (((parseV (List.drop 0 (List.take (Int.toNat 3000) b))).2 != 0) = false →
                      ((bytesV (parseV (List.drop 0 (List.take (Int.toNat 3000) b))).1).2 == 0 &&
                            (bytesV (parseV (List.drop 0 (List.take (Int.toNat 3000) b))).1).1 == List.drop 0 (List.take (Int.toNat 3000) b) &&
                          true) =
                        true))) ∧
            (((bytesV (cutV r)).2 == 0) = false →
              (((parseV (List.drop 0 (List.take (Int.toNat 3000) b))).2 != 0) = true →
                  (sameV (parseV (List.drop 0 (List.take (Int.toNat 3000) b))).1 (ofN 0, ofN 0, List.replicate 32 0#8, ofN 0, ofN 0, nilOf (BitVec 8), nilOf (T.den (T.pair (T.arr 32 T.u8) T.i64))) &&
                      true) =
                    true) ∧
                (((parseV (List.drop 0 (List.take (Int.toNat 3000) b))).2 != 0) = false →
                  ((bytesV (parseV (List.drop 0 (List.take (Int.toNat 3000) b))).1).2 == 0 &&
                        (bytesV (parseV (List.drop 0 (List.take (Int.toNat 3000) b))).1).1 == List.drop 0 (List.take (Int.toNat 3000) b) &&
                      true) =
                    true))) ∧
      (decide (3000 < ofN (List.length b)) = false →
        (((bytesV (cutV r)).2 == 0) = true →
            (((parseV (bytesV (cutV r)).1).2 != 0 || !sameV (parseV (bytesV (cutV r)).1).1 (cutV r)) = true → false = true) ∧
              (((parseV (bytesV (cutV r)).1).2 != 0 || !sameV (parseV (bytesV (cutV r)).1).1 (cutV r)) = false →
                (((parseV b).2 != 0) = true → (sameV (parseV b).1 (ofN 0, ofN 0, List.replicate 32 0#8, ofN 0, ofN 0, nilOf (BitVec 8), nilOf (T.den (T.pair (T.arr 32 T.u8) T.i64))) && true) = true) ∧
                  (((parseV b).2 != 0) = false → ((bytesV (parseV b).1).2 == 0 && (bytesV (parseV b).1).1 == b && true) = true))) ∧
          (((bytesV (cutV r)).2 == 0) = false →
            (((parseV b).2 != 0) = true → (sameV (parseV b).1 (ofN 0, ofN 0, List.replicate 32 0#8, ofN 0, ofN 0, nilOf (BitVec 8), nilOf (T.den (T.pair (T.arr 32 T.u8) T.i64))) && true) = true) ∧
              (((parseV b).2 != 0) = false → ((bytesV (parseV b).1).2 == 0 && (bytesV (parseV b).1).1 == b && true) = true))) := by
  have hb : ∀ c : Bytes, (((parseV c).2 != 0) = true → (sameV (parseV c).1 rec0 && true) = true) ∧ (((parseV c).2 != 0) = false → ((bytesV (parseV c).1).2 == 0 && (bytesV (parseV c).1).1 == c && true) = true) := fun c => by
    rcases parse_cases c with ⟨e, h1, h2⟩ | ⟨h1, h2⟩
    · rw [h1]
      refine ⟨fun _ => by rw [same_self]; rfl, fun g => ?_⟩
      exact absurd (eqN g) h2
    · rw [h1]
      refine ⟨fun g => by simp at g, fun _ => ?_⟩
      simp only [h2]
      simp
  have hr : ((bytesV (cutV r)).2 == 0) = true → ¬ ((parseV (bytesV (cutV r)).1).2 != 0 || !sameV (parseV (bytesV (cutV r)).1).1 (cutV r)) = true := fun g => by
    have g := eqI g
    have hc : checkV (cutV r) = 0 := by
      by_cases hc : checkV (cutV r) = 0
      · exact hc
      · rw [bytesV_bad hc] at g; exact absurd g hc
    rw [bytesV_ok hc, parse_back hc hp (fun p h => hd p (List.mem_of_mem_take h)), same_self]
    exact fun h => Bool.noConfusion h
  have key : ∀ c : Bytes, (((bytesV (cutV r)).2 == 0) = true →
        (((parseV (bytesV (cutV r)).1).2 != 0 || !sameV (parseV (bytesV (cutV r)).1).1 (cutV r)) = true → false = true) ∧
          (((parseV (bytesV (cutV r)).1).2 != 0 || !sameV (parseV (bytesV (cutV r)).1).1 (cutV r)) = false →
            (((parseV c).2 != 0) = true → (sameV (parseV c).1 rec0 && true) = true) ∧ (((parseV c).2 != 0) = false → ((bytesV (parseV c).1).2 == 0 && (bytesV (parseV c).1).1 == c && true) = true))) ∧
      (((bytesV (cutV r)).2 == 0) = false → (((parseV c).2 != 0) = true → (sameV (parseV c).1 rec0 && true) = true) ∧ (((parseV c).2 != 0) = false → ((bytesV (parseV c).1).2 == 0 && (bytesV (parseV c).1).1 == c && true) = true)) :=
    fun c => ⟨fun g => ⟨fun q => absurd q (hr g), fun _ => hb c⟩, fun _ => hb c⟩
  refine ⟨fun g => ⟨⟨by decide, ?_⟩, key _⟩, fun _ => key b⟩
  have g := of_decide_eq_true g
  exact Int.le_of_lt g

theorem law13_RecordParses_spec : Vse.Spec P f_law13_RecordParses (c_law [.slc .u8]) :=
  spec_fn (l := [(f_record_Parse, c_Parse), (f_ref13_Parse, c_rParse), (f_ref13_Same, c_Same), (f_law13_alive, c_true)]) ⟨record_Parse_spec, ref13_Parse_spec, ref13_Same_spec, law13_alive_spec, trivial⟩ h_law13_RecordParses rfl rfl
    fun x _ _ => body_ok an_none (law13_RecordParses_vc x.1) (by kernel_rfl)

theorem law13_RecordBack_spec : Vse.Spec P f_law13_RecordBack (c_law [T_Rec, .slc .u8]) :=
  spec_fn (l := [(f_law13_cut, c_cut), (f_record_Bytes, c_Bytes), (f_record_Parse, c_Parse), (f_ref13_Same, c_Same), (f_law13_alive, c_true)]) ⟨law13_cut_spec, record_Bytes_spec, record_Parse_spec, ref13_Same_spec, law13_alive_spec, trivial⟩ h_law13_RecordBack rfl rfl
    fun x _ ok => body_ok an_none (law13_RecordBack_vc x.1 x.2.1 ok.1.2.2.1.1 (fun p h => (ok.1.2.2.2.2.2.2.2 p h).1.1)) (by kernel_rfl)

end Go.Sal
