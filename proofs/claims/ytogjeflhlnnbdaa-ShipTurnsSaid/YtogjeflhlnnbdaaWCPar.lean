/- Contracts of record: the record of bytes. -/
import Derived.Test.YtogjeflhlnnbdaaWCRec
import Derived.Test.YtogjeflhlnnbdaaWSalMac
set_option maxRecDepth 100000
namespace Go.Sal
open Go.Vse Go.Sal.Nm

abbrev T_Left : T := .slc .u8
abbrev x_fault : Value := .iface t_record_fault (.agg #[])

def c_ltake : PC := M T_Left [.i64] [.slc .u8] (fun s x => some (okTake x.1 s = true)) (fun s x => (s.drop x.1.toNat, s.take x.1.toNat, ()))
def c_dltake : DC := dMt x_fault T_Left [.i64] (fun s x => leP 0 x.1 ∧ okTake x.1 s = false)
def c_byte : PC := M T_Left [] [.i64] (fun s _ => some (okByte s = true)) (fun s _ => (offByte s, valByte s, ()))
def c_dbyte : DC := dMt x_fault T_Left [] (fun s _ => okByte s = false)
def c_num : PC := M T_Left [] [.i64] (fun s _ => some (okNum s = true)) (fun s _ => (offNum s, valNum s, ()))
def c_dnum : DC := dMt x_fault T_Left [] (fun s _ => okNum s = false)
def c_dig : PC := M T_Left [] [T_Dig] (fun s _ => some (okDig s = true)) (fun s _ => (offDig s, valDig s, ()))
def c_ddig : DC := dMt x_fault T_Left [] (fun s _ => okDig s = false)
def c_rrec : PC := M T_Left [] [T_Rec] (fun s _ => some (okRec s = true)) (fun s _ => (restP s, recP s, ()))
def c_drec : DC := dMt x_fault T_Left [] (fun s _ => okRec s = false)

theorem eqI {x y : Int} (h : (x == y) = true) : x = y := by simpa using h
theorem neI {x y : Int} (h : (x == y) = false) : ¬ x = y := by simpa using h
theorem eqN {x y : Int} (h : (x != y) = false) : x = y := by simpa using h
theorem neN {x y : Int} (h : (x != y) = true) : ¬ x = y := by simpa using h
theorem nf {b : Bool} (h : b = false → False) : b = true := by
 cases b with
 | true => rfl
 | false => exact (h rfl).elim
theorem nb {b : Bool} (h1 : b = true) (h2 : b = false) : False := by rw [h1] at h2; cases h2

theorem record_take_vc (s : Bytes) (n : Int) (h : okTake n s = true) :
 (decide (ofN (List.length s) < n) = true → (True → False) ∧ ((True → False) → False)) ∧
  (decide (ofN (List.length s) < n) = false →
  ((0 ≤ n ∧ n ≤ ofN (List.length s)) ∧ n = ofN (Int.toNat n)) ∧
  (0 ≤ n ∧ n ≤ ofN (List.length s)) ∧ List.drop 0 (List.take (Int.toNat n) s) = List.take (Int.toNat n) s ∧ List.drop (Int.toNat n) (List.take (List.length s) s) = List.drop (Int.toNat n) s) := by
 unfold okTake at h
 simp only [Bool.and_eq_true, decide_eq_true_eq] at h
 obtain ⟨h0, h1⟩ := h
 refine ⟨fun g => ?_, fun _ => ⟨⟨⟨h0, h1⟩, by unfold ofN; omega⟩, ⟨h0, h1⟩, by rw [List.drop_zero], by rw [List.take_length]⟩⟩
 have g := of_decide_eq_true g
 exact absurd h1 (by unfold ofN at g; omega)

theorem record_dtake_vc (s : Bytes) (n : Int) (h0 : 0 ≤ n) (h : okTake n s = false) :
 (decide (ofN (List.length s) < n) = true → (True → true = true) ∧ ((True → False) → False)) ∧
  (decide (ofN (List.length s) < n) = false → ((0 ≤ n ∧ n ≤ ofN (List.length s)) ∧ n = ofN (Int.toNat n)) ∧ (0 ≤ n ∧ n ≤ ofN (List.length s)) ∧ False) := by
 unfold okTake at h
 rw [decide_eq_true h0, Bool.true_and] at h
 have h := of_decide_eq_false h
 refine ⟨fun _ => ⟨fun _ => rfl, fun g => (g trivial).elim⟩, fun g => ?_⟩
 have g := of_decide_eq_false g
 exact absurd g (by unfold ofN; omega)

theorem record_byte_vc (s : Bytes) (h : okByte s = true) :
 (ofN 0 ≤ 1 ∧ okTake 1 s = false → False) ∧
  ((ofN 0 ≤ 1 ∧ okTake 1 s = false → False) →
  okTake 1 s = true ∧
  within 0 (List.length (List.take (Int.toNat 1) s)) ∧ ofN (BitVec.toNat (List.getD (List.take (Int.toNat 1) s) (Int.toNat 0) 0#8)) = valByte s ∧ List.drop (Int.toNat 1) s = offByte s) := by
 have h1 : 1 ≤ s.length := of_decide_eq_true h
 have ht : okTake 1 s = true := by unfold okTake; simp only [Bool.and_eq_true, decide_eq_true_eq]; omega
 refine ⟨fun g => absurd g.2 (by rw [ht]; decide), fun _ => ⟨ht, ?_, ?_, rfl⟩⟩
 · rw [List.length_take]; unfold within; omega
 · cases s with
   | nil => simp at h1
   | cons a r => rfl

theorem record_dbyte_vc (s : Bytes) (h : okByte s = false) :
 (ofN 0 ≤ 1 ∧ okTake 1 s = false → true = true) ∧ ((ofN 0 ≤ 1 ∧ okTake 1 s = false → False) → okTake 1 s = true ∧ within 0 (List.length (List.take (Int.toNat 1) s)) ∧ False) := by
 have h1 : ¬ 1 ≤ s.length := of_decide_eq_false h
 have ht : okTake 1 s = false := by
  unfold okTake
  rw [Bool.and_eq_false_iff]
  exact .inr (decide_eq_false (by omega))
 exact ⟨fun _ => rfl, fun g => absurd (g ⟨by decide, ht⟩) id⟩

theorem record_num_vc (s : Bytes) (h : okNum s = true) :
 ((ofN (readN s 0 0).2.2 != 0 || decide (1073741824#64 < BitVec.ofNat 64 (readN s 0 0).1)) = true → (True → False) ∧ ((True → False) → False)) ∧
  ((ofN (readN s 0 0).2.2 != 0 || decide (1073741824#64 < BitVec.ofNat 64 (readN s 0 0).1)) = false →
  (0 ≤ ofN (readN s 0 0).2.1 ∧ okTake (ofN (readN s 0 0).2.1) s = false → False) ∧
  ((0 ≤ ofN (readN s 0 0).2.1 ∧ okTake (ofN (readN s 0 0).2.1) s = false → False) →
  okTake (ofN (readN s 0 0).2.1) s = true ∧ BitVec.toInt (BitVec.setWidth 64 (BitVec.ofNat 64 (readN s 0 0).1)) = valNum s ∧ List.drop (Int.toNat (ofN (readN s 0 0).2.1)) s = offNum s)) := by
 unfold okNum at h
 simp only [Bool.and_eq_true, decide_eq_true_eq] at h
 obtain ⟨h1, h2⟩ := h
 have hl := readP_le s 0 0
 have ht : okTake (ofN (readN s 0 0).2.1) s = true := by unfold okTake ofN; simp only [Bool.and_eq_true, decide_eq_true_eq]; omega
 have hc : ¬ (ofN (readN s 0 0).2.2 != 0 || decide (1073741824#64 < BitVec.ofNat 64 (readN s 0 0).1)) = true := by
  rw [h1, Bool.or_eq_true]
  rintro (g | g)
  · cases g
  · have g := of_decide_eq_true g
    rw [BitVec.lt_def] at g
    have e : (1073741824#64).toNat = 1073741824 := rfl
    omega
 refine ⟨fun g => absurd g hc, fun _ => ⟨fun g => absurd g.2 (by rw [ht]; decide), fun _ => ⟨ht, ?_, rfl⟩⟩⟩
 rw [BitVec.setWidth_eq, BitVec.toInt_eq_toNat_cond, if_pos (by omega)]
 rfl

theorem record_dnum_vc (s : Bytes) (h : okNum s = false) :
 ((ofN (readN s 0 0).2.2 != 0 || decide (1073741824#64 < BitVec.ofNat 64 (readN s 0 0).1)) = true → (True → true = true) ∧ ((True → False) → False)) ∧
  ((ofN (readN s 0 0).2.2 != 0 || decide (1073741824#64 < BitVec.ofNat 64 (readN s 0 0).1)) = false →
  (0 ≤ ofN (readN s 0 0).2.1 ∧ okTake (ofN (readN s 0 0).2.1) s = false → true = true) ∧
  ((0 ≤ ofN (readN s 0 0).2.1 ∧ okTake (ofN (readN s 0 0).2.1) s = false → False) → okTake (ofN (readN s 0 0).2.1) s = true ∧ False)) := by
 refine ⟨fun _ => ⟨fun _ => rfl, fun g => (g trivial).elim⟩, fun g => ?_⟩
 exfalso
 rw [Bool.or_eq_false_iff] at g
 obtain ⟨g1, g2⟩ := g
 have g2 := of_decide_eq_false g2
 rw [BitVec.lt_def] at g2
 have e : (1073741824#64).toNat = 1073741824 := rfl
 have g1 : (readN s 0 0).2.2 = 0 := by
  simp only [bne_eq_false_iff_eq] at g1
  unfold ofN at g1; omega
 unfold okNum at h
 rw [decide_eq_true g1, Bool.true_and] at h
 exact absurd (of_decide_eq_false h) (by omega)

theorem record_dig_vc (s : Bytes) (h : okDig s = true) :
 (ofN 0 ≤ 32 ∧ okTake 32 s = false → False) ∧
  ((ofN 0 ≤ 32 ∧ okTake 32 s = false → False) →
  okTake 32 s = true ∧ 32 ≤ List.length (List.take (Int.toNat 32) s) ∧ List.take 32 (List.take (Int.toNat 32) s) = valDig s ∧ List.drop (Int.toNat 32) s = offDig s) := by
 have h1 : 32 ≤ s.length := of_decide_eq_true h
 have ht : okTake 32 s = true := by unfold okTake; simp only [Bool.and_eq_true, decide_eq_true_eq]; omega
 refine ⟨fun g => absurd g.2 (by rw [ht]; decide), fun _ => ⟨ht, ?_, ?_, rfl⟩⟩
 · show 32 ≤ (List.take 32 s).length
   rw [List.length_take]; omega
 · show List.take 32 (List.take 32 s) = List.take 32 s
   rw [List.take_take]; rfl

theorem record_ddig_vc (s : Bytes) (h : okDig s = false) :
 (ofN 0 ≤ 32 ∧ okTake 32 s = false → true = true) ∧ ((ofN 0 ≤ 32 ∧ okTake 32 s = false → False) → okTake 32 s = true ∧ 32 ≤ List.length (List.take (Int.toNat 32) s) ∧ False) := by
 have h1 : ¬ 32 ≤ s.length := of_decide_eq_false h
 have ht : okTake 32 s = false := by
  unfold okTake
  rw [Bool.and_eq_false_iff]
  exact .inr (decide_eq_false (by omega))
 exact ⟨fun _ => rfl, fun g => absurd (g ⟨by decide, ht⟩) id⟩

def an_rec (s : Bytes) : Nat → SState → Option LoopAnn
 | 14, S => some { X := Nat, slots := fun i => [(49, .sv (.dv (.i64 i)))], objs := fun i => [(1, .cells (ofRuns (enc T_Left (piesS (at8 s) i).2)) false), (x_labAt S 3, .cells [.run (.one (.i64 (valNum (at2 s)))), .run (.one (.i64 (valNum (at3 s)))), .run (.many .u8 32 (valDig (at4 s))), .run (.one (.i64 (kindP s))), .run (.one (.i64 0)), .run (.one (.str (pathP s))), .own 10 T_Pie (piesS (at8 s) i).1] false), (10, .tok t_api_Piece 33)], inv := fun i => i ≤ (valNum (at7 s)).toNat ∧ okPies (at8 s) i = true, meas := fun i => (valNum (at7 s)).toNat - i }
 | _, _ => none

theorem record_rrec_vc (s : Bytes) (h : okRec s = true) :
 (okByte s = false → False) ∧
  ((okByte s = false → False) →
  okByte s = true ∧
  ((valByte s != 82) = true → (True → False) ∧ ((True → False) → False)) ∧
  ((valByte s != 82) = false →
  (okByte (offByte s) = false → False) ∧
  ((okByte (offByte s) = false → False) →
  okByte (offByte s) = true ∧
  (okNum (offByte (offByte s)) = false → False) ∧
  ((okNum (offByte (offByte s)) = false → False) →
  okNum (offByte (offByte s)) = true ∧
  (okNum (offNum (offByte (offByte s))) = false → False) ∧
  ((okNum (offNum (offByte (offByte s))) = false → False) →
  okNum (offNum (offByte (offByte s))) = true ∧
  (okDig (offNum (offNum (offByte (offByte s)))) = false → False) ∧
  ((okDig (offNum (offNum (offByte (offByte s)))) = false → False) →
  okDig (offNum (offNum (offByte (offByte s)))) = true ∧
  ((valByte (offByte s) == 1) = true →
  (okByte (offDig (offNum (offNum (offByte (offByte s))))) = false → False) ∧
  ((okByte (offDig (offNum (offNum (offByte (offByte s))))) = false → False) →
  okByte (offDig (offNum (offNum (offByte (offByte s))))) = true ∧
  (valNum (offByte (offByte s)) = (recP s).1 ∧
  valNum (offNum (offByte (offByte s))) = (recP s).2.1 ∧
  valDig (offNum (offNum (offByte (offByte s)))) = (recP s).2.2.1 ∧
  valByte (offByte s) = (recP s).2.2.2.1 ∧
  valByte (offDig (offNum (offNum (offByte (offByte s))))) = (recP s).2.2.2.2.1 ∧
  nilOf (BitVec 8) = (recP s).2.2.2.2.2.1 ∧ nilOf (T.den (T.pair (T.arr 32 T.u8) T.i64)) = (recP s).2.2.2.2.2.2) ∧
  offByte (offDig (offNum (offNum (offByte (offByte s))))) = restP s)) ∧
  ((valByte (offByte s) == 1) = false →
  ((okByte (offDig (offNum (offNum (offByte (offByte s))))) = false → False) ∧
  ((okByte (offDig (offNum (offNum (offByte (offByte s))))) = false → False) → okByte (offDig (offNum (offNum (offByte (offByte s))))) = true ∧ True)) ∧
  ((0 ≤ valByte (offDig (offNum (offNum (offByte (offByte s))))) ∧
  okTake (valByte (offDig (offNum (offNum (offByte (offByte s)))))) (offByte (offDig (offNum (offNum (offByte (offByte s)))))) = false →
  False) ∧
  ((0 ≤ valByte (offDig (offNum (offNum (offByte (offByte s))))) ∧
  okTake (valByte (offDig (offNum (offNum (offByte (offByte s)))))) (offByte (offDig (offNum (offNum (offByte (offByte s)))))) = false →
  False) →
  okTake (valByte (offDig (offNum (offNum (offByte (offByte s)))))) (offByte (offDig (offNum (offNum (offByte (offByte s)))))) = true ∧ True)) ∧
  ((0 ≤ valByte (offDig (offNum (offNum (offByte (offByte s))))) ∧
  okTake (valByte (offDig (offNum (offNum (offByte (offByte s)))))) (offByte (offDig (offNum (offNum (offByte (offByte s)))))) = false →
  False) →
  (okByte (offDig (offNum (offNum (offByte (offByte s))))) = false → False) →
  ((valByte (offByte s) != 2) = true →
  (valNum (offByte (offByte s)) = (recP s).1 ∧
  valNum (offNum (offByte (offByte s))) = (recP s).2.1 ∧
  valDig (offNum (offNum (offByte (offByte s)))) = (recP s).2.2.1 ∧
  valByte (offByte s) = (recP s).2.2.2.1 ∧
  ofN 0 = (recP s).2.2.2.2.1 ∧
  List.take (Int.toNat (valByte (offDig (offNum (offNum (offByte (offByte s)))))))
  (offByte (offDig (offNum (offNum (offByte (offByte s)))))) =
  (recP s).2.2.2.2.2.1 ∧
  nilOf (T.den (T.pair (T.arr 32 T.u8) T.i64)) = (recP s).2.2.2.2.2.2) ∧
  List.drop (Int.toNat (valByte (offDig (offNum (offNum (offByte (offByte s))))))) (offByte (offDig (offNum (offNum (offByte (offByte s)))))) =
  restP s) ∧
  ((valByte (offByte s) != 2) = false →
  (okNum (List.drop (Int.toNat (valByte (offDig (offNum (offNum (offByte (offByte s))))))) (offByte (offDig (offNum (offNum (offByte (offByte s))))))) =
  false →
  False) ∧
  ((okNum
  (List.drop (Int.toNat (valByte (offDig (offNum (offNum (offByte (offByte s)))))))
  (offByte (offDig (offNum (offNum (offByte (offByte s))))))) =
  false →
  False) →
  okNum
  (List.drop (Int.toNat (valByte (offDig (offNum (offNum (offByte (offByte s)))))))
  (offByte (offDig (offNum (offNum (offByte (offByte s))))))) =
  true ∧
  (∃ (x : Nat),
  (x ≤ Int.toNat (valNum (at7 s)) ∧ okPies (at8 s) x = true) ∧
  0 = ofN x ∧
  offNum
  (List.drop (Int.toNat (valByte (offDig (offNum (offNum (offByte (offByte s)))))))
  (offByte (offDig (offNum (offNum (offByte (offByte s))))))) =
  (piesS (at8 s) x).2 ∧
  valNum (offByte (offByte s)) = valNum (at2 s) ∧
  valNum (offNum (offByte (offByte s))) = valNum (at3 s) ∧
  valDig (offNum (offNum (offByte (offByte s)))) = valDig (at4 s) ∧
  valByte (offByte s) = kindP s ∧
  ofN 0 = 0 ∧
  List.take (Int.toNat (valByte (offDig (offNum (offNum (offByte (offByte s)))))))
  (offByte (offDig (offNum (offNum (offByte (offByte s)))))) =
  pathP s ∧
  (piesS (at8 s) x).1 = nilOf (T.den (T.pair (T.arr 32 T.u8) T.i64))) ∧
  ∀ (x : Nat),
  x ≤ Int.toNat (valNum (at7 s)) ∧ okPies (at8 s) x = true →
  (decide
  (ofN x <
  valNum
  (List.drop (Int.toNat (valByte (offDig (offNum (offNum (offByte (offByte s)))))))
  (offByte (offDig (offNum (offNum (offByte (offByte s)))))))) =
  true →
  (okNum (piesS (at8 s) x).2 = false → False) ∧
  ((okNum (piesS (at8 s) x).2 = false → False) →
  okNum (piesS (at8 s) x).2 = true ∧
  ((okDig (offNum (piesS (at8 s) x).2) = false → False) ∧
  ((okDig (offNum (piesS (at8 s) x).2) = false → False) → okDig (offNum (piesS (at8 s) x).2) = true ∧ True)) ∧
  List.length (piesS (at8 s) x).1 + List.length [(valDig (offNum (piesS (at8 s) x).2), valNum (piesS (at8 s) x).2)] ≤ ROOM ∧
  ((okDig (offNum (piesS (at8 s) x).2) = false → False) →
  inI64 (ofN x + 1) ∧
  ∃ (x' : Nat),
  (x' ≤ Int.toNat (valNum (at7 s)) ∧ okPies (at8 s) x' = true) ∧
  Int.toNat (valNum (at7 s)) - x' < Int.toNat (valNum (at7 s)) - x ∧
  ofN x + 1 = ofN x' ∧
  offDig (offNum (piesS (at8 s) x).2) = (piesS (at8 s) x').2 ∧
  valNum (at2 s) = valNum (at2 s) ∧
  valNum (at3 s) = valNum (at3 s) ∧
  valDig (at4 s) = valDig (at4 s) ∧
  kindP s = kindP s ∧
  ofN 0 = 0 ∧
  pathP s = pathP s ∧
  (piesS (at8 s) x).1 ++ [(valDig (offNum (piesS (at8 s) x).2), valNum (piesS (at8 s) x).2)] =
  (piesS (at8 s) x').1))) ∧
  (decide
  (ofN x <
  valNum
  (List.drop (Int.toNat (valByte (offDig (offNum (offNum (offByte (offByte s)))))))
  (offByte (offDig (offNum (offNum (offByte (offByte s)))))))) =
  false →
  (valNum (at2 s) = (recP s).1 ∧
  valNum (at3 s) = (recP s).2.1 ∧
  valDig (at4 s) = (recP s).2.2.1 ∧
  kindP s = (recP s).2.2.2.1 ∧
  0 = (recP s).2.2.2.2.1 ∧ pathP s = (recP s).2.2.2.2.2.1 ∧ (piesS (at8 s) x).1 = (recP s).2.2.2.2.2.2) ∧
  (piesS (at8 s) x).2 = restP s))))))))))) := by
 obtain ⟨h1, h2, h3, h4, h5, h6, h7, h8⟩ := okRec_parts h
 refine ⟨nb h1, fun _ => ⟨h1, fun g => ?_, fun _ => ⟨nb h3, fun _ => ⟨h3, nb h4, fun _ => ⟨h4, nb h5, fun _ => ⟨h5, nb h6, fun _ => ⟨h6, fun k => ?_, fun k => ?_⟩⟩⟩⟩⟩⟩⟩
 · rw [h2] at g; cases g
 · have k : kindP s = 1 := eqI k
   refine ⟨nb h7, fun _ => ⟨h7, ?_, ?_⟩⟩
   · rw [recP, if_pos k]
     exact ⟨rfl, rfl, rfl, rfl, rfl, rfl, rfl⟩
   · rw [restP, if_pos k]; rfl
 · have k : ¬ kindP s = 1 := neI k
   obtain ⟨t1, t2⟩ := h8 k
   have hv : 0 ≤ valByte (at5 s) := Int.natCast_nonneg _
   refine ⟨⟨nb h7, fun _ => ⟨h7, trivial⟩⟩, ⟨fun g => nb t1 g.2, fun _ => ⟨t1, trivial⟩⟩, fun _ _ => ⟨fun q => ?_, fun q => ?_⟩⟩
   · have q : ¬ kindP s = 2 := neN q
     rw [recP, restP, if_neg k, if_neg q, if_neg k, if_neg q]
     exact ⟨⟨rfl, rfl, rfl, rfl, rfl, rfl, rfl⟩, rfl⟩
   · have q : kindP s = 2 := eqN q
     obtain ⟨t3, t4⟩ := t2 q
     refine ⟨nb t3, fun _ => ⟨t3, ⟨0, ⟨by omega, rfl⟩, rfl, rfl, rfl, rfl, rfl, rfl, rfl, rfl, rfl⟩, fun x ⟨x1, x2⟩ => ⟨fun g => ?_, fun g => ?_⟩⟩⟩
     · have g : (ofN x < valNum (at7 s)) := of_decide_eq_true g
       have hx : x < (valNum (at7 s)).toNat := by unfold ofN at g; omega
       have hb := valNum_le t3
       have hok := okPies_lt t4 hx
       have h9 : okPies (at8 s) (x + 1) = true := okPies_le t4 hx
       have hlen := pies_length (at8 s) x
       refine ⟨nb hok.1, fun _ => ⟨hok.1, ⟨nb hok.2, fun _ => ⟨hok.2, trivial⟩⟩, ?_, fun _ => ⟨by unfold inI64 ofN; omega, x + 1, ⟨by omega, h9⟩, by omega, rfl, rfl, rfl, rfl, rfl, rfl, rfl, rfl, rfl⟩⟩⟩
       rw [hlen]; simp only [List.length_cons, List.length_nil]; unfold ROOM; omega
     · have g : ¬ (ofN x < valNum (at7 s)) := of_decide_eq_false g
       have hx : x = (valNum (at7 s)).toNat := by unfold ofN at g; omega
       rw [hx, recP, restP, if_neg k, if_pos q, if_neg k, if_pos q]
       exact ⟨⟨rfl, rfl, rfl, rfl, rfl, rfl, rfl⟩, rfl⟩

theorem record_drec_vc (s : Bytes) (h : okRec s = false) :
 (okByte s = false → true = true) ∧
  ((okByte s = false → False) →
  okByte s = true ∧
  ((valByte s != 82) = true → (True → true = true) ∧ ((True → False) → False)) ∧
  ((valByte s != 82) = false →
  (okByte (offByte s) = false → true = true) ∧
  ((okByte (offByte s) = false → False) →
  okByte (offByte s) = true ∧
  (okNum (offByte (offByte s)) = false → true = true) ∧
  ((okNum (offByte (offByte s)) = false → False) →
  okNum (offByte (offByte s)) = true ∧
  (okNum (offNum (offByte (offByte s))) = false → true = true) ∧
  ((okNum (offNum (offByte (offByte s))) = false → False) →
  okNum (offNum (offByte (offByte s))) = true ∧
  (okDig (offNum (offNum (offByte (offByte s)))) = false → true = true) ∧
  ((okDig (offNum (offNum (offByte (offByte s)))) = false → False) →
  okDig (offNum (offNum (offByte (offByte s)))) = true ∧
  ((valByte (offByte s) == 1) = true →
  (okByte (offDig (offNum (offNum (offByte (offByte s))))) = false → true = true) ∧
  ((okByte (offDig (offNum (offNum (offByte (offByte s))))) = false → False) → okByte (offDig (offNum (offNum (offByte (offByte s))))) = true ∧ False)) ∧
  ((valByte (offByte s) == 1) = false →
  ((okByte (offDig (offNum (offNum (offByte (offByte s))))) = false → true = true) ∧
  ((okByte (offDig (offNum (offNum (offByte (offByte s))))) = false → False) → okByte (offDig (offNum (offNum (offByte (offByte s))))) = true ∧ True)) ∧
  ((0 ≤ valByte (offDig (offNum (offNum (offByte (offByte s))))) ∧
  okTake (valByte (offDig (offNum (offNum (offByte (offByte s)))))) (offByte (offDig (offNum (offNum (offByte (offByte s)))))) = false →
  true = true) ∧
  ((0 ≤ valByte (offDig (offNum (offNum (offByte (offByte s))))) ∧
  okTake (valByte (offDig (offNum (offNum (offByte (offByte s)))))) (offByte (offDig (offNum (offNum (offByte (offByte s)))))) = false →
  False) →
  okTake (valByte (offDig (offNum (offNum (offByte (offByte s)))))) (offByte (offDig (offNum (offNum (offByte (offByte s)))))) = true ∧ True)) ∧
  ((0 ≤ valByte (offDig (offNum (offNum (offByte (offByte s))))) ∧
  okTake (valByte (offDig (offNum (offNum (offByte (offByte s)))))) (offByte (offDig (offNum (offNum (offByte (offByte s)))))) = false →
  False) →
  (okByte (offDig (offNum (offNum (offByte (offByte s))))) = false → False) →
  ((valByte (offByte s) != 2) = true → False) ∧
  ((valByte (offByte s) != 2) = false →
  (okNum (List.drop (Int.toNat (valByte (offDig (offNum (offNum (offByte (offByte s))))))) (offByte (offDig (offNum (offNum (offByte (offByte s))))))) =
  false →
  true = true) ∧
  ((okNum
  (List.drop (Int.toNat (valByte (offDig (offNum (offNum (offByte (offByte s)))))))
  (offByte (offDig (offNum (offNum (offByte (offByte s))))))) =
  false →
  False) →
  okNum
  (List.drop (Int.toNat (valByte (offDig (offNum (offNum (offByte (offByte s)))))))
  (offByte (offDig (offNum (offNum (offByte (offByte s))))))) =
  true ∧
  (∃ (x : Nat),
  (x ≤ Int.toNat (valNum (at7 s)) ∧ okPies (at8 s) x = true) ∧
  0 = ofN x ∧
  offNum
  (List.drop (Int.toNat (valByte (offDig (offNum (offNum (offByte (offByte s)))))))
  (offByte (offDig (offNum (offNum (offByte (offByte s))))))) =
  (piesS (at8 s) x).2 ∧
  valNum (offByte (offByte s)) = valNum (at2 s) ∧
  valNum (offNum (offByte (offByte s))) = valNum (at3 s) ∧
  valDig (offNum (offNum (offByte (offByte s)))) = valDig (at4 s) ∧
  valByte (offByte s) = kindP s ∧
  ofN 0 = 0 ∧
  List.take (Int.toNat (valByte (offDig (offNum (offNum (offByte (offByte s)))))))
  (offByte (offDig (offNum (offNum (offByte (offByte s)))))) =
  pathP s ∧
  (piesS (at8 s) x).1 = nilOf (T.den (T.pair (T.arr 32 T.u8) T.i64))) ∧
  ∀ (x : Nat),
  x ≤ Int.toNat (valNum (at7 s)) ∧ okPies (at8 s) x = true →
  (decide
  (ofN x <
  valNum
  (List.drop (Int.toNat (valByte (offDig (offNum (offNum (offByte (offByte s)))))))
  (offByte (offDig (offNum (offNum (offByte (offByte s)))))))) =
  true →
  (okNum (piesS (at8 s) x).2 = false → true = true) ∧
  ((okNum (piesS (at8 s) x).2 = false → False) →
  okNum (piesS (at8 s) x).2 = true ∧
  ((okDig (offNum (piesS (at8 s) x).2) = false → true = true) ∧
  ((okDig (offNum (piesS (at8 s) x).2) = false → False) → okDig (offNum (piesS (at8 s) x).2) = true ∧ True)) ∧
  List.length (piesS (at8 s) x).1 + List.length [(valDig (offNum (piesS (at8 s) x).2), valNum (piesS (at8 s) x).2)] ≤ ROOM ∧
  ((okDig (offNum (piesS (at8 s) x).2) = false → False) →
  inI64 (ofN x + 1) ∧
  ∃ (x' : Nat),
  (x' ≤ Int.toNat (valNum (at7 s)) ∧ okPies (at8 s) x' = true) ∧
  Int.toNat (valNum (at7 s)) - x' < Int.toNat (valNum (at7 s)) - x ∧
  ofN x + 1 = ofN x' ∧
  offDig (offNum (piesS (at8 s) x).2) = (piesS (at8 s) x').2 ∧
  valNum (at2 s) = valNum (at2 s) ∧
  valNum (at3 s) = valNum (at3 s) ∧
  valDig (at4 s) = valDig (at4 s) ∧
  kindP s = kindP s ∧
  ofN 0 = 0 ∧
  pathP s = pathP s ∧
  (piesS (at8 s) x).1 ++ [(valDig (offNum (piesS (at8 s) x).2), valNum (piesS (at8 s) x).2)] =
  (piesS (at8 s) x').1))) ∧
  (decide
  (ofN x <
  valNum
  (List.drop (Int.toNat (valByte (offDig (offNum (offNum (offByte (offByte s)))))))
  (offByte (offDig (offNum (offNum (offByte (offByte s)))))))) =
  false →
  False))))))))))) := by
 refine ⟨fun _ => rfl, fun c1 => ?_⟩
 have h1 := nf c1
 refine ⟨h1, fun _ => ⟨fun _ => rfl, fun g => (g trivial).elim⟩, fun g => ⟨fun _ => rfl, fun c3 => ?_⟩⟩
 have h2 : valByte s = 82 := eqN g
 have h3 := nf c3
 refine ⟨h3, fun _ => rfl, fun c4 => ⟨nf c4, fun _ => rfl, fun c5 => ⟨nf c5, fun _ => rfl, fun c6 => ⟨nf c6, fun k => ⟨fun _ => rfl, fun c7 => ⟨nf c7, ?_⟩⟩, fun k => ⟨⟨fun _ => rfl, fun c7 => ⟨nf c7, trivial⟩⟩, ⟨fun _ => rfl, fun c8 => ⟨?_, trivial⟩⟩, fun c8 c7 => ⟨fun q => ?_, fun q => ⟨fun _ => rfl, fun c9 => ⟨nf c9, ?_, fun x ⟨x1, x2⟩ => ⟨fun g2 => ⟨fun _ => rfl, fun c10 => ⟨nf c10, ⟨fun _ => rfl, fun c11 => ⟨nf c11, trivial⟩⟩, ?_, fun c11 => ?_⟩⟩, fun g2 => ?_⟩⟩⟩⟩⟩⟩⟩⟩⟩
 · have k : kindP s = 1 := eqI k
   exact nb (okRec_of h1 h2 h3 (nf c4) (nf c5) (nf c6) (nf c7) (fun n => absurd k n)) h
 · exact nf fun g => c8 ⟨Int.natCast_nonneg _, g⟩
 · have k : ¬ kindP s = 1 := neI k
   have q : ¬ kindP s = 2 := neN q
   exact nb (okRec_of h1 h2 h3 (nf c4) (nf c5) (nf c6) (nf c7) (fun _ => ⟨nf fun g => c8 ⟨Int.natCast_nonneg _, g⟩, fun e => absurd e q⟩)) h
 · exact ⟨0, ⟨by omega, rfl⟩, rfl, rfl, rfl, rfl, rfl, rfl, rfl, rfl, rfl⟩
 · have hb := valNum_le (s := at7 s) (nf c9)
   have hlen := pies_length (at8 s) x
   rw [hlen]; simp only [List.length_cons, List.length_nil]; unfold ROOM; omega
 · have hb := valNum_le (s := at7 s) (nf c9)
   have g : (ofN x < valNum (at7 s)) := of_decide_eq_true g2
   have hx : x < (valNum (at7 s)).toNat := by unfold ofN at g; omega
   refine ⟨by unfold inI64 ofN; omega, x + 1, ⟨by omega, ?_⟩, by omega, rfl, rfl, rfl, rfl, rfl, rfl, rfl, rfl, rfl⟩
   rw [okPies, x2, nf c10, nf c11]; rfl
 · have g : ¬ (ofN x < valNum (at7 s)) := of_decide_eq_false g2
   have hx : x = (valNum (at7 s)).toNat := by unfold ofN at g; omega
   have k : ¬ kindP s = 1 := neI k
   rw [hx] at x2
   exact nb (okRec_of h1 h2 h3 (nf c4) (nf c5) (nf c6) (nf c7) (fun _ => ⟨nf fun g => c8 ⟨Int.natCast_nonneg _, g⟩, fun _ => ⟨nf c9, x2⟩⟩)) h

theorem record_take_spec : Vse.Spec P f_record_left_take c_ltake :=
 spec_mtY (l := []) (d := []) trivial trivial h_record_left_take rfl rfl fun s x h _ _ => body_okY an_none (record_take_vc s x.1 (got h)) (by kernel_rfl)

theorem record_take_dspec : DSpec P f_record_left_take c_dltake :=
 dspec_mt (l := []) (d := []) trivial trivial h_record_left_take rfl rfl fun s x h _ _ => body_okD an_none (record_dtake_vc s x.1 h.1 h.2) (by kernel_rfl)

theorem record_byte_spec : Vse.Spec P f_record_reader_byte c_byte :=
 spec_mtY (l := [(f_record_left_take, c_ltake)]) (d := [(f_record_left_take, c_dltake)]) ⟨record_take_spec, trivial⟩ ⟨record_take_dspec, trivial⟩ h_record_reader_byte rfl rfl fun s _ h _ _ => body_okY an_none (record_byte_vc s (got h)) (by kernel_rfl)

theorem record_byte_dspec : DSpec P f_record_reader_byte c_dbyte :=
 dspec_mt (l := [(f_record_left_take, c_ltake)]) (d := [(f_record_left_take, c_dltake)]) ⟨record_take_spec, trivial⟩ ⟨record_take_dspec, trivial⟩ h_record_reader_byte rfl rfl fun s _ h _ _ => body_okD an_none (record_dbyte_vc s h) (by kernel_rfl)

theorem record_num_spec : Vse.Spec P f_record_left_number c_num :=
 spec_mtY (l := [(f_word_Read, c_Read), (f_record_left_take, c_ltake)]) (d := [(f_record_left_take, c_dltake)]) ⟨word_Read_spec, record_take_spec, trivial⟩ ⟨record_take_dspec, trivial⟩ h_record_left_number rfl rfl fun s _ h _ _ => body_okY an_none (record_num_vc s (got h)) (by kernel_rfl)

theorem record_num_dspec : DSpec P f_record_left_number c_dnum :=
 dspec_mt (l := [(f_word_Read, c_Read), (f_record_left_take, c_ltake)]) (d := [(f_record_left_take, c_dltake)]) ⟨word_Read_spec, record_take_spec, trivial⟩ ⟨record_take_dspec, trivial⟩ h_record_left_number rfl rfl fun s _ h _ _ => body_okD an_none (record_dnum_vc s h) (by kernel_rfl)

theorem record_dig_spec : Vse.Spec P f_record_reader_digest c_dig :=
 spec_mtY (l := [(f_record_left_take, c_ltake)]) (d := [(f_record_left_take, c_dltake)]) ⟨record_take_spec, trivial⟩ ⟨record_take_dspec, trivial⟩ h_record_reader_digest rfl rfl fun s _ h _ _ => body_okY an_none (record_dig_vc s (got h)) (by kernel_rfl)

theorem record_dig_dspec : DSpec P f_record_reader_digest c_ddig :=
 dspec_mt (l := [(f_record_left_take, c_ltake)]) (d := [(f_record_left_take, c_dltake)]) ⟨record_take_spec, trivial⟩ ⟨record_take_dspec, trivial⟩ h_record_reader_digest rfl rfl fun s _ h _ _ => body_okD an_none (record_ddig_vc s h) (by kernel_rfl)

theorem record_rrec_spec : Vse.Spec P f_record_reader_record c_rrec :=
 spec_mtY (l := [(f_record_reader_byte, c_byte), (f_record_left_number, c_num), (f_record_reader_digest, c_dig), (f_record_left_take, c_ltake)]) (d := [(f_record_reader_byte, c_dbyte), (f_record_left_number, c_dnum), (f_record_reader_digest, c_ddig), (f_record_left_take, c_dltake)])
  ⟨record_byte_spec, record_num_spec, record_dig_spec, record_take_spec, trivial⟩ ⟨record_byte_dspec, record_num_dspec, record_dig_dspec, record_take_dspec, trivial⟩ h_record_reader_record rfl rfl fun s _ h _ _ => body_okY (an_rec s) (record_rrec_vc s (got h)) (by kernel_rfl)

theorem record_rrec_dspec : DSpec P f_record_reader_record c_drec :=
 dspec_mt (l := [(f_record_reader_byte, c_byte), (f_record_left_number, c_num), (f_record_reader_digest, c_dig), (f_record_left_take, c_ltake)]) (d := [(f_record_reader_byte, c_dbyte), (f_record_left_number, c_dnum), (f_record_reader_digest, c_ddig), (f_record_left_take, c_dltake)])
  ⟨record_byte_spec, record_num_spec, record_dig_spec, record_take_spec, trivial⟩ ⟨record_byte_dspec, record_num_dspec, record_dig_dspec, record_take_dspec, trivial⟩ h_record_reader_record rfl rfl fun s _ h _ _ => body_okD (an_rec s) (record_drec_vc s h) (by kernel_rfl)

end Go.Sal
