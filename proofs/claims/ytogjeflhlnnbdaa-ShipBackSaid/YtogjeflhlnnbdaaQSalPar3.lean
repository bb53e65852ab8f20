/- Records: there and back. No program in sight. -/
import Derived.Test.YtogjeflhlnnbdaaQSalPar2
import Derived.Test.YtogjeflhlnnbdaaQSalChk3
set_option maxRecDepth 100000
namespace Go.Sal
open Go.Vse
theorem num_go {n : Nat} (hn : n ≤ 1073741824) (r : Bytes) : okNum (varintN n ++ r) = true ∧ valNum (varintN n ++ r) = (n : Int) ∧ offNum (varintN n ++ r) = r := by
  have hl : (varintN n).length ≤ 5 := varintN_length 4 n (Nat.lt_of_le_of_lt hn (by decide))
  have h := read_varint n 0 0 r (by omega) (fun h => absurd h (by omega))
  have e1 : (readN (varintN n ++ r) 0 0).1 = n := by rw [h]; simp
  have e2 : (readN (varintN n ++ r) 0 0).2.1 = (varintN n).length := by rw [h]; simp
  have e3 : (readN (varintN n ++ r) 0 0).2.2 = 0 := by rw [h]
  have e4 : (BitVec.ofNat 64 n).toNat = n := by
    rw [BitVec.toNat_ofNat]
    exact Nat.mod_eq_of_lt (Nat.lt_of_le_of_lt hn (by decide))
  refine ⟨?_, ?_, ?_⟩
  · unfold okNum
    rw [e1, e3, e4, decide_eq_true hn]; rfl
  · unfold valNum
    rw [e1, e4]
  · unfold offNum
    rw [e2, List.drop_append_of_le_length (Nat.le_refl _), List.drop_length, List.nil_append]
theorem dig_go {d : Bytes} (hd : d.length = 32) (r : Bytes) : okDig (d ++ r) = true ∧ valDig (d ++ r) = d ∧ offDig (d ++ r) = r := by
  refine ⟨?_, ?_, ?_⟩
  · unfold okDig
    rw [List.length_append, hd]
    exact decide_eq_true (by omega)
  · unfold valDig
    rw [List.take_append_of_le_length (by omega), List.take_of_length_le (by omega)]
  · unfold offDig
    rw [List.drop_append_of_le_length (by omega), List.drop_eq_nil_of_le (by omega), List.nil_append]
theorem pies_go {l : List Pie} (hl : l.all okPie = true) (h32 : ∀ p ∈ l, p.1.length = 32) : ∀ j, j ≤ l.length → okPies ((l.map pieBytes).flatten) j = true ∧ piesS ((l.map pieBytes).flatten) j = (l.take j, ((l.drop j).map pieBytes).flatten)
  | 0, _ => ⟨rfl, by simp [piesS]⟩
  | j + 1, hj => by
    obtain ⟨i1, i2⟩ := pies_go hl h32 j (by omega)
    have hd : l.drop j = l[j] :: l.drop (j + 1) := List.drop_eq_getElem_cons hj
    have hm : l[j] ∈ l := List.getElem_mem hj
    have hp := pie_ok (List.all_eq_true.1 hl l[j] hm)
    have e : ((l.drop j).map pieBytes).flatten = varintN (l[j]).2.toNat ++ ((l[j]).1 ++ ((l.drop (j + 1)).map pieBytes).flatten) := by
      rw [hd, List.map_cons, List.flatten_cons]
      unfold pieBytes
      rw [List.append_assoc]
    obtain ⟨n1, n2, n3⟩ := num_go (n := (l[j]).2.toNat) (by omega) ((l[j]).1 ++ ((l.drop (j + 1)).map pieBytes).flatten)
    obtain ⟨d1, d2, d3⟩ := dig_go (h32 _ hm) (((l.drop (j + 1)).map pieBytes).flatten)
    rw [← e] at n1 n2 n3
    refine ⟨by rw [okPies, i1, i2, n1, n3, d1]; rfl, ?_⟩
    unfold piesS
    rw [i2]
    show (l.take j ++ [(valDig (offNum ((l.drop j).map pieBytes).flatten), valNum ((l.drop j).map pieBytes).flatten)], offDig (offNum ((l.drop j).map pieBytes).flatten)) = _
    rw [n2, n3, d2, d3, List.take_succ_eq_append_getElem hj]
    have e2 : (((l[j]).2.toNat : Nat) : Int) = (l[j]).2 := by omega
    rw [e2]
theorem byte_go (c : B8) (r : Bytes) : okByte (c :: r) = true ∧ valByte (c :: r) = (c.toNat : Int) ∧ offByte (c :: r) = r := ⟨by unfold okByte; simp, rfl, rfl⟩
theorem byteInt {n : Int} (h0 : 0 ≤ n) (h1 : n < 256) : ((BitVec.ofInt 8 n).toNat : Int) = n := by
  obtain ⟨k, rfl⟩ := Int.eq_ofNat_of_zero_le h0
  rw [BitVec.ofInt_natCast, BitVec.toNat_ofNat]
  omega
/-- what is parsed of a head and what is behind it -/
theorem head_go {r : Rec} (h : checkV r = 0) (hp : r.2.2.1.length = 32) (T : Bytes) : okByte (headBytes r ++ T) = true ∧ valByte (headBytes r ++ T) = 82 ∧ okByte (offByte (headBytes r ++ T)) = true ∧ okNum (at2 (headBytes r ++ T)) = true ∧
    okNum (at3 (headBytes r ++ T)) = true ∧ okDig (at4 (headBytes r ++ T)) = true ∧ at5 (headBytes r ++ T) = T ∧ kindP (headBytes r ++ T) = r.2.2.2.1 ∧ valNum (at2 (headBytes r ++ T)) = r.1 ∧ valNum (at3 (headBytes r ++ T)) = r.2.1 ∧ valDig (at4 (headBytes r ++ T)) = r.2.2.1 := by
  obtain ⟨c1, c2, c3, c4, c5⟩ := check_ok h
  obtain ⟨hk, _⟩ := fits_parts c5
  have e : headBytes r ++ T = 82#8 :: BitVec.ofInt 8 r.2.2.2.1 :: (varintN r.1.toNat ++ (varintN r.2.1.toNat ++ (r.2.2.1 ++ T))) := by
    unfold headBytes; simp
  obtain ⟨n1, n2, n3⟩ := num_go (n := r.1.toNat) (by omega) (varintN r.2.1.toNat ++ (r.2.2.1 ++ T))
  obtain ⟨m1, m2, m3⟩ := num_go (n := r.2.1.toNat) (by omega) (r.2.2.1 ++ T)
  obtain ⟨d1, d2, d3⟩ := dig_go hp T
  have f2 : at2 (headBytes r ++ T) = varintN r.1.toNat ++ (varintN r.2.1.toNat ++ (r.2.2.1 ++ T)) := by rw [e]; rfl
  have f3 : at3 (headBytes r ++ T) = varintN r.2.1.toNat ++ (r.2.2.1 ++ T) := by unfold at3; rw [f2, n3]
  have f4 : at4 (headBytes r ++ T) = r.2.2.1 ++ T := by unfold at4; rw [f3, m3]
  have f5 : at5 (headBytes r ++ T) = T := by unfold at5; rw [f4, d3]
  have hk8 : ((BitVec.ofInt 8 r.2.2.2.1).toNat : Int) = r.2.2.2.1 := by
    rcases hk with hk | hk | hk <;> rw [hk] <;> rfl
  refine ⟨by rw [e]; exact (byte_go _ _).1, by rw [e]; rfl, by rw [e]; exact (byte_go _ _).1, by rw [f2]; exact n1, by rw [f3]; exact m1, by rw [f4]; exact d1, f5, ?_, ?_, ?_, by rw [f4]; exact d2⟩
  · unfold kindP
    rw [e]
    exact hk8
  · rw [f2, n2]; omega
  · rw [f3, m2]; omega
theorem take_go {s t : Bytes} {n : Int} (h : n = (s.length : Int)) : okTake n (s ++ t) = true ∧ (s ++ t).take n.toNat = s ∧ (s ++ t).drop n.toNat = t := by
  have e : n.toNat = s.length := by omega
  refine ⟨?_, ?_, ?_⟩
  · unfold okTake
    rw [List.length_append, decide_eq_true (by omega), decide_eq_true (by omega)]; rfl
  · rw [e, List.take_append_of_le_length (Nat.le_refl _), List.take_length]
  · rw [e, List.drop_append_of_le_length (Nat.le_refl _), List.drop_length, List.nil_append]
theorem rec_back {r : Rec} (h : checkV r = 0) (hp : r.2.2.1.length = 32) (hd : ∀ p ∈ r.2.2.2.2.2.2, p.1.length = 32) : okRec (recBytes r) = true ∧ recP (recBytes r) = r := by
  obtain ⟨c1, c2, c3, c4, c5⟩ := check_ok h
  obtain ⟨hk, hpl, hn, hall⟩ := fits_parts c5
  have hf := c5
  unfold fitsV at hf
  by_cases k1 : r.2.2.2.1 = 1
  · rw [if_pos k1] at hf
    simp only [Bool.and_eq_true, Bool.or_eq_true, beq_iff_eq] at hf
    obtain ⟨⟨hs, hpa⟩, hpi⟩ := hf
    have hpi : r.2.2.2.2.2.2 = [] := List.eq_nil_of_length_eq_zero (by omega)
    have e : recBytes r = headBytes r ++ [BitVec.ofInt 8 r.2.2.2.2.1] := by unfold recBytes; rw [if_pos k1]
    obtain ⟨a1, a2, a3, a4, a5, a6, a7, a8, a9, a10, a11⟩ := head_go h hp [BitVec.ofInt 8 r.2.2.2.2.1]
    rw [← e] at a1 a2 a3 a4 a5 a6 a7 a8 a9 a10 a11
    have hsite : valByte (at5 (recBytes r)) = r.2.2.2.2.1 := by
      rw [a7]
      rcases hs with hs | hs <;> rw [hs] <;> rfl
    refine ⟨okRec_of a1 a2 a3 a4 a5 a6 (by rw [a7]; exact (byte_go _ _).1) (fun n => absurd (a8.trans k1) n), ?_⟩
    rw [recP, if_pos (a8.trans k1), a8, a9, a10, a11, hsite]
    have e2 : ([] : Bytes) = r.2.2.2.2.2.1 := hpa.symm
    have e3 : ([] : List Pie) = r.2.2.2.2.2.2 := hpi.symm
    rw [e2, e3]
  · rw [if_neg k1] at hf
    have hpl := hpl k1
    have hlen : ((BitVec.ofInt 8 (r.2.2.2.2.2.1.length : Int)).toNat : Int) = (r.2.2.2.2.2.1.length : Int) := byteInt (by omega) (by omega)
    by_cases k3 : r.2.2.2.1 = 3
    · rw [if_pos k3] at hf
      simp only [Bool.and_eq_true, beq_iff_eq] at hf
      obtain ⟨hpi, hs, hpa⟩ := hf
      have hpi : r.2.2.2.2.2.2 = [] := List.eq_nil_of_length_eq_zero (by omega)
      have e : recBytes r = headBytes r ++ (BitVec.ofInt 8 r.2.2.2.2.2.1.length :: r.2.2.2.2.2.1) := by unfold recBytes; rw [if_neg k1, if_pos k3]; simp
      obtain ⟨a1, a2, a3, a4, a5, a6, a7, a8, a9, a10, a11⟩ := head_go h hp (BitVec.ofInt 8 r.2.2.2.2.2.1.length :: r.2.2.2.2.2.1)
      rw [← e] at a1 a2 a3 a4 a5 a6 a7 a8 a9 a10 a11
      have b5 : valByte (at5 (recBytes r)) = (r.2.2.2.2.2.1.length : Int) := by rw [a7]; exact hlen
      have b6 : at6 (recBytes r) = r.2.2.2.2.2.1 ++ [] := by unfold at6; rw [a7, List.append_nil]; rfl
      obtain ⟨t1, t2, t3⟩ := take_go (s := r.2.2.2.2.2.1) (t := []) (n := valByte (at5 (recBytes r))) b5
      rw [← b6] at t1 t2 t3
      have n1 : ¬ kindP (recBytes r) = 1 := by rw [a8]; exact k1
      have n2 : ¬ kindP (recBytes r) = 2 := by rw [a8, k3]; decide
      refine ⟨okRec_of a1 a2 a3 a4 a5 a6 (by rw [a7]; exact (byte_go _ _).1) (fun _ => ⟨t1, fun n => absurd n n2⟩), ?_⟩
      rw [recP, if_neg n1, if_neg n2, a8, a9, a10, a11]
      unfold pathP
      rw [t2]
      have e3 : ([] : List Pie) = r.2.2.2.2.2.2 := hpi.symm
      have e4 : (0 : Int) = r.2.2.2.2.1 := hs.symm
      rw [e3, e4]
    · rw [if_neg k3] at hf
      have k2 : r.2.2.2.1 = 2 := hk.elim (fun q => absurd q k1) (fun q => q.elim (fun q => absurd q k3) id)
      rw [if_pos k2] at hf
      simp only [Bool.and_eq_true, beq_iff_eq] at hf
      obtain ⟨⟨hs, hpa⟩, hsz⟩ := hf
      have e : recBytes r = headBytes r ++ (BitVec.ofInt 8 r.2.2.2.2.2.1.length :: (r.2.2.2.2.2.1 ++ (varintN r.2.2.2.2.2.2.length ++ (r.2.2.2.2.2.2.map pieBytes).flatten))) := by unfold recBytes; rw [if_neg k1, if_neg k3]; simp
      obtain ⟨a1, a2, a3, a4, a5, a6, a7, a8, a9, a10, a11⟩ := head_go h hp (BitVec.ofInt 8 r.2.2.2.2.2.1.length :: (r.2.2.2.2.2.1 ++ (varintN r.2.2.2.2.2.2.length ++ (r.2.2.2.2.2.2.map pieBytes).flatten)))
      rw [← e] at a1 a2 a3 a4 a5 a6 a7 a8 a9 a10 a11
      have b5 : valByte (at5 (recBytes r)) = (r.2.2.2.2.2.1.length : Int) := by rw [a7]; exact hlen
      have b6 : at6 (recBytes r) = r.2.2.2.2.2.1 ++ (varintN r.2.2.2.2.2.2.length ++ (r.2.2.2.2.2.2.map pieBytes).flatten) := by unfold at6; rw [a7]; rfl
      obtain ⟨t1, t2, t3⟩ := take_go (s := r.2.2.2.2.2.1) (t := varintN r.2.2.2.2.2.2.length ++ (r.2.2.2.2.2.2.map pieBytes).flatten) (n := valByte (at5 (recBytes r))) b5
      rw [← b6] at t1 t2 t3
      have b7 : at7 (recBytes r) = varintN r.2.2.2.2.2.2.length ++ (r.2.2.2.2.2.2.map pieBytes).flatten := t3
      obtain ⟨m1, m2, m3⟩ := num_go (n := r.2.2.2.2.2.2.length) (by omega) (r.2.2.2.2.2.2.map pieBytes).flatten
      rw [← b7] at m1 m2 m3
      have b8 : at8 (recBytes r) = (r.2.2.2.2.2.2.map pieBytes).flatten := m3
      obtain ⟨p1, p2⟩ := pies_go hall hd r.2.2.2.2.2.2.length (Nat.le_refl _)
      rw [List.take_length] at p2
      have n1 : ¬ kindP (recBytes r) = 1 := by rw [a8]; exact k1
      have n2 : kindP (recBytes r) = 2 := by rw [a8]; exact k2
      have hnn : (valNum (at7 (recBytes r))).toNat = r.2.2.2.2.2.2.length := by rw [m2]; rfl
      refine ⟨okRec_of a1 a2 a3 a4 a5 a6 (by rw [a7]; exact (byte_go _ _).1) (fun _ => ⟨t1, fun _ => ⟨m1, by rw [hnn, b8]; exact p1⟩⟩), ?_⟩
      rw [recP, if_neg n1, if_pos n2, a8, a9, a10, a11, hnn, b8, p2]
      unfold pathP
      rw [t2]
      have e4 : (0 : Int) = r.2.2.2.2.1 := hs.symm
      rw [e4]
theorem parse_back {r : Rec} (h : checkV r = 0) (hp : r.2.2.1.length = 32) (hd : ∀ p ∈ r.2.2.2.2.2.2, p.1.length = 32) : parseV (recBytes r) = (r, 0) := by
  obtain ⟨h1, h2⟩ := rec_back h hp hd
  have hl := recBytes_len h hp hd
  unfold parseV
  rw [if_pos (by omega), h2, if_pos ⟨h1, bytesV_ok h⟩]
theorem parse_cases (b : Bytes) : (∃ e, parseV b = (rec0, e) ∧ ¬ e = 0) ∨ (parseV b = (recP b, 0) ∧ bytesV (recP b) = (b, 0)) := by
  unfold parseV
  split
  · split
    · rename_i h; exact .inr ⟨rfl, h.2⟩
    · exact .inl ⟨130, rfl, by decide⟩
  · exact .inl ⟨2, rfl, by decide⟩
end Go.Sal
