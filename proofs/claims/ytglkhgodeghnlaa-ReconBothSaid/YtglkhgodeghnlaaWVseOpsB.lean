/- Shifts, conversions, texts. -/
import Derived.Test.YtglkhgodeghnlaaWVseOpsA
import Derived.Laws.Strings
import Derived.WideShapes
namespace Go.Vse
variable {P : Program} {w : World} {H : Mem} {ρ : Lab} {a : Array Value}

theorem countOf_sound {y : SV} {vc : Option Prop} {n : Nat} (h : countOf y = some (vc, n)) (hv : vcT vc) {v : Value} (hy : svRel H ρ y v) :
 ∃ k m, v = .int k m ∧ 0 ≤ m ∧ m.toNat = n := by
 unfold countOf at h
 split at h <;> simp only [Option.some.injEq, Prod.mk.injEq, reduceCtorEq] at h
 all_goals (obtain ⟨rfl, rfl⟩ := h)
 case h_1 => exact ⟨_, _, hy, by omega, by simp⟩
 case h_2 => exact ⟨_, _, hy, by omega, by simp⟩
 case h_3 => exact ⟨_, _, hy, by omega, by simp⟩
 case h_4 => exact ⟨_, _, hy, by omega, by simp⟩
 case h_5 => exact ⟨_, _, hy.1, hv, rfl⟩

theorem pow_toNat (n : Nat) : ((2 ^ n : Nat) : Int) = 2 ^ n := by simp

theorem shiftBV_sound (k : IntKind) (hk : k.signed = false) (mk : BitVec k.bits → DV) (hmk : ∀ x v, dvRel H (mk x) v ↔ v = .int k (x.toNat : Int)) {op : BinOp} {left : Bool}
 (ho : op = if left then .shl else .shr) {x : BitVec k.bits} {vc : Option Prop} {n : Nat} {r : Res} (h : shiftBV mk left x vc n = some r) (t : TypeId) (ky : IntKind) (m : Int) (h0 : 0 ≤ m) (hm : m.toNat = n) :
 r.upd = [] ∧ ∃ v, (binOp op t (.int k (x.toNat : Int)) (.int ky m)).run P w = .ok v w ∧ slRel H ρ a r.out v := by
 simp only [shiftBV, Option.some.injEq] at h
 subst h
 refine ⟨rfl, ?_⟩
 have hneg : ¬ m < 0 := by omega
 cases left with
 | true =>
   simp only [if_true] at ho; subst ho
   refine ⟨.int k (k.wrap (x.toNat * 2 ^ min m.toNat k.bits)), by simp [binOp, Op.shift, hneg], (hmk _ _).2 ?_⟩
   have e : ((x.toNat : Int) * 2 ^ min n k.bits) = ((x.toNat * 2 ^ min n k.bits : Nat) : Int) := by simp
   have key : (BitVec.ofInt k.bits ((x.toNat : Int) * 2 ^ min n k.bits)).toNat = (x <<< n).toNat := by
    rw [e, BitVec.toNat_ofInt, BitVec.toNat_shiftLeft, Nat.shiftLeft_eq]
    by_cases hn : n ≤ k.bits
    · rw [Nat.min_eq_left hn]; omega
    · rw [Nat.min_eq_right (by omega)]
      have h1 : 2 ^ n = 2 ^ k.bits * 2 ^ (n - k.bits) := by rw [← Nat.pow_add]; congr 1; omega
      rw [h1, Nat.mul_left_comm, Nat.mul_mod_right]
      have h2 : ((x.toNat * 2 ^ k.bits : Nat) : Int) % ((2 ^ k.bits : Nat) : Int) = 0 := by
       rw [← Int.natCast_emod, Nat.mul_mod_left]; rfl
      rw [h2]; rfl
   rw [wrapU k hk, hm, key]; rfl
 | false =>
   simp only [Bool.false_eq_true, if_false] at ho; subst ho
   refine ⟨.int k (Int.fdiv x.toNat (2 ^ min m.toNat k.bits)), by simp [binOp, Op.shift, hneg], (hmk _ _).2 ?_⟩
   rw [hm]
   simp only [cond_false, BitVec.toNat_ushiftRight, Nat.shiftRight_eq_div_pow]
   rw [← pow_toNat, Int.fdiv_eq_ediv_of_nonneg _ (Int.natCast_nonneg _), ← Int.natCast_ediv]
   congr 2
   by_cases hn : n ≤ k.bits
   · rw [Nat.min_eq_left hn]
   · rw [Nat.min_eq_right (by omega), Nat.div_eq_of_lt x.isLt, Nat.div_eq_of_lt (Nat.lt_of_lt_of_le x.isLt (Nat.pow_le_pow_right (by omega) (by omega)))]

theorem andVC_T {p q : Option Prop} (h : vcT (andVC p q)) : vcT p ∧ vcT q := vcT_and h

theorem shiftOp_sound {op : BinOp} {left : Bool} (ho : op = if left then .shl else .shr) {x y : SV} {r : Res} (h : shiftOp left x y = some r) (hv : vcT r.vc) {vx vy : Value}
 (hx : svRel H ρ x vx) (hy : svRel H ρ y vy) (t : TypeId) : r.upd = [] ∧ ∃ v, (binOp op t vx vy).run P w = .ok v w ∧ slRel H ρ a r.out v := by
 unfold shiftOp at h
 cases hc : countOf y with
 | none => rw [hc] at h; simp at h
 | some q =>
   obtain ⟨vc, n⟩ := q
   rw [hc] at h
   simp only at h
   split at h
   · have hvc : vcT vc := by simp only [shiftBV, Option.some.injEq] at h; subst h; exact hv
     obtain ⟨ky, m, rfl, h0, hm⟩ := countOf_sound hc hvc hy
     rw [show vx = _ from hx]
     exact shiftBV_sound .u8 rfl .u8 (fun _ _ => Iff.rfl) ho h t ky m h0 hm
   · have hvc : vcT vc := by simp only [shiftBV, Option.some.injEq] at h; subst h; exact hv
     obtain ⟨ky, m, rfl, h0, hm⟩ := countOf_sound hc hvc hy
     rw [show vx = _ from hx]
     exact shiftBV_sound .u16 rfl .u16 (fun _ _ => Iff.rfl) ho h t ky m h0 hm
   · have hvc : vcT vc := by simp only [shiftBV, Option.some.injEq] at h; subst h; exact hv
     obtain ⟨ky, m, rfl, h0, hm⟩ := countOf_sound hc hvc hy
     rw [show vx = _ from hx]
     exact shiftBV_sound .u32 rfl .u32 (fun _ _ => Iff.rfl) ho h t ky m h0 hm
   · have hvc : vcT vc := by simp only [shiftBV, Option.some.injEq] at h; subst h; exact hv
     obtain ⟨ky, m, rfl, h0, hm⟩ := countOf_sound hc hvc hy
     rw [show vx = _ from hx]
     exact shiftBV_sound .u64 rfl .u64 (fun _ _ => Iff.rfl) ho h t ky m h0 hm
   · rename_i x
     obtain ⟨rfl, hin⟩ := hx
     cases left with
     | true =>
       simp only [cond_true, Option.some.injEq] at h; subst h
       obtain ⟨h1, h2⟩ := andVC_T hv
       obtain ⟨ky, m, rfl, h0, hm⟩ := countOf_sound hc h1 hy
       simp only [if_true] at ho; subst ho
       have hneg : ¬ m < 0 := by omega
       have hmin : min m.toNat 64 = n := by have := h2.1; omega
       exact ⟨rfl, .int .i64 (IntKind.i64.wrap (x * 2 ^ min m.toNat 64)), by simp [binOp, Op.shift, hneg, IntKind.bits], by rw [hmin, wrapI h2.2], h2.2⟩
     | false =>
       simp only [cond_false, Option.some.injEq] at h; subst h
       obtain ⟨h1, h2⟩ := andVC_T hv
       obtain ⟨ky, m, rfl, h0, hm⟩ := countOf_sound hc h1 hy
       simp only [Bool.false_eq_true, if_false] at ho; subst ho
       have hneg : ¬ m < 0 := by omega
       have h2' : n ≤ 64 := h2
       have hmin : min m.toNat 64 = n := by omega
       refine ⟨rfl, .int .i64 (x.fdiv (2 ^ min m.toNat 64)), by simp [binOp, Op.shift, hneg, IntKind.bits], by rw [hmin], ?_⟩
       unfold inI64 at *
       have hp : (0 : Int) < 2 ^ n := Int.pow_pos (by decide)
       rw [Int.fdiv_eq_ediv_of_nonneg _ (by omega)]
       constructor
       · exact Int.le_ediv_of_mul_le hp (by
           have : -9223372036854775808 * 2 ^ n ≤ -9223372036854775808 * 1 := Int.mul_le_mul_of_nonpos_left (by omega) (by omega)
           omega)
       · have := Int.ediv_le_self (a := x) (b := 2 ^ n)
         by_cases hx0 : 0 ≤ x
         · have := this hx0; omega
         · have : x / 2 ^ n < 0 := Int.ediv_neg_of_neg_of_pos (by omega) hp
           omega
   · simp at h

theorem unO_sound {op : UnOp} {x : SV} {r : Res} (h : unO op x = some r) (hv : vcT r.vc) {vx : Value} (hx : svRel H ρ x vx) :
 r.upd = [] ∧ ∃ v, (Op.unary op vx).run P w = .ok v w ∧ slRel H ρ a r.out v := by
 have inv : ∀ (k : IntKind) (hk : k.signed = false) (x : BitVec k.bits), (Op.intBits .xor k k.max (x.toNat : Int)).run P w = .ok (.int k ((~~~x).toNat : Int)) w := by
  intro k hk x
  simp only [Op.intBits]
  have e : BitVec.ofInt k.bits k.max ^^^ BitVec.ofInt k.bits (x.toNat : Int) = ~~~x := by
   have h1 : BitVec.ofInt k.bits k.max = BitVec.allOnes k.bits := by cases k <;> simp [IntKind.signed] at hk <;> decide
   rw [h1, ofInt_nat]
   simp [BitVec.allOnes_xor]
  rw [e, wrapU k hk, ofInt_nat]; rfl
 unfold unO at h
 split at h <;> simp only [dval, owed, Option.some.injEq, reduceCtorEq] at h <;> subst h <;> refine ⟨rfl, ?_⟩
 · rw [show vx = _ from hx]; exact ⟨_, rfl, rfl⟩
 · obtain ⟨rfl, hi⟩ := hx
   exact ⟨_, by simp [Op.unary, Op.intArith]; rfl, by rw [show -_ = (0 : Int) - _ from (Int.zero_sub _).symm]; rw [wrapI hv], hv⟩
 · rename_i x
   rw [show vx = _ from hx]
   refine ⟨_, by simp only [Op.unary, Op.intArith]; rfl, ?_⟩
   show _ = _
   rw [wrapU .u64 rfl]
   have h1 := ofInt_sub 64 0#64 x
   exact congrArg (fun z : BitVec 64 => Value.int .u64 (z.toNat : Int)) h1
 · rw [show vx = _ from hx]; exact ⟨_, inv .u8 rfl _, rfl⟩
 · rw [show vx = _ from hx]; exact ⟨_, inv .u32 rfl _, rfl⟩
 · rw [show vx = _ from hx]; exact ⟨_, inv .u64 rfl _, rfl⟩

theorem convBV_sound {m : Nat} {x : BitVec m} (hm : m ≤ 64) {k : IntKind} {r : Res} (h : convBV x k = some r) :
 r.upd = [] ∧ ∃ v, (Conv.intToInt k (x.toNat : Int)).run P w = .ok v w ∧ slRel H ρ a r.out v := by
 have e : ∀ n, BitVec.ofInt n (x.toNat : Int) = x.setWidth n := fun n => BitVec.eq_of_toNat_eq (by simp)
 cases k <;> simp only [convBV, dval, Option.some.injEq, reduceCtorEq] at h
 case u8 => subst h; exact ⟨rfl, _, rfl, by show _ = _; rw [wrapU .u8 rfl]; exact congrArg (fun z : BitVec 8 => Value.int .u8 (z.toNat : Int)) (e 8)⟩
 case u16 => subst h; exact ⟨rfl, _, rfl, by show _ = _; rw [wrapU .u16 rfl]; exact congrArg (fun z : BitVec 16 => Value.int .u16 (z.toNat : Int)) (e 16)⟩
 case u32 => subst h; exact ⟨rfl, _, rfl, by show _ = _; rw [wrapU .u32 rfl]; exact congrArg (fun z : BitVec 32 => Value.int .u32 (z.toNat : Int)) (e 32)⟩
 case u64 => subst h; exact ⟨rfl, _, rfl, by show _ = _; rw [wrapU .u64 rfl]; exact congrArg (fun z : BitVec 64 => Value.int .u64 (z.toNat : Int)) (e 64)⟩
 case i64 =>
  cases hb : Nat.blt m 64 with
  | true =>
    rw [hb] at h; simp only [cond_true, Option.some.injEq] at h; subst h
    have hlt : m < 64 := Nat.le_of_ble_eq_true hb
    have hx : x.toNat < 2 ^ 63 := Nat.lt_of_lt_of_le x.isLt (Nat.pow_le_pow_right (by omega) (by omega))
    have hin : inI64 (x.toNat : Int) := by unfold inI64; omega
    exact ⟨rfl, _, rfl, by show _ ∧ _; exact ⟨by rw [wrapI hin], hin⟩⟩
  | false =>
    rw [hb] at h; simp only [cond_false, Option.some.injEq] at h; subst h
    exact ⟨rfl, _, rfl, by show _ ∧ _; exact ⟨by rw [wrapT, e 64], toInt_in _⟩⟩
theorem convI_sound {n : Int} (hn : inI64 n) {k : IntKind} {r : Res} (h : convI n k = some r) :
 r.upd = [] ∧ ∃ v, (Conv.intToInt k n).run P w = .ok v w ∧ slRel H ρ a r.out v := by
 cases k <;> simp only [convI, dval, Option.some.injEq, reduceCtorEq] at h <;> subst h
 case u8 => exact ⟨rfl, _, rfl, by show _ = _; rw [wrapU .u8 rfl]; rfl⟩
 case u16 => exact ⟨rfl, _, rfl, by show _ = _; rw [wrapU .u16 rfl]; rfl⟩
 case u32 => exact ⟨rfl, _, rfl, by show _ = _; rw [wrapU .u32 rfl]; rfl⟩
 case u64 => exact ⟨rfl, _, rfl, by show _ = _; rw [wrapU .u64 rfl]; rfl⟩
 case i64 => exact ⟨rfl, _, rfl, by show _ ∧ _; exact ⟨by rw [wrapI hn], hn⟩⟩

theorem toBA_list (l : List (BitVec 8)) : (toBA l).toList = l.map UInt8.ofBitVec := by rw [ByteArray.toList_eq]; simp [toBA]
theorem toBA_data (l : List (BitVec 8)) : (toBA l).data.toList = l.map UInt8.ofBitVec := by simp [toBA]
theorem toBA_size (l : List (BitVec 8)) : (toBA l).size = l.length := by simp [toBA, ByteArray.size]
theorem ofBV_inj {x y : BitVec 8} : UInt8.ofBitVec x = UInt8.ofBitVec y ↔ x = y := ⟨fun h => by simpa using congrArg UInt8.toBitVec h, fun h => by rw [h]⟩
theorem map_ofBV_inj {l m : List (BitVec 8)} : l.map UInt8.ofBitVec = m.map UInt8.ofBitVec ↔ l = m :=
 ⟨fun h => List.map_inj_right (fun x y h => ofBV_inj.1 h) |>.1 h, fun h => by rw [h]⟩
theorem lessL_eq (l m : List (BitVec 8)) : Op.bytesLess (l.map UInt8.ofBitVec) (m.map UInt8.ofBitVec) = lessL l m := by
 induction l generalizing m with
 | nil => cases m <;> simp [Op.bytesLess, lessL]
 | cons x l ih =>
   cases m with
   | nil => simp [Op.bytesLess, lessL]
   | cons y m =>
     simp only [List.map_cons, Op.bytesLess, lessL, ih]
     congr 1
     congr 1
     rw [Bool.eq_iff_iff, beq_iff_eq, beq_iff_eq]
     exact ofBV_inj
theorem lessL_total (l m : List (BitVec 8)) : (lessL l m || l == m) = !lessL m l := by
 induction l generalizing m with
 | nil => cases m <;> simp [lessL]
 | cons x l ih =>
   cases m with
   | nil => simp [lessL]
   | cons y m =>
     simp only [lessL]
     rcases Nat.lt_trichotomy x.toNat y.toNat with h | h | h
     · have h1 : x < y := h
       have h2 : ¬ y < x := by rw [BitVec.lt_def]; omega
       have h3 : (y == x) = false := by rw [beq_eq_false_iff_ne]; intro e; subst e; omega
       simp [h1, h2, h3]
     · have e := BitVec.eq_of_toNat_eq h
       subst e
       have h1 : ¬ x < x := by rw [BitVec.lt_def]; omega
       have := ih m
       simp [h1, ← this]
     · have h1 : ¬ x < y := by rw [BitVec.lt_def]; omega
       have h2 : y < x := h
       have h3 : (x == y) = false := by rw [beq_eq_false_iff_ne]; intro e; subst e; omega
       have h4 : ((x :: l) == (y :: m)) = false := by rw [beq_eq_false_iff_ne]; intro e; cases e; omega
       simp [h1, h2, h3, h4]

theorem strOp_sound {op : BinOp} {x y : List (BitVec 8)} {r : Res} (h : strOp op x y = some r) (hv : vcT r.vc) (t : TypeId) :
 r.upd = [] ∧ ∃ v, (binOp op t (.string (toBA x)) (.string (toBA y))).run P w = .ok v w ∧ slRel H ρ a r.out v := by
 have heq : ((toBA x).toList == (toBA y).toList) = (x == y) := by
  rw [toBA_list, toBA_list, Bool.eq_iff_iff, beq_iff_eq, beq_iff_eq]; exact map_ofBV_inj
 have hlt : Op.bytesLess (toBA x).toList (toBA y).toList = lessL x y := by rw [toBA_list, toBA_list, lessL_eq]
 have hgt : (lessL x y || x == y) = !lessL y x := lessL_total x y
 cases op <;> simp only [strOp, dval, owed, Option.some.injEq, reduceCtorEq] at h <;> subst h <;> refine ⟨rfl, ?_⟩
 case add =>
  have hv' : x.length + y.length ≤ ROOM := hv
  unfold ROOM at hv'
  refine ⟨.string (toBA x ++ toBA y), ?_, ?_⟩
  · simp only [binOp, Op.stringOp]
    rw [if_neg (by rw [toBA_size, toBA_size, show IntKind.i64.max = 9223372036854775807 from rfl]; omega)]
    rfl
  · refine ⟨?_, by simp [LIM]; omega⟩
    congr 1
    apply WideShapes.bytes_inj
    rw [toBA_data]
    simp [toBA]
 case eql => exact ⟨_, by simp only [binOp, Op.stringOp, heq]; rfl, rfl⟩
 case neq => exact ⟨_, by simp only [binOp, Op.stringOp, heq]; rfl, rfl⟩
 case lss => exact ⟨_, by simp only [binOp, Op.stringOp, hlt]; rfl, rfl⟩
 case leq => exact ⟨_, by simp only [binOp, Op.stringOp, hlt, heq, hgt]; rfl, rfl⟩
 case gtr => exact ⟨_, by simp only [binOp, Op.stringOp, hlt, heq, hgt, Bool.not_not]; rfl, rfl⟩
 case geq => exact ⟨_, by simp only [binOp, Op.stringOp, hlt]; rfl, rfl⟩

end Go.Vse
