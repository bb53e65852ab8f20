/- Operations on numbers, truth values, texts. -/
import Derived.Test.YtdddnamfecgkeaaDoorWVseRel
import Derived.Laws.Strings
import Derived.WideShapes
import Derived.Laws.StructEq
import Derived.ChangeKeysEq
namespace Go.Vse
variable {P : Program} {w : World} {H : Mem} {ρ : Lab} {a : Array Value}

theorem wrapU (k : IntKind) (hk : k.signed = false) (n : Int) : k.wrap n = ((BitVec.ofInt k.bits n).toNat : Int) := by
 unfold IntKind.wrap
 simp only [hk, Bool.false_and, Bool.false_eq_true, if_false, BitVec.toNat_ofInt]
 have h : (0:Int) ≤ n % 2 ^ k.bits := Int.emod_nonneg _ (by have : (0:Int) < 2 ^ k.bits := Int.pow_pos (by decide); omega)
 rw [show ((2 ^ k.bits : Nat) : Int) = 2 ^ k.bits from by simp]
 omega
theorem wrapI {n : Int} (h : inI64 n) : IntKind.i64.wrap n = n := by
 unfold inI64 at h
 show (if (true && decide (n % 2 ^ 64 ≥ 2 ^ 63)) = true then n % 2 ^ 64 - 2 ^ 64 else n % 2 ^ 64) = n
 by_cases h1 : n % 2 ^ 64 ≥ 2 ^ 63
 · rw [if_pos (by simpa using h1)]; omega
 · rw [if_neg (by simpa using h1)]; omega
theorem wrapT (n : Int) : IntKind.i64.wrap n = (BitVec.ofInt 64 n).toInt := by
 rw [BitVec.toInt_ofInt]
 show (if (true && decide (n % 2 ^ 64 ≥ 2 ^ 63)) = true then n % 2 ^ 64 - 2 ^ 64 else n % 2 ^ 64) = _
 unfold Int.bmod
 by_cases h1 : n % 2 ^ 64 ≥ 2 ^ 63
 · rw [if_pos (by simpa using h1), if_neg (by omega)]; omega
 · rw [if_neg (by simpa using h1), if_pos (by omega)]; omega
theorem toInt_in (x : BitVec 64) : inI64 x.toInt := by
 have := x.toInt_lt
 have := x.le_toInt
 unfold inI64
 simp at *
 omega

theorem ofInt_add (w : Nat) (x y : BitVec w) : BitVec.ofInt w (x.toNat + y.toNat) = x + y := by
 rw [BitVec.ofInt_add]; simp
theorem ofInt_sub (w : Nat) (x y : BitVec w) : BitVec.ofInt w (x.toNat - y.toNat) = x - y := by
 rw [Int.sub_eq_add_neg, BitVec.ofInt_add, BitVec.ofInt_neg]; simp [BitVec.sub_eq_add_neg]
theorem ofInt_mul (w : Nat) (x y : BitVec w) : BitVec.ofInt w (x.toNat * y.toNat) = x * y := by
 rw [BitVec.ofInt_mul]; simp
theorem ofInt_nat (w : Nat) (x : BitVec w) : BitVec.ofInt w x.toNat = x := by simp

theorem small_nat {w n : Nat} (h : n < 2 ^ w) : (BitVec.ofInt w (n : Int)).toNat = n := by
 simp [Nat.mod_eq_of_lt h]

theorem bvOp_sound (k : IntKind) (hk : k.signed = false) (mk : BitVec k.bits → DV) (hmk : ∀ x v, dvRel H (mk x) v ↔ v = .int k (x.toNat : Int))
 {op : BinOp} {x y : BitVec k.bits} {r : Res} (h : bvOp mk op x y = some r) (hv : vcT r.vc) (t : TypeId) :
 r.upd = [] ∧ ∃ v, (binOp op t (.int k (x.toNat : Int)) (.int k (y.toNat : Int))).run P w = .ok v w ∧ slRel H ρ a r.out v := by
 cases op <;> simp only [bvOp, dval, owed, Option.some.injEq, reduceCtorEq] at h <;> subst h <;> refine ⟨rfl, ?_⟩
 case add => exact ⟨_, by simp [binOp, Op.intArith]; rfl, (hmk _ _).2 (by rw [wrapU k hk, ofInt_add])⟩
 case sub => exact ⟨_, by simp [binOp, Op.intArith]; rfl, (hmk _ _).2 (by rw [wrapU k hk, ofInt_sub])⟩
 case mul => exact ⟨_, by simp [binOp, Op.intArith]; rfl, (hmk _ _).2 (by rw [wrapU k hk, ofInt_mul])⟩
 case quo =>
  have hy : (y.toNat : Int) ≠ 0 := fun e => hv (BitVec.eq_of_toNat_eq (by simpa using e))
  refine ⟨.int k (k.wrap (Int.tdiv x.toNat y.toNat)), by simp only [binOp, Op.intDiv]; rw [if_neg hy]; simp, (hmk _ _).2 ?_⟩
  rw [wrapU k hk, ← Int.ofNat_tdiv, small_nat (Nat.lt_of_le_of_lt (Nat.div_le_self _ _) x.isLt), BitVec.toNat_udiv]
 case rem =>
  have hy : (y.toNat : Int) ≠ 0 := fun e => hv (BitVec.eq_of_toNat_eq (by simpa using e))
  refine ⟨.int k (Int.tmod x.toNat y.toNat), by simp only [binOp, Op.intDiv]; rw [if_neg hy]; simp, (hmk _ _).2 ?_⟩
  rw [← Int.ofNat_tmod, BitVec.toNat_umod]
 case and => exact ⟨.int k (k.wrap ((BitVec.ofInt k.bits x.toNat &&& BitVec.ofInt k.bits y.toNat).toNat : Int)), by simp only [binOp, Op.intBits]; simp, (hmk _ _).2 (by rw [wrapU k hk, ofInt_nat, ofInt_nat, ofInt_nat])⟩
 case or => exact ⟨.int k (k.wrap ((BitVec.ofInt k.bits x.toNat ||| BitVec.ofInt k.bits y.toNat).toNat : Int)), by simp only [binOp, Op.intBits]; simp, (hmk _ _).2 (by rw [wrapU k hk, ofInt_nat, ofInt_nat, ofInt_nat])⟩
 case xor => exact ⟨.int k (k.wrap ((BitVec.ofInt k.bits x.toNat ^^^ BitVec.ofInt k.bits y.toNat).toNat : Int)), by simp only [binOp, Op.intBits]; simp, (hmk _ _).2 (by rw [wrapU k hk, ofInt_nat, ofInt_nat, ofInt_nat])⟩
 case andNot => exact ⟨.int k (k.wrap ((BitVec.ofInt k.bits x.toNat &&& ~~~(BitVec.ofInt k.bits y.toNat)).toNat : Int)), by simp only [binOp, Op.intBits]; simp, (hmk _ _).2 (by rw [wrapU k hk, ofInt_nat, ofInt_nat, ofInt_nat])⟩
 case eql => exact ⟨_, by simp only [binOp, Op.intCmp]; simp only [ne_eq, not_true_eq_false, if_false]; rfl, by show _ = _; congr 1; rw [Bool.eq_iff_iff, beq_iff_eq, beq_iff_eq]; exact ⟨fun e => BitVec.eq_of_toNat_eq (by omega), fun e => by rw [e]⟩⟩
 case neq => exact ⟨_, by simp only [binOp, Op.intCmp]; simp only [ne_eq, not_true_eq_false, if_false]; rfl, by show _ = _; congr 1; rw [Bool.eq_iff_iff, bne_iff_ne, bne_iff_ne]; exact ⟨fun e h => e (by rw [h]), fun e h => e (BitVec.eq_of_toNat_eq (by omega))⟩⟩
 case lss => exact ⟨.bool (decide (x < y)), by simp [binOp, Op.intCmp, BitVec.lt_def], rfl⟩
 case leq => exact ⟨.bool (decide (x ≤ y)), by simp [binOp, Op.intCmp, BitVec.le_def], rfl⟩
 case gtr => exact ⟨.bool (decide (y < x)), by simp [binOp, Op.intCmp, BitVec.lt_def], rfl⟩
 case geq => exact ⟨.bool (decide (y ≤ x)), by simp [binOp, Op.intCmp, BitVec.le_def], rfl⟩

theorem i64Op_sound {op : BinOp} {x y : Int} {r : Res} (h : i64Op op x y = some r) (hv : vcT r.vc) (hx : inI64 x) (hy : inI64 y) (t : TypeId) :
 r.upd = [] ∧ ∃ v, (binOp op t (.int .i64 x) (.int .i64 y)).run P w = .ok v w ∧ slRel H ρ a r.out v := by
 cases op <;> simp only [i64Op, dval, owed, Option.some.injEq, reduceCtorEq] at h <;> subst h <;> refine ⟨rfl, ?_⟩
 case add => exact ⟨_, by simp [binOp, Op.intArith]; rfl, ⟨by rw [wrapI hv], hv⟩⟩
 case sub => exact ⟨_, by simp [binOp, Op.intArith]; rfl, ⟨by rw [wrapI hv], hv⟩⟩
 case mul => exact ⟨_, by simp [binOp, Op.intArith]; rfl, ⟨by rw [wrapI hv], hv⟩⟩
 case quo => exact ⟨.int .i64 (x.tdiv y), by simp only [binOp, Op.intDiv]; rw [if_neg hv.1, wrapI hv.2]; rfl, ⟨rfl, hv.2⟩⟩
 case rem =>
  refine ⟨.int .i64 (x.tmod y), by simp only [binOp, Op.intDiv]; rw [if_neg hv]; rfl, ⟨rfl, ?_⟩⟩
  unfold inI64 at *
  have h1 : (x.tmod y).natAbs = x.natAbs % y.natAbs := Int.natAbs_tmod x y
  have h2 : x.natAbs % y.natAbs ≤ x.natAbs := Nat.mod_le _ _
  have h3 : x.natAbs % y.natAbs < y.natAbs := Nat.mod_lt _ (by have : y ≠ 0 := hv; omega)
  omega
 case and => exact ⟨.int .i64 (IntKind.i64.wrap ((BitVec.ofInt IntKind.i64.bits x &&& BitVec.ofInt IntKind.i64.bits y).toNat : Int)), by simp only [binOp, Op.intBits]; simp, ⟨by rw [wrapT]; exact congrArg (fun z : BitVec 64 => Value.int .i64 z.toInt) (ofInt_nat 64 (BitVec.ofInt 64 x &&& BitVec.ofInt 64 y)), toInt_in _⟩⟩
 case or => exact ⟨.int .i64 (IntKind.i64.wrap ((BitVec.ofInt IntKind.i64.bits x ||| BitVec.ofInt IntKind.i64.bits y).toNat : Int)), by simp only [binOp, Op.intBits]; simp, ⟨by rw [wrapT]; exact congrArg (fun z : BitVec 64 => Value.int .i64 z.toInt) (ofInt_nat 64 (BitVec.ofInt 64 x ||| BitVec.ofInt 64 y)), toInt_in _⟩⟩
 case xor => exact ⟨.int .i64 (IntKind.i64.wrap ((BitVec.ofInt IntKind.i64.bits x ^^^ BitVec.ofInt IntKind.i64.bits y).toNat : Int)), by simp only [binOp, Op.intBits]; simp, ⟨by rw [wrapT]; exact congrArg (fun z : BitVec 64 => Value.int .i64 z.toInt) (ofInt_nat 64 (BitVec.ofInt 64 x ^^^ BitVec.ofInt 64 y)), toInt_in _⟩⟩
 case eql => exact ⟨_, by simp [binOp, Op.intCmp], rfl⟩
 case neq => exact ⟨_, by simp [binOp, Op.intCmp], rfl⟩
 case lss => exact ⟨_, by simp [binOp, Op.intCmp], rfl⟩
 case leq => exact ⟨_, by simp [binOp, Op.intCmp], rfl⟩
 case gtr => exact ⟨_, by simp [binOp, Op.intCmp], rfl⟩
 case geq => exact ⟨_, by simp [binOp, Op.intCmp], rfl⟩

end Go.Vse

namespace Go.Vse
variable {P : Program} {w : World} {H : Mem} {ρ : Lab} {a : Array Value}

theorem countOf_sound {y : SV} {vc : Option Prop} {n : Nat} (h : countOf y = some (vc, n)) (hv : vcT vc) {v : Value} (hy : svRel H ρ y v) :
 ∃ k m, v = .int k m ∧ 0 ≤ m ∧ m.toNat = n := by
 unfold countOf at h
 split at h <;> simp only [Option.some.injEq, Prod.mk.injEq, reduceCtorEq] at h
 all_goals (obtain ⟨rfl, rfl⟩ := h)
 case h_1 => exact ⟨_, _, hy, by omega, by simp⟩
 case h_2 => exact ⟨_, _, hy, by omega, by simp⟩
 case h_3 => exact ⟨_, _, hy, by omega, by simp⟩
 case h_4 => exact ⟨_, _, hy, by omega, by simp⟩
 case h_5 => exact ⟨_, _, hy.1, hv, rfl⟩

theorem pow_toNat (n : Nat) : ((2 ^ n : Nat) : Int) = 2 ^ n := by simp

theorem shiftBV_sound (k : IntKind) (hk : k.signed = false) (mk : BitVec k.bits → DV) (hmk : ∀ x v, dvRel H (mk x) v ↔ v = .int k (x.toNat : Int)) {op : BinOp} {left : Bool}
 (ho : op = if left then .shl else .shr) {x : BitVec k.bits} {vc : Option Prop} {n : Nat} {r : Res} (h : shiftBV mk left x vc n = some r) (t : TypeId) (ky : IntKind) (m : Int) (h0 : 0 ≤ m) (hm : m.toNat = n) :
 r.upd = [] ∧ ∃ v, (binOp op t (.int k (x.toNat : Int)) (.int ky m)).run P w = .ok v w ∧ slRel H ρ a r.out v := by
 simp only [shiftBV, Option.some.injEq] at h
 subst h
 refine ⟨rfl, ?_⟩
 have hneg : ¬ m < 0 := by omega
 cases left with
 | true =>
   simp only [if_true] at ho; subst ho
   refine ⟨.int k (k.wrap (x.toNat * 2 ^ min m.toNat k.bits)), by simp [binOp, Op.shift, hneg], (hmk _ _).2 ?_⟩
   have e : ((x.toNat : Int) * 2 ^ min n k.bits) = ((x.toNat * 2 ^ min n k.bits : Nat) : Int) := by simp
   have key : (BitVec.ofInt k.bits ((x.toNat : Int) * 2 ^ min n k.bits)).toNat = (x <<< n).toNat := by
    rw [e, BitVec.toNat_ofInt, BitVec.toNat_shiftLeft, Nat.shiftLeft_eq]
    by_cases hn : n ≤ k.bits
    · rw [Nat.min_eq_left hn]; omega
    · rw [Nat.min_eq_right (by omega)]
      have h1 : 2 ^ n = 2 ^ k.bits * 2 ^ (n - k.bits) := by rw [← Nat.pow_add]; congr 1; omega
      rw [h1, Nat.mul_left_comm, Nat.mul_mod_right]
      have h2 : ((x.toNat * 2 ^ k.bits : Nat) : Int) % ((2 ^ k.bits : Nat) : Int) = 0 := by
       rw [← Int.natCast_emod, Nat.mul_mod_left]; rfl
      rw [h2]; rfl
   rw [wrapU k hk, hm, key]; rfl
 | false =>
   simp only [Bool.false_eq_true, if_false] at ho; subst ho
   refine ⟨.int k (Int.fdiv x.toNat (2 ^ min m.toNat k.bits)), by simp [binOp, Op.shift, hneg], (hmk _ _).2 ?_⟩
   rw [hm]
   simp only [cond_false, BitVec.toNat_ushiftRight, Nat.shiftRight_eq_div_pow]
   rw [← pow_toNat, Int.fdiv_eq_ediv_of_nonneg _ (Int.natCast_nonneg _), ← Int.natCast_ediv]
   congr 2
   by_cases hn : n ≤ k.bits
   · rw [Nat.min_eq_left hn]
   · rw [Nat.min_eq_right (by omega), Nat.div_eq_of_lt x.isLt, Nat.div_eq_of_lt (Nat.lt_of_lt_of_le x.isLt (Nat.pow_le_pow_right (by omega) (by omega)))]

theorem andVC_T {p q : Option Prop} (h : vcT (andVC p q)) : vcT p ∧ vcT q := vcT_and h

theorem shiftOp_sound {op : BinOp} {left : Bool} (ho : op = if left then .shl else .shr) {x y : SV} {r : Res} (h : shiftOp left x y = some r) (hv : vcT r.vc) {vx vy : Value}
 (hx : svRel H ρ x vx) (hy : svRel H ρ y vy) (t : TypeId) : r.upd = [] ∧ ∃ v, (binOp op t vx vy).run P w = .ok v w ∧ slRel H ρ a r.out v := by
 unfold shiftOp at h
 cases hc : countOf y with
 | none => rw [hc] at h; simp at h
 | some q =>
   obtain ⟨vc, n⟩ := q
   rw [hc] at h
   simp only at h
   split at h
   · have hvc : vcT vc := by simp only [shiftBV, Option.some.injEq] at h; subst h; exact hv
     obtain ⟨ky, m, rfl, h0, hm⟩ := countOf_sound hc hvc hy
     rw [show vx = _ from hx]
     exact shiftBV_sound .u8 rfl .u8 (fun _ _ => Iff.rfl) ho h t ky m h0 hm
   · have hvc : vcT vc := by simp only [shiftBV, Option.some.injEq] at h; subst h; exact hv
     obtain ⟨ky, m, rfl, h0, hm⟩ := countOf_sound hc hvc hy
     rw [show vx = _ from hx]
     exact shiftBV_sound .u16 rfl .u16 (fun _ _ => Iff.rfl) ho h t ky m h0 hm
   · have hvc : vcT vc := by simp only [shiftBV, Option.some.injEq] at h; subst h; exact hv
     obtain ⟨ky, m, rfl, h0, hm⟩ := countOf_sound hc hvc hy
     rw [show vx = _ from hx]
     exact shiftBV_sound .u32 rfl .u32 (fun _ _ => Iff.rfl) ho h t ky m h0 hm
   · have hvc : vcT vc := by simp only [shiftBV, Option.some.injEq] at h; subst h; exact hv
     obtain ⟨ky, m, rfl, h0, hm⟩ := countOf_sound hc hvc hy
     rw [show vx = _ from hx]
     exact shiftBV_sound .u64 rfl .u64 (fun _ _ => Iff.rfl) ho h t ky m h0 hm
   · rename_i x
     obtain ⟨rfl, hin⟩ := hx
     cases left with
     | true =>
       simp only [cond_true, Option.some.injEq] at h; subst h
       obtain ⟨h1, h2⟩ := andVC_T hv
       obtain ⟨ky, m, rfl, h0, hm⟩ := countOf_sound hc h1 hy
       simp only [if_true] at ho; subst ho
       have hneg : ¬ m < 0 := by omega
       have hmin : min m.toNat 64 = n := by have := h2.1; omega
       exact ⟨rfl, .int .i64 (IntKind.i64.wrap (x * 2 ^ min m.toNat 64)), by simp [binOp, Op.shift, hneg, IntKind.bits], by rw [hmin, wrapI h2.2], h2.2⟩
     | false =>
       simp only [cond_false, Option.some.injEq] at h; subst h
       obtain ⟨h1, h2⟩ := andVC_T hv
       obtain ⟨ky, m, rfl, h0, hm⟩ := countOf_sound hc h1 hy
       simp only [Bool.false_eq_true, if_false] at ho; subst ho
       have hneg : ¬ m < 0 := by omega
       have h2' : n ≤ 64 := h2
       have hmin : min m.toNat 64 = n := by omega
       refine ⟨rfl, .int .i64 (x.fdiv (2 ^ min m.toNat 64)), by simp [binOp, Op.shift, hneg, IntKind.bits], by rw [hmin], ?_⟩
       unfold inI64 at *
       have hp : (0 : Int) < 2 ^ n := Int.pow_pos (by decide)
       rw [Int.fdiv_eq_ediv_of_nonneg _ (by omega)]
       constructor
       · exact Int.le_ediv_of_mul_le hp (by
           have : -9223372036854775808 * 2 ^ n ≤ -9223372036854775808 * 1 := Int.mul_le_mul_of_nonpos_left (by omega) (by omega)
           omega)
       · have := Int.ediv_le_self (a := x) (b := 2 ^ n)
         by_cases hx0 : 0 ≤ x
         · have := this hx0; omega
         · have : x / 2 ^ n < 0 := Int.ediv_neg_of_neg_of_pos (by omega) hp
           omega
   · simp at h

theorem unO_sound {op : UnOp} {x : SV} {r : Res} (h : unO op x = some r) (hv : vcT r.vc) {vx : Value} (hx : svRel H ρ x vx) :
 r.upd = [] ∧ ∃ v, (Op.unary op vx).run P w = .ok v w ∧ slRel H ρ a r.out v := by
 have inv : ∀ (k : IntKind) (hk : k.signed = false) (x : BitVec k.bits), (Op.intBits .xor k k.max (x.toNat : Int)).run P w = .ok (.int k ((~~~x).toNat : Int)) w := by
  intro k hk x
  simp only [Op.intBits]
  have e : BitVec.ofInt k.bits k.max ^^^ BitVec.ofInt k.bits (x.toNat : Int) = ~~~x := by
   have h1 : BitVec.ofInt k.bits k.max = BitVec.allOnes k.bits := by cases k <;> simp [IntKind.signed] at hk <;> decide
   rw [h1, ofInt_nat]
   simp [BitVec.allOnes_xor]
  rw [e, wrapU k hk, ofInt_nat]; rfl
 unfold unO at h
 split at h <;> simp only [dval, owed, Option.some.injEq, reduceCtorEq] at h <;> subst h <;> refine ⟨rfl, ?_⟩
 · rw [show vx = _ from hx]; exact ⟨_, rfl, rfl⟩
 · obtain ⟨rfl, hi⟩ := hx
   exact ⟨_, by simp [Op.unary, Op.intArith]; rfl, by rw [show -_ = (0 : Int) - _ from (Int.zero_sub _).symm]; rw [wrapI hv], hv⟩
 · rename_i x
   rw [show vx = _ from hx]
   refine ⟨_, by simp only [Op.unary, Op.intArith]; rfl, ?_⟩
   show _ = _
   rw [wrapU .u64 rfl]
   have h1 := ofInt_sub 64 0#64 x
   exact congrArg (fun z : BitVec 64 => Value.int .u64 (z.toNat : Int)) h1
 · rw [show vx = _ from hx]; exact ⟨_, inv .u8 rfl _, rfl⟩
 · rw [show vx = _ from hx]; exact ⟨_, inv .u32 rfl _, rfl⟩
 · rw [show vx = _ from hx]; exact ⟨_, inv .u64 rfl _, rfl⟩

theorem convBV_sound {m : Nat} {x : BitVec m} (hm : m ≤ 64) {k : IntKind} {r : Res} (h : convBV x k = some r) :
 r.upd = [] ∧ ∃ v, (Conv.intToInt k (x.toNat : Int)).run P w = .ok v w ∧ slRel H ρ a r.out v := by
 have e : ∀ n, BitVec.ofInt n (x.toNat : Int) = x.setWidth n := fun n => BitVec.eq_of_toNat_eq (by simp)
 cases k <;> simp only [convBV, dval, Option.some.injEq, reduceCtorEq] at h
 case u8 => subst h; exact ⟨rfl, _, rfl, by show _ = _; rw [wrapU .u8 rfl]; exact congrArg (fun z : BitVec 8 => Value.int .u8 (z.toNat : Int)) (e 8)⟩
 case u16 => subst h; exact ⟨rfl, _, rfl, by show _ = _; rw [wrapU .u16 rfl]; exact congrArg (fun z : BitVec 16 => Value.int .u16 (z.toNat : Int)) (e 16)⟩
 case u32 => subst h; exact ⟨rfl, _, rfl, by show _ = _; rw [wrapU .u32 rfl]; exact congrArg (fun z : BitVec 32 => Value.int .u32 (z.toNat : Int)) (e 32)⟩
 case u64 => subst h; exact ⟨rfl, _, rfl, by show _ = _; rw [wrapU .u64 rfl]; exact congrArg (fun z : BitVec 64 => Value.int .u64 (z.toNat : Int)) (e 64)⟩
 case i64 =>
  cases hb : Nat.blt m 64 with
  | true =>
    rw [hb] at h; simp only [cond_true, Option.some.injEq] at h; subst h
    have hlt : m < 64 := Nat.le_of_ble_eq_true hb
    have hx : x.toNat < 2 ^ 63 := Nat.lt_of_lt_of_le x.isLt (Nat.pow_le_pow_right (by omega) (by omega))
    have hin : inI64 (x.toNat : Int) := by unfold inI64; omega
    exact ⟨rfl, _, rfl, by show _ ∧ _; exact ⟨by rw [wrapI hin], hin⟩⟩
  | false =>
    rw [hb] at h; simp only [cond_false, Option.some.injEq] at h; subst h
    exact ⟨rfl, _, rfl, by show _ ∧ _; exact ⟨by rw [wrapT, e 64], toInt_in _⟩⟩
theorem convI_sound {n : Int} (hn : inI64 n) {k : IntKind} {r : Res} (h : convI n k = some r) :
 r.upd = [] ∧ ∃ v, (Conv.intToInt k n).run P w = .ok v w ∧ slRel H ρ a r.out v := by
 cases k <;> simp only [convI, dval, Option.some.injEq, reduceCtorEq] at h <;> subst h
 case u8 => exact ⟨rfl, _, rfl, by show _ = _; rw [wrapU .u8 rfl]; rfl⟩
 case u16 => exact ⟨rfl, _, rfl, by show _ = _; rw [wrapU .u16 rfl]; rfl⟩
 case u32 => exact ⟨rfl, _, rfl, by show _ = _; rw [wrapU .u32 rfl]; rfl⟩
 case u64 => exact ⟨rfl, _, rfl, by show _ = _; rw [wrapU .u64 rfl]; rfl⟩
 case i64 => exact ⟨rfl, _, rfl, by show _ ∧ _; exact ⟨by rw [wrapI hn], hn⟩⟩

theorem toBA_list (l : List (BitVec 8)) : (toBA l).toList = l.map UInt8.ofBitVec := by rw [ByteArray.toList_eq]; simp [toBA]
theorem toBA_data (l : List (BitVec 8)) : (toBA l).data.toList = l.map UInt8.ofBitVec := by simp [toBA]
theorem toBA_size (l : List (BitVec 8)) : (toBA l).size = l.length := by simp [toBA, ByteArray.size]
theorem ofBV_inj {x y : BitVec 8} : UInt8.ofBitVec x = UInt8.ofBitVec y ↔ x = y := ⟨fun h => by simpa using congrArg UInt8.toBitVec h, fun h => by rw [h]⟩
theorem map_ofBV_inj {l m : List (BitVec 8)} : l.map UInt8.ofBitVec = m.map UInt8.ofBitVec ↔ l = m :=
 ⟨fun h => List.map_inj_right (fun x y h => ofBV_inj.1 h) |>.1 h, fun h => by rw [h]⟩
theorem lessL_eq (l m : List (BitVec 8)) : Op.bytesLess (l.map UInt8.ofBitVec) (m.map UInt8.ofBitVec) = lessL l m := by
 induction l generalizing m with
 | nil => cases m <;> simp [Op.bytesLess, lessL]
 | cons x l ih =>
   cases m with
   | nil => simp [Op.bytesLess, lessL]
   | cons y m =>
     simp only [List.map_cons, Op.bytesLess, lessL, ih]
     congr 1
     congr 1
     rw [Bool.eq_iff_iff, beq_iff_eq, beq_iff_eq]
     exact ofBV_inj
theorem lessL_total (l m : List (BitVec 8)) : (lessL l m || l == m) = !lessL m l := by
 induction l generalizing m with
 | nil => cases m <;> simp [lessL]
 | cons x l ih =>
   cases m with
   | nil => simp [lessL]
   | cons y m =>
     simp only [lessL]
     rcases Nat.lt_trichotomy x.toNat y.toNat with h | h | h
     · have h1 : x < y := h
       have h2 : ¬ y < x := by rw [BitVec.lt_def]; omega
       have h3 : (y == x) = false := by rw [beq_eq_false_iff_ne]; intro e; subst e; omega
       simp [h1, h2, h3]
     · have e := BitVec.eq_of_toNat_eq h
       subst e
       have h1 : ¬ x < x := by rw [BitVec.lt_def]; omega
       have := ih m
       simp [h1, ← this]
     · have h1 : ¬ x < y := by rw [BitVec.lt_def]; omega
       have h2 : y < x := h
       have h3 : (x == y) = false := by rw [beq_eq_false_iff_ne]; intro e; subst e; omega
       have h4 : ((x :: l) == (y :: m)) = false := by rw [beq_eq_false_iff_ne]; intro e; cases e; omega
       simp [h1, h2, h3, h4]

theorem strOp_sound {op : BinOp} {x y : List (BitVec 8)} {r : Res} (h : strOp op x y = some r) (hv : vcT r.vc) (t : TypeId) :
 r.upd = [] ∧ ∃ v, (binOp op t (.string (toBA x)) (.string (toBA y))).run P w = .ok v w ∧ slRel H ρ a r.out v := by
 have heq : ((toBA x).toList == (toBA y).toList) = (x == y) := by
  rw [toBA_list, toBA_list, Bool.eq_iff_iff, beq_iff_eq, beq_iff_eq]; exact map_ofBV_inj
 have hlt : Op.bytesLess (toBA x).toList (toBA y).toList = lessL x y := by rw [toBA_list, toBA_list, lessL_eq]
 have hgt : (lessL x y || x == y) = !lessL y x := lessL_total x y
 cases op <;> simp only [strOp, dval, owed, Option.some.injEq, reduceCtorEq] at h <;> subst h <;> refine ⟨rfl, ?_⟩
 case add =>
  have hv' : x.length + y.length ≤ ROOM := hv
  unfold ROOM at hv'
  refine ⟨.string (toBA x ++ toBA y), ?_, ?_⟩
  · simp only [binOp, Op.stringOp]
    rw [if_neg (by rw [toBA_size, toBA_size, show IntKind.i64.max = 9223372036854775807 from rfl]; omega)]
    rfl
  · refine ⟨?_, by simp [LIM]; omega⟩
    congr 1
    apply WideShapes.bytes_inj
    rw [toBA_data]
    simp [toBA]
 case eql => exact ⟨_, by simp only [binOp, Op.stringOp, heq]; rfl, rfl⟩
 case neq => exact ⟨_, by simp only [binOp, Op.stringOp, heq]; rfl, rfl⟩
 case lss => exact ⟨_, by simp only [binOp, Op.stringOp, hlt]; rfl, rfl⟩
 case leq => exact ⟨_, by simp only [binOp, Op.stringOp, hlt, heq, hgt]; rfl, rfl⟩
 case gtr => exact ⟨_, by simp only [binOp, Op.stringOp, hlt, heq, hgt, Bool.not_not]; rfl, rfl⟩
 case geq => exact ⟨_, by simp only [binOp, Op.stringOp, hlt]; rfl, rfl⟩

end Go.Vse

namespace Go.Vse
variable {P : Program} {w : World} {H : Mem} {ρ : Lab} {a : Array Value}

theorem info_of {t : TypeId} {d : TypeDesc} (h : P.underlying t = some d) : ∃ i, P.info? t = some i ∧ P.cellsOf t = i.size := by
 unfold Program.underlying at h
 cases hi : P.info? t with
 | none => rw [hi] at h; simp at h
 | some i => exact ⟨i, rfl, by simp [Program.cellsOf, hi]⟩
theorem run_sizeOf' {t : TypeId} {d : TypeDesc} (h : P.underlying t = some d) (w : World) : (sizeOf t).run P w = .ok (P.cellsOf t) w := by
 obtain ⟨i, hi, hs⟩ := info_of h
 simp [sizeOf, typeInfo, hi, hs]

def valOf (P : Program) (t : TypeId) (vs : List Value) : Value :=
 match isAggT P t with
 | some true => .agg vs.toArray
 | _ => vs.getD 0 undef

theorem run_isAgg' {t : TypeId} {b : Bool} (h : isAggT P t = some b) (w : World) : (isAgg t).run P w = .ok b w := by
 unfold isAggT at h
 split at h <;> simp only [Option.some.injEq, reduceCtorEq] at h <;> subst h
 · rename_i fs hu; simp [isAgg, run_underlying hu]
 · rename_i n e hu; simp [isAgg, run_underlying hu]
 · rename_i d h1 h2 hu
   cases d <;> simp [isAgg, run_underlying hu]
   · exact (h2 _ _ rfl).elim
   · exact (h1 _ rfl).elim
theorem isAgg_under {t : TypeId} {b : Bool} (h : isAggT P t = some b) : ∃ d, P.underlying t = some d := by
 unfold isAggT at h
 split at h <;> first | exact ⟨_, ‹_›⟩ | simp at h

theorem run_part {t : TypeId} {b : Bool} (h : isAggT P t = some b) {A v X : List Value} {off : Nat} (hA : A.length = off) (hv : v.length = P.cellsOf t) (h1 : b = false → v.length = 1) :
 (part t (A ++ (v ++ X)).toArray off).run P w = .ok (valOf P t v) w := by
 obtain ⟨d, hd⟩ := isAgg_under h
 unfold part
 rw [Sem.run_bind, run_isAgg' h]
 simp only [Result.andThen_ok]
 cases b with
 | true =>
   simp only [if_true, Sem.run_bind, run_sizeOf' hd, Result.andThen_ok, Sem.run_pure, valOf, h]
   congr 2
   subst hA
   rw [← hv]
   apply Array.ext'
   simp
 | false =>
   have hl := h1 rfl
   obtain ⟨x, rfl⟩ : ∃ x, v = [x] := by
    match v, hl with
    | [x], _ => exact ⟨x, rfl⟩
   have : (A ++ ([x] ++ X)).toArray[off]? = some x := by subst hA; simp
   simp only [Bool.false_eq_true, if_false]
   rw [this]
   simp [valOf, h]

theorem rowRel_one {α : Type} {R : α → List Value → Prop} {f : α → Value} (hR : ∀ x cs, R x cs → cs = [f x]) : ∀ {xs : List α} {cs : List Value}, rowRel R xs cs → cs = xs.map f
 | [], _, h => by simpa [rowRel] using h
 | x :: xs, _, h => by
   obtain ⟨a, b, rfl, h1, h2⟩ := h
   rw [hR x a h1, rowRel_one hR h2]; rfl

def cellOf : (t : T) → t.den → Value
 | .u8, x => .int .u8 (x.toNat : Int)
 | .u16, x => .int .u16 (x.toNat : Int)
 | .u32, x => .int .u32 (x.toNat : Int)
 | .u64, x => .int .u64 (x.toNat : Int)
 | .i64, n => .int .i64 n
 | .bool, b => .bool b
 | .str, l => .string (toBA l)
 | _, _ => undef

theorem scalar_cell {e : TypeId} {c : T} (h : scalarT P e c = true) : ∀ (x : c.den) cs, eltRel H c x cs → cs = [cellOf c x] := by
 intro x cs hx
 unfold scalarT at h
 split at h <;> first | (simp at h; done) | skip
 all_goals first | exact hx | exact hx.1
theorem scalar_eq {e : TypeId} {c : T} (h : scalarT P e c = true) (D : Nat) (x y : c.den) : (Op.equalIn (D + 1) e (cellOf c x) (cellOf c y)).run P w = .ok (haveI := c.deq; decide (x = y)) w := by
 have hb : ∀ (n : Nat) (x y : BitVec n), ((x.toNat : Int) == y.toNat) = decide (x = y) := by
  intro n x y
  rw [Bool.eq_iff_iff, beq_iff_eq, decide_eq_true_iff]
  exact ⟨fun e => BitVec.eq_of_toNat_eq (by omega), fun e => by rw [e]⟩
 unfold scalarT at h
 split at h <;> first | (simp at h; done) | skip
 · rename_i hu; rw [show cellOf .u8 x = .int .u8 (BitVec.toNat x : Int) from rfl, show cellOf .u8 y = .int .u8 (BitVec.toNat y : Int) from rfl, run_equalIn_int w D e .u8 .u8 _ _ hu]; congr 1; rw [hb 8 x y]; congr
 · rename_i hu; rw [show cellOf .u16 x = .int .u16 (BitVec.toNat x : Int) from rfl, show cellOf .u16 y = .int .u16 (BitVec.toNat y : Int) from rfl, run_equalIn_int w D e .u16 .u16 _ _ hu]; congr 1; rw [hb 16 x y]; congr
 · rename_i hu; rw [show cellOf .u32 x = .int .u32 (BitVec.toNat x : Int) from rfl, show cellOf .u32 y = .int .u32 (BitVec.toNat y : Int) from rfl, run_equalIn_int w D e .u32 .u32 _ _ hu]; congr 1; rw [hb 32 x y]; congr
 · rename_i hu; rw [show cellOf .u64 x = .int .u64 (BitVec.toNat x : Int) from rfl, show cellOf .u64 y = .int .u64 (BitVec.toNat y : Int) from rfl, run_equalIn_int w D e .u64 .u64 _ _ hu]; congr 1; rw [hb 64 x y]; congr
 · rename_i hu; rw [show cellOf .i64 x = .int .i64 x from rfl, show cellOf .i64 y = .int .i64 y from rfl, run_equalIn_int w D e .i64 .i64 _ _ hu]; rfl
 · rename_i hu; rw [show cellOf .bool x = .bool x from rfl, show cellOf .bool y = .bool y from rfl, run_equalIn_bool' w D e _ _ hu]; cases x <;> cases y <;> rfl
 · rename_i hu
   rw [show cellOf .str x = .string (toBA x) from rfl, show cellOf .str y = .string (toBA y) from rfl, run_equalIn_string w D e _ _ hu, toBA_list, toBA_list]
   congr 1
   rw [Bool.eq_iff_iff, beq_iff_eq, decide_eq_true_iff]
   exact map_ofBV_inj

theorem eqItems_cells {e : TypeId} {c : T} (hc : scalarT P e c = true) (hs : P.cellsOf e = 1) (D : Nat) (xs ys : List c.den) (hl : xs.length = ys.length) (A B : List Value) (hA : A.length = B.length) (k : Nat) (hk : k = A.length) :
 (Op.eqItems (D + 1) e 1 (A ++ xs.map (cellOf c)).toArray (B ++ ys.map (cellOf c)).toArray (List.range' k xs.length)).run P w = .ok (eqL c xs ys) w := by
 have hue : ∃ d, P.underlying e = some d := by
  unfold scalarT at hc
  split at hc <;> first | exact ⟨_, ‹_›⟩ | simp at hc
 have hagg : isAggT P e = some false := by
  unfold scalarT at hc
  split at hc <;> first | (simp at hc; done) | (rename_i hq; unfold isAggT; rw [hq])
 induction xs generalizing ys A B k with
 | nil =>
   have : ys = [] := List.eq_nil_of_length_eq_zero (by simpa using hl.symm)
   subst this
   simp [Op.eqItems, eqL]
 | cons x xs ih =>
   cases ys with
   | nil => simp at hl
   | cons y ys =>
     have h1 := run_part (P := P) (w := w) hagg (A := A) (v := [cellOf c x]) (X := xs.map (cellOf c)) (off := k * 1) (by omega) (by simp [hs]) (fun _ => rfl)
     have h2 := run_part (P := P) (w := w) hagg (A := B) (v := [cellOf c y]) (X := ys.map (cellOf c)) (off := k * 1) (by omega) (by simp [hs]) (fun _ => rfl)
     simp only [valOf, hagg, List.getD_cons_zero, List.singleton_append] at h1 h2
     simp only [List.length_cons, List.range'_succ, Op.eqItems, List.map_cons, Sem.run_bind, h1, h2, Result.andThen_ok, scalar_eq hc D x y]
     by_cases hxy : x = y
     · subst hxy
       have h3 := ih ys (by simpa using hl) (A ++ [cellOf c x]) (B ++ [cellOf c x]) (by simp [hA]) (k + 1) (by simp [hk])
       simp only [decide_true, Bool.not_true, Bool.false_eq_true, if_false]
       simp only [List.append_assoc, List.singleton_append] at h3
       rw [h3]
       simp [eqL]
     · simp [hxy, eqL]

theorem array_eq {t e : TypeId} {n : Nat} {c : T} (hu : P.underlying t = some (.array n e)) (hc : scalarT P e c = true) (hs : P.cellsOf e = 1) (D : Nat) (xs ys : List c.den) (hx : xs.length = n) (hy : ys.length = n) :
 (Op.equalIn (D + 2) t (.agg (xs.map (cellOf c)).toArray) (.agg (ys.map (cellOf c)).toArray)).run P w = .ok (eqL c xs ys) w := by
 have hue : ∃ d, P.underlying e = some d := by
  unfold scalarT at hc
  split at hc <;> first | exact ⟨_, ‹_›⟩ | simp at hc
 obtain ⟨d, hd⟩ := hue
 obtain ⟨i, hi, _⟩ := info_of hd
 rw [run_equalIn_array w (D + 1) _ _ hu hi, hs, List.range_eq_range', ← hx]
 simpa using eqItems_cells (P := P) (w := w) hc hs D xs ys (by omega) [] [] rfl 0 rfl

theorem eqDV_sound {t : TypeId} {x y : DV} (hx : dvOf (scalarOf P t) x = true) (hy : dvOf (scalarOf P t) y = true) {b : Bool} (h : eqDV x y = some b) {v u : Value} (hv : dvRel H x v) (hu : dvRel H y u) (D : Nat) :
 (Op.equalIn (D + 1) t v u).run P w = .ok b w := by
 have hb : ∀ (n : Nat) (x y : BitVec n), ((x.toNat : Int) == y.toNat) = (x == y) := by
  intro n x y
  rw [Bool.eq_iff_iff, beq_iff_eq, beq_iff_eq]
  exact ⟨fun e => BitVec.eq_of_toNat_eq (by omega), fun e => by rw [e]⟩
 unfold scalarOf at hx hy
 split at hx <;> rename_i hq <;> simp only [hq] at hy <;> cases x <;> first | (simp [dvOf] at hx; done) | skip
 all_goals cases y <;> first | (simp [dvOf] at hy; done) | skip
 all_goals simp only [eqDV, Option.some.injEq] at h
 all_goals subst h
 · rw [show v = _ from hv, show u = _ from hu, run_equalIn_int w D t .u8 .u8 _ _ hq, hb]
 · rw [show v = _ from hv, show u = _ from hu, run_equalIn_int w D t .u16 .u16 _ _ hq, hb]
 · rw [show v = _ from hv, show u = _ from hu, run_equalIn_int w D t .u32 .u32 _ _ hq, hb]
 · rw [show v = _ from hv, show u = _ from hu, run_equalIn_int w D t .u64 .u64 _ _ hq, hb]
 · rw [hv.1, hu.1, run_equalIn_int w D t .i64 .i64 _ _ hq]
 · rw [show v = _ from hv, show u = _ from hu, run_equalIn_bool' w D t _ _ hq]
 · rw [hv.1, hu.1, run_equalIn_string w D t _ _ hq, toBA_list, toBA_list]
   congr 1
   rw [Bool.eq_iff_iff, beq_iff_eq, beq_iff_eq]
   exact map_ofBV_inj

def TakeOk (P : Program) (w : World) (H : Mem) (ρ : Lab) (k : Nat) (t : TypeId) (cs ds : List SC) (x : Eqd) : Prop :=
 ∀ vs us, scsRel H ρ cs vs → scsRel H ρ ds us → ∃ v1 v2 u1 u2, vs = v1 ++ v2 ∧ us = u1 ++ u2 ∧ scsRel H ρ x.cs v2 ∧ scsRel H ρ x.ds u2 ∧
  v1.length = P.cellsOf t ∧ u1.length = P.cellsOf t ∧ (∃ b, isAggT P t = some b ∧ (b = false → v1.length = 1)) ∧
  ∀ D, k ≤ D → (Op.equalIn (D + 1) t (valOf P t v1) (valOf P t u1)).run P w = .ok x.b w

theorem eqFs_sound {k : Nat} {f : TypeId → List SC → List SC → Option Eqd} (hf : ∀ t cs ds x, f t cs ds = some x → TakeOk P w H ρ k t cs ds x) :
 ∀ (fs : List Field) (off : Nat) (cs ds : List SC) (x : Eqd), eqFs f P off fs cs ds = some x → ∀ vs us, scsRel H ρ cs vs → scsRel H ρ ds us →
 ∃ v1 v2 u1 u2, vs = v1 ++ v2 ∧ us = u1 ++ u2 ∧ scsRel H ρ x.cs v2 ∧ scsRel H ρ x.ds u2 ∧ v1.length = sumF P fs ∧ u1.length = sumF P fs ∧
  ∀ D, k ≤ D → ∀ A B X Y : List Value, A.length = off → B.length = off → (Op.eqFields (D + 1) (A ++ (v1 ++ X)).toArray (B ++ (u1 ++ Y)).toArray fs).run P w = .ok x.b w := by
 intro fs
 induction fs with
 | nil => intro off cs ds x h; simp [eqFs] at h
 | cons fd r ih =>
   intro off cs ds x h vs us hv hu
   have one : ∀ x1, (fd.name == "_" || !Nat.beq fd.offset off) = false → f fd.type cs ds = some x1 → ∃ v1 v2 u1 u2, vs = v1 ++ v2 ∧ us = u1 ++ u2 ∧ scsRel H ρ x1.cs v2 ∧ scsRel H ρ x1.ds u2 ∧
    v1.length = P.cellsOf fd.type ∧ u1.length = P.cellsOf fd.type ∧ ∀ D, k ≤ D → ∀ A B X Y : List Value, A.length = off → B.length = off →
     ∀ (K : Sem Bool), ((do let a ← part fd.type (A ++ (v1 ++ X)).toArray fd.offset; let b ← part fd.type (B ++ (u1 ++ Y)).toArray fd.offset; let r ← Op.equalIn (D + 1) fd.type a b; if (!r) = true then pure false else K) : Sem Bool).run P w =
      (if x1.b then K else pure false).run P w := by
    intro x1 hc h1
    obtain ⟨v1, v2, u1, u2, e1, e2, r1, r2, l1, l2, ⟨b, hagg, hone⟩, heq⟩ := hf _ _ _ _ h1 vs us hv hu
    refine ⟨v1, v2, u1, u2, e1, e2, r1, r2, l1, l2, fun D hD A B X Y hA hB K => ?_⟩
    simp only [Bool.or_eq_false_iff, Bool.not_eq_false'] at hc
    have ho := Nat.eq_of_beq_eq_true hc.2
    have p1 := run_part (P := P) (w := w) hagg (A := A) (v := v1) (X := X) (off := fd.offset) (by omega) l1 hone
    have p2 := run_part (P := P) (w := w) hagg (A := B) (v := u1) (X := Y) (off := fd.offset) (by omega) l2 (fun hb => by rw [l2, ← l1]; exact hone hb)
    simp only [Sem.run_bind, p1, p2, heq D hD, Result.andThen_ok]
    cases x1.b <;> simp
   have hname : (fd.name == "_" || !Nat.beq fd.offset off) = false → fd.name ≠ "_" := by
    intro hc; simp at hc; exact hc.1
   cases r with
   | nil =>
     simp only [eqFs] at h
     cases hc : (fd.name == "_" || !Nat.beq fd.offset off) with
     | true => rw [hc] at h; simp at h
     | false =>
       rw [hc] at h; simp only [cond_false] at h
       obtain ⟨v1, v2, u1, u2, e1, e2, r1, r2, l1, l2, hrun⟩ := one x hc h
       refine ⟨v1, v2, u1, u2, e1, e2, r1, r2, by simp [sumF, l1], by simp [sumF, l2], fun D hD A B X Y hA hB => ?_⟩
       simp only [Op.eqFields]
       rw [if_pos (hname hc), hrun D hD A B X Y hA hB (pure true)]
       cases x.b <;> rfl
   | cons fd2 r2 =>
     simp only [eqFs] at h
     cases hc : (fd.name == "_" || !Nat.beq fd.offset off) with
     | true => rw [hc] at h; simp at h
     | false =>
       rw [hc] at h; simp only [cond_false] at h
       cases h1 : f fd.type cs ds with
       | none => rw [h1] at h; simp at h
       | some x1 =>
         rw [h1] at h; simp only at h
         cases h2 : eqFs f P (off + P.cellsOf fd.type) (fd2 :: r2) x1.cs x1.ds with
         | none => rw [h2] at h; simp at h
         | some y =>
           rw [h2] at h; simp at h; subst h
           obtain ⟨v1, v2, u1, u2, e1, e2, r1, r2', l1, l2, hrun⟩ := one x1 hc h1
           obtain ⟨v3, v4, u3, u4, e3, e4, r3, r4, l3, l4, hrun2⟩ := ih _ _ _ _ h2 v2 u2 r1 r2'
           subst e1; subst e2; subst e3; subst e4
           refine ⟨v1 ++ v3, v4, u1 ++ u3, u4, by simp, by simp, r3, r4, by simp only [sumF, List.length_append, l1, l3], by simp only [sumF, List.length_append, l2, l4], fun D hD A B X Y hA hB => ?_⟩
           have hr1 := hrun D hD A B (v3 ++ X) (u3 ++ Y) hA hB (Op.eqFields (D + 1) (A ++ (v1 ++ (v3 ++ X))).toArray (B ++ (u1 ++ (u3 ++ Y))).toArray (fd2 :: r2))
           have hr2 := hrun2 D hD (A ++ v1) (B ++ u1) X Y (by simp [hA, l1]) (by simp [hB, l2])
           simp only [List.append_assoc] at hr2 ⊢
           rw [Op.eqFields, if_pos (hname hc), hr1]
           cases x1.b with
           | true => simpa using hr2
           | false => simp

theorem eqTake_sound : ∀ (k : Nat) (t : TypeId) (cs ds : List SC) (x : Eqd), eqTake P k t cs ds = some x → TakeOk P w H ρ k t cs ds x := by
 intro k
 induction k with
 | zero => intro t cs ds x h; simp [eqTake] at h
 | succ k ih =>
   intro t cs ds x h
   simp only [eqTake] at h
   split at h
   · rename_i n e hu
     split at h
     · rename_i c m xs r c' m' ys s
       split at h
       · rename_i hcc
         subst hcc
         cases hcond : (scalarT P e c' && Nat.beq m n && Nat.beq m' n && Nat.beq (P.cellsOf e) 1 && Nat.beq (P.cellsOf t) n) with
         | false => rw [hcond] at h; simp at h
         | true =>
           rw [hcond] at h; simp at h; subst h
           simp only [Bool.and_eq_true] at hcond
           obtain ⟨⟨⟨⟨hsc, hm⟩, hm'⟩, hce⟩, hct⟩ := hcond
           have hm := Nat.eq_of_beq_eq_true hm
           have hm' := Nat.eq_of_beq_eq_true hm'
           have hce := Nat.eq_of_beq_eq_true hce
           have hct := Nat.eq_of_beq_eq_true hct
           subst hm
           intro vs us ⟨v1, v2, e1, ⟨hl1, hr1⟩, hr2⟩ ⟨u1, u2, e2, ⟨hl2, hr3⟩, hr4⟩
           have hv1 := rowRel_one (scalar_cell hsc) hr1
           have hu1 := rowRel_one (scalar_cell hsc) hr3
           refine ⟨v1, v2, u1, u2, e1, e2, hr2, hr4, by rw [hv1, hct]; simpa using hl1, by rw [hu1, hct]; simpa using hl2.trans hm', ⟨true, by unfold isAggT; rw [hu], by simp⟩, fun D hD => ?_⟩
           obtain ⟨D', rfl⟩ : ∃ D', D = D' + 1 := ⟨D - 1, by omega⟩
           have hagg : isAggT P t = some true := by unfold isAggT; rw [hu]
           simp only [valOf, hagg, hv1, hu1]
           exact array_eq hu hsc hce D' xs ys hl1 (hl2.trans hm')
       · simp at h
     · simp at h
   · rename_i fs hu
     cases hc : (P.stoodInHeld t || !Nat.beq (sumF P fs.toList) (P.cellsOf t)) with
     | true => rw [hc] at h; simp at h
     | false =>
       rw [hc] at h; simp only [cond_false] at h
       simp only [Bool.or_eq_false_iff, Bool.not_eq_false'] at hc
       have hsz := Nat.eq_of_beq_eq_true hc.2
       intro vs us hv hu'
       obtain ⟨v1, v2, u1, u2, e1, e2, r1, r2, l1, l2, hrun⟩ := eqFs_sound ih fs.toList 0 cs ds x h vs us hv hu'
       have hagg : isAggT P t = some true := by unfold isAggT; rw [hu]
       refine ⟨v1, v2, u1, u2, e1, e2, r1, r2, by omega, by omega, ⟨true, hagg, by simp⟩, fun D hD => ?_⟩
       obtain ⟨D', rfl⟩ : ∃ D', D = D' + 1 := ⟨D - 1, by omega⟩
       have hfo : P.fieldsOf t = fs := by simp [Program.fieldsOf, hu]
       simp only [valOf, hagg]
       rw [run_equalIn_struct w (D' + 1) t _ _ (by rw [hfo]; exact hu) hc.1, hfo]
       simpa using hrun D' (by omega) [] [] [] [] rfl rfl
   · rename_i d h1 h2 hu
     split at h
     · rename_i a r b s
       cases hc : (dvOf (scalarOf P t) a && dvOf (scalarOf P t) b && Nat.beq (P.cellsOf t) 1) with
       | false => rw [hc] at h; simp at h
       | true =>
         rw [hc] at h; simp only [cond_true] at h
         simp only [Bool.and_eq_true] at hc
         split at h
         · rename_i q hq
           simp at h; subst h
           have hct := Nat.eq_of_beq_eq_true hc.2
           intro vs us ⟨v1, v2, e1, ⟨v, hv1, hdv⟩, hr2⟩ ⟨u1, u2, e2, ⟨u, hu1, hdu⟩, hr4⟩
           have hagg : isAggT P t = some false := by
            unfold isAggT
            rw [hu]
            cases d <;> first | rfl | exact (h2 _ rfl).elim | exact (h1 _ _ rfl).elim
           subst hv1; subst hu1
           refine ⟨[v], v2, [u], u2, e1, e2, hr2, hr4, by simp [hct], by simp [hct], ⟨false, hagg, by simp⟩, fun D hD => ?_⟩
           simp only [valOf, hagg, List.getD_cons_zero]
           exact eqDV_sound hc.1.1 hc.1.2 hq hdv hdu D
         · simp at h
     · simp at h
   · simp at h

theorem eqAgg_sound {t : TypeId} {cs ds : List SC} {b : Bool} (h : eqAgg P t cs ds = some b) {vs us : List Value} (hv : scsRel H ρ cs vs) (hu : scsRel H ρ ds us) :
 P.eqGuardType P.depth t = false ∧ (Op.equalIn 10000 t (.agg vs.toArray) (.agg us.toArray)).run P w = .ok b w := by
 unfold eqAgg at h
 cases hg : P.eqGuardType P.depth t with
 | true => rw [hg] at h; simp at h
 | false =>
   rw [hg] at h; simp only [cond_false] at h
   split at h
   · rename_i b' ha heq
     simp at h; subst h
     obtain ⟨v1, v2, u1, u2, rfl, rfl, r1, r2, l1, l2, _, hrun⟩ := eqTake_sound (P := P) (w := w) (H := H) (ρ := ρ) _ _ _ _ _ heq _ _ hv hu
     simp only [scsRel] at r1 r2
     subst r1; subst r2
     refine ⟨rfl, ?_⟩
     have := hrun 9999 (by decide)
     simpa [valOf, ha] using this
   · simp at h

end Go.Vse
