/- Operations on numbers, truth values, texts. -/
import Derived.Test.YtglkhgodeghnlaaWVseMem
namespace Go.Vse
variable {P : Program} {w : World} {H : Mem} {ρ : Lab} {a : Array Value}

theorem wrapU (k : IntKind) (hk : k.signed = false) (n : Int) : k.wrap n = ((BitVec.ofInt k.bits n).toNat : Int) := by
 unfold IntKind.wrap
 simp only [hk, Bool.false_and, Bool.false_eq_true, if_false, BitVec.toNat_ofInt]
 have h : (0:Int) ≤ n % 2 ^ k.bits := Int.emod_nonneg _ (by have : (0:Int) < 2 ^ k.bits := Int.pow_pos (by decide); omega)
 rw [show ((2 ^ k.bits : Nat) : Int) = 2 ^ k.bits from by simp]
 omega
theorem wrapI {n : Int} (h : inI64 n) : IntKind.i64.wrap n = n := by
 unfold inI64 at h
 show (if (true && decide (n % 2 ^ 64 ≥ 2 ^ 63)) = true then n % 2 ^ 64 - 2 ^ 64 else n % 2 ^ 64) = n
 by_cases h1 : n % 2 ^ 64 ≥ 2 ^ 63
 · rw [if_pos (by simpa using h1)]; omega
 · rw [if_neg (by simpa using h1)]; omega
theorem wrapT (n : Int) : IntKind.i64.wrap n = (BitVec.ofInt 64 n).toInt := by
 rw [BitVec.toInt_ofInt]
 show (if (true && decide (n % 2 ^ 64 ≥ 2 ^ 63)) = true then n % 2 ^ 64 - 2 ^ 64 else n % 2 ^ 64) = _
 unfold Int.bmod
 by_cases h1 : n % 2 ^ 64 ≥ 2 ^ 63
 · rw [if_pos (by simpa using h1), if_neg (by omega)]; omega
 · rw [if_neg (by simpa using h1), if_pos (by omega)]; omega
theorem toInt_in (x : BitVec 64) : inI64 x.toInt := by
 have := x.toInt_lt
 have := x.le_toInt
 unfold inI64
 simp at *
 omega

theorem ofInt_add (w : Nat) (x y : BitVec w) : BitVec.ofInt w (x.toNat + y.toNat) = x + y := by
 rw [BitVec.ofInt_add]; simp
theorem ofInt_sub (w : Nat) (x y : BitVec w) : BitVec.ofInt w (x.toNat - y.toNat) = x - y := by
 rw [Int.sub_eq_add_neg, BitVec.ofInt_add, BitVec.ofInt_neg]; simp [BitVec.sub_eq_add_neg]
theorem ofInt_mul (w : Nat) (x y : BitVec w) : BitVec.ofInt w (x.toNat * y.toNat) = x * y := by
 rw [BitVec.ofInt_mul]; simp
theorem ofInt_nat (w : Nat) (x : BitVec w) : BitVec.ofInt w x.toNat = x := by simp

theorem small_nat {w n : Nat} (h : n < 2 ^ w) : (BitVec.ofInt w (n : Int)).toNat = n := by
 simp [Nat.mod_eq_of_lt h]

theorem bvOp_sound (k : IntKind) (hk : k.signed = false) (mk : BitVec k.bits → DV) (hmk : ∀ x v, dvRel H (mk x) v ↔ v = .int k (x.toNat : Int))
 {op : BinOp} {x y : BitVec k.bits} {r : Res} (h : bvOp mk op x y = some r) (hv : vcT r.vc) (t : TypeId) :
 r.upd = [] ∧ ∃ v, (binOp op t (.int k (x.toNat : Int)) (.int k (y.toNat : Int))).run P w = .ok v w ∧ slRel H ρ a r.out v := by
 cases op <;> simp only [bvOp, dval, owed, Option.some.injEq, reduceCtorEq] at h <;> subst h <;> refine ⟨rfl, ?_⟩
 case add => exact ⟨_, by simp [binOp, Op.intArith]; rfl, (hmk _ _).2 (by rw [wrapU k hk, ofInt_add])⟩
 case sub => exact ⟨_, by simp [binOp, Op.intArith]; rfl, (hmk _ _).2 (by rw [wrapU k hk, ofInt_sub])⟩
 case mul => exact ⟨_, by simp [binOp, Op.intArith]; rfl, (hmk _ _).2 (by rw [wrapU k hk, ofInt_mul])⟩
 case quo =>
  have hy : (y.toNat : Int) ≠ 0 := fun e => hv (BitVec.eq_of_toNat_eq (by simpa using e))
  refine ⟨.int k (k.wrap (Int.tdiv x.toNat y.toNat)), by simp only [binOp, Op.intDiv]; rw [if_neg hy]; simp, (hmk _ _).2 ?_⟩
  rw [wrapU k hk, ← Int.ofNat_tdiv, small_nat (Nat.lt_of_le_of_lt (Nat.div_le_self _ _) x.isLt), BitVec.toNat_udiv]
 case rem =>
  have hy : (y.toNat : Int) ≠ 0 := fun e => hv (BitVec.eq_of_toNat_eq (by simpa using e))
  refine ⟨.int k (Int.tmod x.toNat y.toNat), by simp only [binOp, Op.intDiv]; rw [if_neg hy]; simp, (hmk _ _).2 ?_⟩
  rw [← Int.ofNat_tmod, BitVec.toNat_umod]
 case and => exact ⟨.int k (k.wrap ((BitVec.ofInt k.bits x.toNat &&& BitVec.ofInt k.bits y.toNat).toNat : Int)), by simp only [binOp, Op.intBits]; simp, (hmk _ _).2 (by rw [wrapU k hk, ofInt_nat, ofInt_nat, ofInt_nat])⟩
 case or => exact ⟨.int k (k.wrap ((BitVec.ofInt k.bits x.toNat ||| BitVec.ofInt k.bits y.toNat).toNat : Int)), by simp only [binOp, Op.intBits]; simp, (hmk _ _).2 (by rw [wrapU k hk, ofInt_nat, ofInt_nat, ofInt_nat])⟩
 case xor => exact ⟨.int k (k.wrap ((BitVec.ofInt k.bits x.toNat ^^^ BitVec.ofInt k.bits y.toNat).toNat : Int)), by simp only [binOp, Op.intBits]; simp, (hmk _ _).2 (by rw [wrapU k hk, ofInt_nat, ofInt_nat, ofInt_nat])⟩
 case andNot => exact ⟨.int k (k.wrap ((BitVec.ofInt k.bits x.toNat &&& ~~~(BitVec.ofInt k.bits y.toNat)).toNat : Int)), by simp only [binOp, Op.intBits]; simp, (hmk _ _).2 (by rw [wrapU k hk, ofInt_nat, ofInt_nat, ofInt_nat])⟩
 case eql => exact ⟨_, by simp only [binOp, Op.intCmp]; simp only [ne_eq, not_true_eq_false, if_false]; rfl, by show _ = _; congr 1; rw [Bool.eq_iff_iff, beq_iff_eq, beq_iff_eq]; exact ⟨fun e => BitVec.eq_of_toNat_eq (by omega), fun e => by rw [e]⟩⟩
 case neq => exact ⟨_, by simp only [binOp, Op.intCmp]; simp only [ne_eq, not_true_eq_false, if_false]; rfl, by show _ = _; congr 1; rw [Bool.eq_iff_iff, bne_iff_ne, bne_iff_ne]; exact ⟨fun e h => e (by rw [h]), fun e h => e (BitVec.eq_of_toNat_eq (by omega))⟩⟩
 case lss => exact ⟨.bool (decide (x < y)), by simp [binOp, Op.intCmp, BitVec.lt_def], rfl⟩
 case leq => exact ⟨.bool (decide (x ≤ y)), by simp [binOp, Op.intCmp, BitVec.le_def], rfl⟩
 case gtr => exact ⟨.bool (decide (y < x)), by simp [binOp, Op.intCmp, BitVec.lt_def], rfl⟩
 case geq => exact ⟨.bool (decide (y ≤ x)), by simp [binOp, Op.intCmp, BitVec.le_def], rfl⟩

theorem i64Op_sound {op : BinOp} {x y : Int} {r : Res} (h : i64Op op x y = some r) (hv : vcT r.vc) (hx : inI64 x) (hy : inI64 y) (t : TypeId) :
 r.upd = [] ∧ ∃ v, (binOp op t (.int .i64 x) (.int .i64 y)).run P w = .ok v w ∧ slRel H ρ a r.out v := by
 cases op <;> simp only [i64Op, dval, owed, Option.some.injEq, reduceCtorEq] at h <;> subst h <;> refine ⟨rfl, ?_⟩
 case add => exact ⟨_, by simp [binOp, Op.intArith]; rfl, ⟨by rw [wrapI hv], hv⟩⟩
 case sub => exact ⟨_, by simp [binOp, Op.intArith]; rfl, ⟨by rw [wrapI hv], hv⟩⟩
 case mul => exact ⟨_, by simp [binOp, Op.intArith]; rfl, ⟨by rw [wrapI hv], hv⟩⟩
 case quo => exact ⟨.int .i64 (x.tdiv y), by simp only [binOp, Op.intDiv]; rw [if_neg hv.1, wrapI hv.2]; rfl, ⟨rfl, hv.2⟩⟩
 case rem =>
  refine ⟨.int .i64 (x.tmod y), by simp only [binOp, Op.intDiv]; rw [if_neg hv]; rfl, ⟨rfl, ?_⟩⟩
  unfold inI64 at *
  have h1 : (x.tmod y).natAbs = x.natAbs % y.natAbs := Int.natAbs_tmod x y
  have h2 : x.natAbs % y.natAbs ≤ x.natAbs := Nat.mod_le _ _
  have h3 : x.natAbs % y.natAbs < y.natAbs := Nat.mod_lt _ (by have : y ≠ 0 := hv; omega)
  omega
 case and => exact ⟨.int .i64 (IntKind.i64.wrap ((BitVec.ofInt IntKind.i64.bits x &&& BitVec.ofInt IntKind.i64.bits y).toNat : Int)), by simp only [binOp, Op.intBits]; simp, ⟨by rw [wrapT]; exact congrArg (fun z : BitVec 64 => Value.int .i64 z.toInt) (ofInt_nat 64 (BitVec.ofInt 64 x &&& BitVec.ofInt 64 y)), toInt_in _⟩⟩
 case or => exact ⟨.int .i64 (IntKind.i64.wrap ((BitVec.ofInt IntKind.i64.bits x ||| BitVec.ofInt IntKind.i64.bits y).toNat : Int)), by simp only [binOp, Op.intBits]; simp, ⟨by rw [wrapT]; exact congrArg (fun z : BitVec 64 => Value.int .i64 z.toInt) (ofInt_nat 64 (BitVec.ofInt 64 x ||| BitVec.ofInt 64 y)), toInt_in _⟩⟩
 case xor => exact ⟨.int .i64 (IntKind.i64.wrap ((BitVec.ofInt IntKind.i64.bits x ^^^ BitVec.ofInt IntKind.i64.bits y).toNat : Int)), by simp only [binOp, Op.intBits]; simp, ⟨by rw [wrapT]; exact congrArg (fun z : BitVec 64 => Value.int .i64 z.toInt) (ofInt_nat 64 (BitVec.ofInt 64 x ^^^ BitVec.ofInt 64 y)), toInt_in _⟩⟩
 case eql => exact ⟨_, by simp [binOp, Op.intCmp], rfl⟩
 case neq => exact ⟨_, by simp [binOp, Op.intCmp], rfl⟩
 case lss => exact ⟨_, by simp [binOp, Op.intCmp], rfl⟩
 case leq => exact ⟨_, by simp [binOp, Op.intCmp], rfl⟩
 case gtr => exact ⟨_, by simp [binOp, Op.intCmp], rfl⟩
 case geq => exact ⟨_, by simp [binOp, Op.intCmp], rfl⟩

end Go.Vse
