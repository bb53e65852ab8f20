/- Bytes in order: the laws of the order. No program in sight. -/
import Derived.Test.YtglkhgodeghnlaaWSalWord
set_option maxRecDepth 100000
namespace Go.Sal
open Go.Vse
theorem lessL_irr : ∀ a : Bytes, lessL a a = false
 | [] => rfl
 | x :: r => by
   unfold lessL
   rw [lessL_irr r]
   simp
theorem lessL_trans : ∀ {a b c : Bytes}, lessL a b = true → lessL b c = true → lessL a c = true
 | [], b, [], _, h => by cases b <;> simp [lessL] at h
 | [], _, _ :: _, _, _ => rfl
 | _ :: _, [], _, h, _ => by simp [lessL] at h
 | _ :: _, _ :: _, [], _, h => by simp [lessL] at h
 | x :: a, y :: b, z :: c, h, k => by
   simp only [lessL, Bool.or_eq_true, Bool.and_eq_true, decide_eq_true_eq, beq_iff_eq] at h k ⊢
   rcases h with h | ⟨rfl, h⟩
   · rcases k with k | ⟨rfl, k⟩
     · exact .inl (BitVec.lt_trans h k)
     · exact .inl h
   · rcases k with k | ⟨rfl, k⟩
     · exact .inl k
     · exact .inr ⟨rfl, lessL_trans h k⟩
theorem lessL_tri : ∀ {a b : Bytes}, lessL a b = false → lessL b a = false → a = b
 | [], [], _, _ => rfl
 | [], _ :: _, h, _ => by simp [lessL] at h
 | _ :: _, [], _, h => by simp [lessL] at h
 | x :: a, y :: b, h, k => by
   simp only [lessL, Bool.or_eq_false_iff, Bool.and_eq_false_iff, decide_eq_false_iff_not, beq_eq_false_iff_ne, ne_eq] at h k
   have e : x = y := by
    have h1 := h.1
    have k1 := k.1
    rw [BitVec.lt_def] at h1 k1
    exact BitVec.eq_of_toNat_eq (by omega)
   subst e
   rcases h.2 with h2 | h2
   · exact absurd rfl h2
   · rcases k.2 with k2 | k2
     · exact absurd rfl k2
     · rw [lessL_tri h2 k2]
theorem lessL_asym {a b : Bytes} (h : lessL a b = true) : lessL b a = false := by
 cases k : lessL b a with
 | false => rfl
 | true => rw [← lessL_irr a, lessL_trans h k]
theorem lessL_ltle {a b c : Bytes} (h : lessL b a = false) (k : lessL b c = true) : lessL a c = true := by
 cases hb : lessL a b with
 | true => exact lessL_trans hb k
 | false => rw [lessL_tri hb h]; exact k
theorem lessL_lelt {a b c : Bytes} (h : lessL a b = true) (k : lessL c b = false) : lessL a c = true := by
 cases hb : lessL b c with
 | true => exact lessL_trans h hb
 | false => rw [← lessL_tri hb k]; exact h
theorem lessL_lele {a b c : Bytes} (h : lessL b a = false) (k : lessL c b = false) : lessL c a = false := by
 cases hb : lessL c a with
 | false => rfl
 | true => rw [lessL_lelt hb h] at k; cases k
end Go.Sal
