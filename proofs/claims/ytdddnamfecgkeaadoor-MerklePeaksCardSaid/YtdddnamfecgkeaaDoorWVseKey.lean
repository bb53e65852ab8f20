/- Keys of maps: scalars, and arrays or structs of numbers. -/
import Derived.Test.YtdddnamfecgkeaaDoorWVseOpsL
import Derived.DeepKeys3
import Derived.MapKept
namespace Go.Vse
variable {P : Program} {H H' : Mem}

def midx (k : T) {v : Type} : List (k.den × v) → k.den → Option Nat
 | [], _ => none
 | p :: r, x => haveI := k.deq; bif decide (x = p.1) then some 0 else (midx k r x).map (· + 1)

theorem midx_none {k : T} {v : Type} : ∀ {es : List (k.den × v)} {x : k.den}, midx k es x = none → mget k es x = none ∧ (∀ y, mput k es x y = es ++ [(x, y)]) ∧ mdel k es x = es
 | [], _, _ => ⟨rfl, fun _ => rfl, rfl⟩
 | p :: r, x, h => by
   simp only [midx] at h
   cases hd : (haveI := k.deq; decide (x = p.1)) with
   | true => simp only [hd] at h; cases h
   | false =>
     simp only [hd, cond_false, Option.map_eq_none_iff] at h
     obtain ⟨h1, h2, h3⟩ := midx_none h
     refine ⟨?_, fun y => ?_, ?_⟩
     · simp only [mget, hd, cond_false, h1]
     · simp only [mput, hd, cond_false, h2, List.cons_append]
     · simp only [mdel, hd, cond_false, h3]
theorem midx_some {k : T} {v : Type} : ∀ {es : List (k.den × v)} {x : k.den} {j : Nat}, midx k es x = some j → ∃ y, es[j]? = some (x, y) ∧ mget k es x = some y ∧ (∀ y', mput k es x y' = es.set j (x, y')) ∧ mdel k es x = es.eraseIdx j
 | [], _, _, h => by simp [midx] at h
 | p :: r, x, j, h => by
   simp only [midx] at h
   cases hd : (haveI := k.deq; decide (x = p.1)) with
   | true =>
     simp only [hd, cond_true, Option.some.injEq] at h
     subst h
     have hx : x = p.1 := by
      letI := k.deq
      exact of_decide_eq_true hd
     refine ⟨p.2, by rw [hx]; rfl, ?_, fun y' => ?_, ?_⟩
     · simp only [mget, hd, cond_true]
     · simp only [mput, hd, cond_true, List.set_cons_zero]
       rw [hx]
     · simp only [mdel, hd, cond_true, List.eraseIdx_cons_zero]
   | false =>
     simp only [hd, cond_false, Option.map_eq_some_iff] at h
     obtain ⟨i, hi, rfl⟩ := h
     obtain ⟨y, h1, h2, h3, h4⟩ := midx_some hi
     refine ⟨y, by simpa using h1, ?_, fun y' => ?_, ?_⟩
     · simp only [mget, hd, cond_false, h2]
     · simp only [mput, hd, cond_false, h3, List.set_cons_succ]
     · simp only [mdel, hd, cond_false, h4, List.eraseIdx_cons_succ]

theorem scalar_now {e : TypeId} {c : T} (h : scalarT P e c = true) : ∃ d, P.underlying e = some d ∧ (∀ x : c.den, MapKept.IsKey d (cellOf c x)) ∧ ∀ x y : c.den, Instr.sameNow d (cellOf c x) (cellOf c y) = some (haveI := c.deq; decide (x = y)) := by
 have hb : ∀ (n : Nat) (x y : BitVec n), ((x.toNat : Int) == y.toNat) = decide (x = y) := by
  intro n x y
  rw [Bool.eq_iff_iff, beq_iff_eq, decide_eq_true_iff]
  exact ⟨fun e => BitVec.eq_of_toNat_eq (by omega), fun e => by rw [e]⟩
 unfold scalarT at h
 split at h <;> first | (simp at h; done) | skip
 · rename_i hu; exact ⟨_, hu, fun _ => rfl, fun x y => by simp only [cellOf, Instr.sameNow, if_true]; rw [hb 8 x y]; rfl⟩
 · rename_i hu; exact ⟨_, hu, fun _ => rfl, fun x y => by simp only [cellOf, Instr.sameNow, if_true]; rw [hb 16 x y]; rfl⟩
 · rename_i hu; exact ⟨_, hu, fun _ => rfl, fun x y => by simp only [cellOf, Instr.sameNow, if_true]; rw [hb 32 x y]; rfl⟩
 · rename_i hu; exact ⟨_, hu, fun _ => rfl, fun x y => by simp only [cellOf, Instr.sameNow, if_true]; rw [hb 64 x y]; rfl⟩
 · rename_i hu; exact ⟨_, hu, fun _ => rfl, fun x y => by simp only [cellOf, Instr.sameNow, if_true]; rfl⟩
 · rename_i hu; exact ⟨_, hu, fun _ => trivial, fun x y => by simp only [cellOf, Instr.sameNow]; cases x <;> cases y <;> rfl⟩
 · rename_i hu
   refine ⟨_, hu, fun _ => trivial, fun x y => ?_⟩
   simp only [cellOf, Instr.sameNow]
   congr 1
   rw [Bool.eq_iff_iff, MapKept.bytes_beq, decide_eq_true_iff]
   refine ⟨fun e => ?_, fun e => by rw [e]⟩
   have := congrArg ByteArray.toList e
   rw [toBA_list, toBA_list] at this
   exact map_ofBV_inj.1 this

theorem key_cell {e : TypeId} {c : T} (h : scalarT P e c = true) {x : c.den} {v : Value} (hx : datV H false c x v) : v = cellOf c x := by
 obtain ⟨cs, h1, h2⟩ := hx
 simp only [Bool.false_eq_true, if_false] at h2
 have := scalar_cell h x cs h1
 rw [h2] at this
 simpa using this

theorem find_run {kty : TypeId} {kt vt : T} {va : Bool} {d : TypeDesc} (hsame : ∀ x y : kt.den, Instr.sameNow d (cellOf kt x) (cellOf kt y) = some (haveI := kt.deq; decide (x = y))) (hsc : scalarT P kty kt = true) (x : kt.den) :
 ∀ {es : List (kt.den × vt.den)} {en : List MapEntry} (_ : entRel H false kt va vt es en) (i : Nat), ∃ r, Instr.findNow d (cellOf kt x) en i = some r ∧
  match midx kt es x with
  | none => r = none
  | some j => ∃ e y, r = some (i + j, e.val) ∧ en[j]? = some e ∧ es[j]? = some (x, y) ∧ e.key = cellOf kt x ∧ datV H va vt y e.val
 | [], [], _, i => ⟨none, rfl, rfl⟩
 | p :: r, e :: s, ⟨h1, h2, h3⟩, i => by
   have hk := key_cell hsc h1
   have hs := hsame x p.1
   rw [← hk] at hs
   cases hd : (haveI := kt.deq; decide (x = p.1)) with
   | true =>
     have hx : x = p.1 := by
      letI := kt.deq
      exact of_decide_eq_true hd
     rw [hd] at hs
     refine ⟨some (i, e.val), by simp only [Instr.findNow, hs], ?_⟩
     simp only [midx, hd, cond_true]
     exact ⟨e, p.2, by simp, rfl, by rw [hx]; rfl, by rw [hk, hx], h2⟩
   | false =>
     rw [hd] at hs
     obtain ⟨q, g1, g2⟩ := find_run hsame hsc x h3 (i + 1)
     refine ⟨q, by simp only [Instr.findNow, hs, g1], ?_⟩
     simp only [midx, hd, cond_false]
     cases hm : midx kt r x with
     | none => rw [hm] at g2; exact g2
     | some j =>
       rw [hm] at g2
       obtain ⟨e', y, k1, k2, k3, k4, k5⟩ := g2
       exact ⟨e', y, by rw [k1, show i + 1 + j = i + (j + 1) by omega], by simpa using k2, by simpa using k3, k4, k5⟩
 | [], _ :: _, h, _ => h.elim
 | _ :: _, [], h, _ => h.elim

def sameKind : Value → Value → Prop
 | .bool _, .bool _ => True
 | .int q _, .int q' n' => q' = q ∧ (Lit.int q n').wf = true
 | _, _ => False
inductive Kinds : List Value → List Value → Prop where
 | nil : Kinds [] []
 | cons {a b r s} (h : sameKind a b) (t : Kinds r s) : Kinds (a :: r) (b :: s)
theorem Kinds.length {xs ys : List Value} (h : Kinds xs ys) : xs.length = ys.length := by
 induction h with
 | nil => rfl
 | cons _ _ ih => simp [ih]
theorem Kinds.append {a b c d : List Value} (h : Kinds a b) (h' : Kinds c d) : Kinds (a ++ c) (b ++ d) := by
 induction h with
 | nil => exact h'
 | cons h _ ih => exact .cons h ih
theorem Kinds.drop {xs ys : List Value} (h : Kinds xs ys) : ∀ n, Kinds (xs.drop n) (ys.drop n) := by
 induction h with
 | nil => intro n; simpa using Kinds.nil
 | cons h t ih =>
   intro n
   cases n with
   | zero => exact .cons h t
   | succ n => exact ih n
theorem Kinds.take {xs ys : List Value} (h : Kinds xs ys) : ∀ n, Kinds (xs.take n) (ys.take n) := by
 induction h with
 | nil => intro n; simpa using Kinds.nil
 | cons h t ih =>
   intro n
   cases n with
   | zero => exact .nil
   | succ n => exact .cons h (ih n)
theorem mapM_some {α : Type} {f g : α → Option (List Lit)} : ∀ {l : List α}, (∀ x ∈ l, (f x).isSome = true → (g x).isSome = true) → (l.mapM f).isSome = true → (l.mapM g).isSome = true
 | [], _, _ => rfl
 | x :: r, h, hf => by
   rw [List.mapM_cons] at hf ⊢
   cases hx : f x with
   | none => rw [hx] at hf; cases hf
   | some a =>
     rw [hx] at hf
     have hgx := h x (by simp) (by rw [hx]; rfl)
     obtain ⟨b, hb⟩ := Option.isSome_iff_exists.1 hgx
     rw [hb]
     have hr : (r.mapM f).isSome = true := by
      cases hr : r.mapM f with
      | none => rw [hr] at hf; cases hf
      | some _ => rfl
     have := mapM_some (fun y hy => h y (by simp [hy])) hr
     obtain ⟨c, hc⟩ := Option.isSome_iff_exists.1 this
     rw [hc]; rfl
theorem keyLits_kinds : ∀ (d : Nat) (t : TypeId) {xs ys : List Value}, Kinds xs ys → (P.keyLits d t xs).isSome = true → (P.keyLits d t ys).isSome = true
 | 0, _, _, _, _, h => by cases h
 | d + 1, t, xs, ys, hk, h => by
   unfold Program.keyLits at h ⊢
   cases hu : P.underlying t with
   | none => rw [hu] at h; simp at h
   | some td =>
     rw [hu] at h
     have hl := hk.length
     cases td
     case bool =>
      cases hk with
      | nil => simp at h
      | cons h1 h2 =>
        cases h2 with
        | cons _ _ => simp at h
        | nil =>
          rename_i a b
          cases a <;> simp at h
          cases b <;> simp only [sameKind] at h1
          simp
     case int q =>
      cases hk with
      | nil => simp at h
      | cons h1 h2 =>
        cases h2 with
        | cons _ _ => simp at h
        | nil =>
          rename_i a b
          cases a <;> simp at h
          cases b <;> simp only [sameKind] at h1
          obtain ⟨rfl, hw⟩ := h1
          obtain ⟨rfl, _⟩ := h
          simp [hw]
     case string =>
      cases hk with
      | nil => simp at h
      | cons h1 h2 =>
        cases h2 with
        | cons _ _ => simp at h
        | nil =>
          rename_i a b
          cases a <;> simp at h
          simp only [sameKind] at h1
     case array n e =>
      simp only at h ⊢
      split at h
      · rename_i hlen
        rw [if_pos (hl ▸ hlen)]
        rw [Option.isSome_map] at h ⊢
        exact mapM_some (fun i _ => keyLits_kinds d e ((hk.drop _).take _)) h
      · cases h
     case struct fs =>
      simp only at h ⊢
      split at h
      · rename_i hlen
        rw [if_pos (hl ▸ hlen)]
        rw [Option.isSome_map] at h ⊢
        exact mapM_some (fun f _ => keyLits_kinds d f.type ((hk.drop _).take _)) h
      · cases h
     all_goals (simp at h; done)

theorem rep_eq {α : Type} (x : α) : ∀ n, rep x n = List.replicate n x
 | 0 => rfl
 | n + 1 => by simp [rep, rep_eq x n, List.replicate_succ]

theorem flat_kinds : ∀ {t : T}, flatT t = true → ∀ {x : t.den} {cs : List Value}, eltRel H t x cs → Kinds (zeroL t) cs
 | .u8, _, x, cs, h => by rw [show cs = _ from h]; exact .cons ⟨rfl, by have := x.isLt; have e1 : IntKind.u8.min = 0 := rfl; have e2 : IntKind.u8.max = 255 := rfl; simp [Lit.wf, e1, e2]; omega⟩ .nil
 | .u16, _, x, cs, h => by rw [show cs = _ from h]; exact .cons ⟨rfl, by have := x.isLt; have e1 : IntKind.u16.min = 0 := rfl; have e2 : IntKind.u16.max = 65535 := rfl; simp [Lit.wf, e1, e2]; omega⟩ .nil
 | .u32, _, x, cs, h => by rw [show cs = _ from h]; exact .cons ⟨rfl, by have := x.isLt; have e1 : IntKind.u32.min = 0 := rfl; have e2 : IntKind.u32.max = 4294967295 := rfl; simp [Lit.wf, e1, e2]; omega⟩ .nil
 | .u64, _, x, cs, h => by rw [show cs = _ from h]; exact .cons ⟨rfl, by have := x.isLt; have e1 : IntKind.u64.min = 0 := rfl; have e2 : IntKind.u64.max = 18446744073709551615 := rfl; simp [Lit.wf, e1, e2]; omega⟩ .nil
 | .i64, _, x, cs, h => by rw [h.1]; exact .cons ⟨rfl, by have := h.2; unfold inI64 at this; have e1 : IntKind.i64.min = -9223372036854775808 := rfl; have e2 : IntKind.i64.max = 9223372036854775807 := rfl; simp [Lit.wf, e1, e2]; omega⟩ .nil
 | .bool, _, x, cs, h => by rw [show cs = _ from h]; exact .cons trivial .nil
 | .unit, _, x, cs, h => by rw [show cs = _ from h]; exact .nil
 | .str, h, _, _, _ => by cases h
 | .slc _, h, _, _, _ => by cases h
 | .arr n t, hf, x, cs, h => by
   obtain ⟨hn, hr⟩ := h
   show Kinds (rep (zeroL t) n).flatten cs
   rw [← hn, rep_eq]
   clear hn
   induction x generalizing cs with
   | nil => rw [show cs = [] from hr]; exact .nil
   | cons y ys ih =>
     obtain ⟨a, b, rfl, h1, h2⟩ := hr
     rw [List.length_cons, List.replicate_succ, List.flatten_cons]
     exact (flat_kinds (t := t) hf h1).append (ih _ h2)
 | .pair a b, hf, x, cs, h => by
   obtain ⟨c, d, rfl, h1, h2⟩ := h
   have hf' : (flatT a && flatT b) = true := hf
   rw [Bool.and_eq_true] at hf'
   exact (flat_kinds hf'.1 h1).append (flat_kinds hf'.2 h2)

theorem row_cells {t : T} (hf : ∀ {x : t.den} {cs cs' : List Value}, eltRel H t x cs → eltRel H' t x cs' → cs = cs') : ∀ {xs : List t.den} {cs cs' : List Value}, rowRel (eltRel H t) xs cs → rowRel (eltRel H' t) xs cs' → cs = cs'
 | [], _, _, h, h' => (show _ = [] from h).trans (show _ = [] from h').symm
 | y :: ys, cs, cs', h, h' => by
   obtain ⟨a, b, rfl, h1, h2⟩ := h
   obtain ⟨a', b', rfl, h1', h2'⟩ := h'
   rw [hf h1 h1', row_cells hf h2 h2']
theorem flat_cells : ∀ {t : T}, flatT t = true → ∀ {x : t.den} {cs cs' : List Value}, eltRel H t x cs → eltRel H' t x cs' → cs = cs'
 | .u8, _, x, cs, cs', h, h' => (show cs = _ from h).trans (show cs' = _ from h').symm
 | .u16, _, x, cs, cs', h, h' => (show cs = _ from h).trans (show cs' = _ from h').symm
 | .u32, _, x, cs, cs', h, h' => (show cs = _ from h).trans (show cs' = _ from h').symm
 | .u64, _, x, cs, cs', h, h' => (show cs = _ from h).trans (show cs' = _ from h').symm
 | .i64, _, x, cs, cs', h, h' => h.1.trans h'.1.symm
 | .bool, _, x, cs, cs', h, h' => (show cs = _ from h).trans (show cs' = _ from h').symm
 | .unit, _, x, cs, cs', h, h' => (show cs = _ from h).trans (show cs' = _ from h').symm
 | .str, h, _, _, _, _, _ => by cases h
 | .slc _, h, _, _, _, _, _ => by cases h
 | .arr n t, hf, x, cs, cs', h, h' => by
   exact row_cells (fun g g' => flat_cells (t := t) hf g g') h.2 h'.2
 | .pair a b, hf, x, cs, cs', h, h' => by
   obtain ⟨c, d, rfl, h1, h2⟩ := h
   obtain ⟨c', d', rfl, h1', h2'⟩ := h'
   have hf' : (flatT a && flatT b) = true := hf
   rw [Bool.and_eq_true] at hf'
   rw [flat_cells hf'.1 h1 h1', flat_cells hf'.2 h2 h2']
theorem flat_inj : ∀ {t : T}, flatT t = true → ∀ {x y : t.den} {cs : List Value}, eltRel H t x cs → eltRel H' t y cs → x = y
 | .u8, _, x, y, cs, h, h' => by
   have := (show cs = _ from h).symm.trans (show cs = _ from h')
   simp only [List.cons.injEq, Value.int.injEq, true_and, and_true] at this
   exact BitVec.eq_of_toNat_eq (by omega)
 | .u16, _, x, y, cs, h, h' => by
   have := (show cs = _ from h).symm.trans (show cs = _ from h')
   simp only [List.cons.injEq, Value.int.injEq, true_and, and_true] at this
   exact BitVec.eq_of_toNat_eq (by omega)
 | .u32, _, x, y, cs, h, h' => by
   have := (show cs = _ from h).symm.trans (show cs = _ from h')
   simp only [List.cons.injEq, Value.int.injEq, true_and, and_true] at this
   exact BitVec.eq_of_toNat_eq (by omega)
 | .u64, _, x, y, cs, h, h' => by
   have := (show cs = _ from h).symm.trans (show cs = _ from h')
   simp only [List.cons.injEq, Value.int.injEq, true_and, and_true] at this
   exact BitVec.eq_of_toNat_eq (by omega)
 | .i64, _, x, y, cs, h, h' => by
   have := h.1.symm.trans h'.1
   simpa using this
 | .bool, _, x, y, cs, h, h' => by
   have := (show cs = _ from h).symm.trans (show cs = _ from h')
   simpa using this
 | .unit, _, x, y, cs, h, h' => rfl
 | .str, h, _, _, _, _, _ => by cases h
 | .slc _, h, _, _, _, _, _ => by cases h
 | .arr n t, hf, x, y, cs, h, h' => by
   obtain ⟨hn, hr⟩ := h
   obtain ⟨hn', hr'⟩ := h'
   have hl : List.length x = List.length y := hn.trans hn'.symm
   clear hn hn'
   induction x generalizing y cs with
   | nil =>
     cases y with
     | nil => rfl
     | cons _ _ => cases hl
   | cons z zs ih =>
     cases y with
     | nil => cases hl
     | cons z' zs' =>
       obtain ⟨a, b, rfl, h1, h2⟩ := hr
       obtain ⟨a', b', e, h1', h2'⟩ := hr'
       have e1 : a.length = a'.length := (eltRel_length t _ _ h1).trans (eltRel_length t _ _ h1').symm
       obtain ⟨rfl, rfl⟩ := List.append_inj e e1
       rw [flat_inj (t := t) hf h1 h1', ih _ _ h2 h2' (by simpa using hl)]
 | .pair a b, hf, x, y, cs, h, h' => by
   obtain ⟨c, d, rfl, h1, h2⟩ := h
   obtain ⟨c', d', e, h1', h2'⟩ := h'
   have hf' : (flatT a && flatT b) = true := hf
   rw [Bool.and_eq_true] at hf'
   have e1 : c.length = c'.length := (eltRel_length a _ _ h1).trans (eltRel_length a _ _ h1').symm
   obtain ⟨rfl, rfl⟩ := List.append_inj e e1
   exact Prod.ext (flat_inj hf'.1 h1 h1') (flat_inj hf'.2 h2 h2')
theorem flat_mem : ∀ {t : T}, flatT t = true → ∀ {x : t.den} {cs : List Value}, eltRel H t x cs → eltRel H' t x cs
 | .u8, _, _, _, h => h
 | .u16, _, _, _, h => h
 | .u32, _, _, _, h => h
 | .u64, _, _, _, h => h
 | .i64, _, _, _, h => h
 | .bool, _, _, _, h => h
 | .unit, _, _, _, h => h
 | .str, h, _, _, _ => by cases h
 | .slc _, h, _, _, _ => by cases h
 | .arr n t, hf, x, cs, h => by
   obtain ⟨hn, hr⟩ := h
   refine ⟨hn, ?_⟩
   clear hn
   induction x generalizing cs with
   | nil => exact hr
   | cons y ys ih =>
     obtain ⟨a, b, rfl, h1, h2⟩ := hr
     exact ⟨a, b, rfl, flat_mem (t := t) hf h1, ih _ h2⟩
 | .pair a b, hf, x, cs, h => by
   obtain ⟨c, d, rfl, h1, h2⟩ := h
   have hf' : (flatT a && flatT b) = true := hf
   rw [Bool.and_eq_true] at hf'
   exact ⟨c, d, rfl, flat_mem hf'.1 h1, flat_mem hf'.2 h2⟩

structure KeyOk (P : Program) (kty : TypeId) (ka : Bool) (kt : T) : Prop where
 same : ∀ {H H' : Mem} {x : kt.den} {v v' : Value}, datV H ka kt x v → datV H' ka kt x v' → v = v'
 free : ∀ {H H' : Mem} {x : kt.den} {v : Value}, datV H ka kt x v → datV H' ka kt x v
 check : ∀ {H : Mem} {x : kt.den} {v : Value} (w : World) (em : Bool), datV H ka kt x v → (Instr.checkKey em 10000 kty v).run P w = .ok () w
 stays : ∀ {H : Mem} {x : kt.den} {v : Value} (w : World), datV H ka kt x v → (Instr.keyThatStays v v).run P w = .ok v w
 find : ∀ {H : Mem} {va : Bool} {vt : T} {x : kt.den} {v : Value} (w : World), datV H ka kt x v → ∀ {es : List (kt.den × vt.den)} {en : List MapEntry}, entRel H ka kt va vt es en →
  ∃ r, (Instr.findKey kty v en).run P w = .ok r w ∧ match midx kt es x with
   | none => r = none
   | some j => ∃ e y, r = some (j, e.val) ∧ en[j]? = some e ∧ es[j]? = some (x, y) ∧ e.key = v ∧ datV H va vt y e.val

theorem keyOk_scalar {kty : TypeId} {kt : T} (hsc : scalarT P kty kt = true) : KeyOk P kty false kt := by
 obtain ⟨d, hd, hisk, hsame⟩ := scalar_now hsc
 refine ⟨fun h h' => (key_cell hsc h).trans (key_cell hsc h').symm, fun {H H' x v} h => ?_, fun {H x v} w em h => ?_, fun {H x v} w h => ?_, fun {H va vt x v} w h {es en} hent => ?_⟩
 · obtain ⟨cs, h1, h2⟩ := h
   refine ⟨cs, ?_, h2⟩
   unfold scalarT at hsc
   split at hsc <;> first | exact h1 | cases hsc
 · rw [key_cell hsc h]; exact MapKept.run_checkKey hd (hisk _) em 9999
 · rw [key_cell hsc h]; exact MapKept.run_keyThatStays (hisk _)
 · rw [key_cell hsc h]
   obtain ⟨q, g1, g2⟩ := find_run (P := P) hsame hsc _ hent 0
   refine ⟨q, MapKept.run_findKey hd g1, ?_⟩
   cases hm : midx kt es _ with
   | none => rw [hm] at g2; exact g2
   | some j =>
     rw [hm] at g2
     obtain ⟨e, y, k1, k2, k3, k4, k5⟩ := g2
     exact ⟨e, y, by rw [k1, Nat.zero_add], k2, k3, k4, k5⟩

theorem wide_spec {kty : TypeId} {kt : T} (h : wideT P kty kt = true) : ((match P.underlying kty with | some (.array _ _) | some (.struct _) => true | _ => false) = true) ∧ flatT kt = true ∧ P.keyTypeAt 6 kty = true ∧ P.tiled 6 kty = true ∧ P.keyType kty = true ∧ (P.keyLits (P.types.size + 1) kty (zeroL kt)).isSome = true ∧ P.cellsOf kty = kt.size := by
 unfold wideT at h
 simp only [Bool.and_eq_true] at h
 obtain ⟨⟨⟨⟨⟨⟨h1, h2⟩, h3⟩, h4⟩, h5⟩, h6⟩, h7⟩ := h
 exact ⟨h1, h2, h3, h4, h5, h6, Nat.eq_of_beq_eq_true h7⟩

theorem wide_key {kty : TypeId} {kt : T} (h : wideT P kty kt = true) {H : Mem} {x : kt.den} {v : Value} (hx : datV H true kt x v) : ∃ l, Go.keyOf P kty v = some l := by
 obtain ⟨h1, h2, h3, h4, h5, h6, h7⟩ := wide_spec h
 obtain ⟨cs, g1, g2⟩ := hx
 simp only [if_true] at g2
 subst g2
 have hlen := eltRel_length kt _ _ g1
 have hl := keyLits_kinds (P := P) _ kty (flat_kinds h2 g1) h6
 obtain ⟨L, hL⟩ := Option.isSome_iff_exists.1 hl
 have hf : (Value.agg cs.toArray).formed P kty = true := by
  simp only [Value.formed]
  split at h1
  · rename_i hu; simp only [hu]; simp [hlen, h7]
  · rename_i hu; simp only [hu]; simp [hlen, h7]
  · cases h1
 refine ⟨.string (keyBytes L), ?_⟩
 unfold Go.keyOf
 split at h1
 · rename_i hu; simp only [hu, h5, hf, Bool.and_self, if_true]; simp [Value.cells, hL]
 · rename_i hu; simp only [hu, h5, hf, Bool.and_self, if_true]; simp [Value.cells, hL]
 · cases h1

theorem find_wide {kty : TypeId} {kt vt : T} {va : Bool} (h : wideT P kty kt = true) (w : World) {x : kt.den} {v : Value} (hx : datV H true kt x v) :
 ∀ {es : List (kt.den × vt.den)} {en : List MapEntry} (_ : entRel H true kt va vt es en) (i : Nat), ∃ r, (Instr.findAsking kty v en i).run P w = .ok r w ∧ match midx kt es x with
  | none => r = none
  | some j => ∃ e y, r = some (i + j, e.val) ∧ en[j]? = some e ∧ es[j]? = some (x, y) ∧ e.key = v ∧ datV H va vt y e.val
 | [], [], _, i => ⟨none, by simp [Instr.findAsking], rfl⟩
 | p :: r, e :: s, ⟨h1, h2, h3⟩, i => by
   obtain ⟨k1, k2, k3, k4, k5, k6, k7⟩ := wide_spec h
   obtain ⟨lx, hlx⟩ := wide_key h hx
   obtain ⟨le, hle⟩ := wide_key h h1
   obtain ⟨b, hb, hiff⟩ := run_equal_deep w (m := 6) (by decide) k3 k1 hlx hle
   have hval : x = p.1 ↔ v = e.key := by
    obtain ⟨cs, g1, g2⟩ := hx
    obtain ⟨cs', g1', g2'⟩ := h1
    simp only [if_true] at g2 g2'
    constructor
    · intro ex
      rw [g2, g2']
      rw [← ex] at g1'
      rw [flat_cells k2 g1 g1']
    · intro ev
      rw [g2, g2'] at ev
      have : cs = cs' := by simpa using ev
      rw [this] at g1
      exact flat_inj k2 g1 g1'
   have hbx : b = true ↔ x = p.1 := by
    rw [hiff, hval]
    constructor
    · intro el; rw [el] at hlx; exact keyOf_inj_deep k4 k1 hlx hle
    · intro ev; rw [ev, hle] at hlx; exact (Option.some.inj hlx).symm
   cases hd : (haveI := kt.deq; decide (x = p.1)) with
   | true =>
     have ex : x = p.1 := by
      letI := kt.deq
      exact of_decide_eq_true hd
     have hbt : b = true := hbx.2 ex
     subst hbt
     refine ⟨some (i, e.val), by simp [Instr.findAsking, hb], ?_⟩
     simp only [midx, hd, cond_true]
     exact ⟨e, p.2, by simp, rfl, by rw [ex]; rfl, (hval.1 ex).symm, h2⟩
   | false =>
     have hbf : b = false := by
      cases b with
      | false => rfl
      | true =>
        letI := kt.deq
        exact absurd (hbx.1 rfl) (of_decide_eq_false hd)
     subst hbf
     obtain ⟨q, g1, g2⟩ := find_wide h w hx h3 (i + 1)
     refine ⟨q, by simp [Instr.findAsking, hb, g1], ?_⟩
     simp only [midx, hd, cond_false]
     cases hm : midx kt r x with
     | none => rw [hm] at g2; exact g2
     | some j =>
       rw [hm] at g2
       obtain ⟨e', y, k1, k2, k3, k4, k5⟩ := g2
       exact ⟨e', y, by rw [k1, show i + 1 + j = i + (j + 1) by omega], by simpa using k2, by simpa using k3, k4, k5⟩
 | [], _ :: _, h, _ => h.elim
 | _ :: _, [], h, _ => h.elim

theorem keyOk_wide {kty : TypeId} {kt : T} (h : wideT P kty kt = true) : KeyOk P kty true kt := by
 obtain ⟨k1, k2, k3, k4, k5, k6, k7⟩ := wide_spec h
 have K := deep_law (m := 6) (by decide) k3 k4 k1
 refine ⟨fun {H H' x v v'} h1 h2 => ?_, fun {H H' x v} h1 => ?_, fun {H x v} w em h1 => ?_, fun {H x v} w h1 => ?_, fun {H va vt x v} w h1 {es en} hent => ?_⟩
 · obtain ⟨cs, g1, g2⟩ := h1
   obtain ⟨cs', g1', g2'⟩ := h2
   simp only [if_true] at g2 g2'
   rw [g2, g2', flat_cells k2 g1 g1']
 · obtain ⟨cs, g1, g2⟩ := h1
   exact ⟨cs, flat_mem k2 g1, g2⟩
 · obtain ⟨l, hl⟩ := wide_key h h1
   exact K.check w em hl
 · obtain ⟨l, hl⟩ := wide_key h h1
   exact K.stays w hl
 · obtain ⟨r, g1, g2⟩ := find_wide h w h1 hent 0
   refine ⟨r, by rw [run_findKey_eq w k1]; exact g1, ?_⟩
   cases hm : midx kt es x with
   | none => rw [hm] at g2; exact g2
   | some j =>
     rw [hm] at g2
     obtain ⟨e, y, q1, q2, q3, q4, q5⟩ := g2
     exact ⟨e, y, by rw [q1, Nat.zero_add], q2, q3, q4, q5⟩

theorem keyOk_of {kty : TypeId} {ka : Bool} {kt : T} (h : keyT P kty ka kt = true) : KeyOk P kty ka kt := by
 unfold keyT at h
 cases ka with
 | true => exact keyOk_wide h
 | false => exact keyOk_scalar h

end Go.Vse
