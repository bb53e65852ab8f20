/- What symbolic values say of the machine's values; lemmas on rows and runs. -/
import Derived.Test.YtglkhgodeghnlaaWVseExec
namespace Go.Vse

abbrev Mem := Nat → Nat → Option Value
abbrev Lab := Nat → Option Value

def LIM : Nat := 9223372036854775807
def toBA (l : List (BitVec 8)) : ByteArray := ⟨(l.map UInt8.ofBitVec).toArray⟩

def rowRel {α : Type} (R : α → List Value → Prop) : List α → List Value → Prop
 | [], cs => cs = []
 | x :: xs, cs => ∃ a b, cs = a ++ b ∧ R x a ∧ rowRel R xs b

def cellsIn (H : Mem) (b off : Nat) (cs : List Value) : Prop := ∀ i, i < cs.length → H b (off + i) = cs[i]?

def noneV (v : Value) : Prop := v = .slice none 0 0 ∨ ∃ a, v = .slice (some a) 0 0
def sliceRel {α : Type} (H : Mem) (R : α → List Value → Prop) (xs : List α) (v : Value) : Prop :=
 xs.length ≤ LIM ∧ ((xs = [] ∧ noneV v) ∨
  ∃ b off cap cs, v = .slice (some ⟨b, off, none⟩) xs.length cap ∧ xs.length ≤ cap ∧ rowRel R xs cs ∧ cellsIn H b off cs)

def eltRel (H : Mem) : (t : T) → t.den → List Value → Prop
 | .u8, x, cs => cs = [.int .u8 (x.toNat : Int)]
 | .u16, x, cs => cs = [.int .u16 (x.toNat : Int)]
 | .u32, x, cs => cs = [.int .u32 (x.toNat : Int)]
 | .u64, x, cs => cs = [.int .u64 (x.toNat : Int)]
 | .i64, n, cs => cs = [.int .i64 n] ∧ inI64 n
 | .bool, b, cs => cs = [.bool b]
 | .str, l, cs => cs = [.string (toBA l)] ∧ l.length ≤ LIM
 | .unit, _, cs => cs = []
 | .arr n t, xs, cs => xs.length = n ∧ rowRel (eltRel H t) xs cs
 | .slc t, xs, cs => ∃ v, cs = [v] ∧ sliceRel H (eltRel H t) xs v
 | .pair a b, p, cs => ∃ c d, cs = c ++ d ∧ eltRel H a p.1 c ∧ eltRel H b p.2 d

def dvRel (H : Mem) : DV → Value → Prop
 | .u8 x, v => v = .int .u8 (x.toNat : Int)
 | .u16 x, v => v = .int .u16 (x.toNat : Int)
 | .u32 x, v => v = .int .u32 (x.toNat : Int)
 | .u64 x, v => v = .int .u64 (x.toNat : Int)
 | .i64 n, v => v = .int .i64 n ∧ inI64 n
 | .bool b, v => v = .bool b
 | .str l, v => v = .string (toBA l) ∧ l.length ≤ LIM
 | .nils _, v => v = .slice none 0 0
 | .imm t xs, v => sliceRel H (eltRel H t) xs v
 | .cst u, v => v = u ∧ isNilV u = true

def runRel (H : Mem) : Run → List Value → Prop
 | .one d, cs => ∃ v, cs = [v] ∧ dvRel H d v
 | .many t n xs, cs => xs.length = n ∧ rowRel (eltRel H t) xs cs
def runsRel (H : Mem) : List Run → List Value → Prop
 | [], cs => cs = []
 | r :: rs, cs => ∃ a b, cs = a ++ b ∧ runRel H r a ∧ runsRel H rs b

def pathOff : List Hop → Nat
 | [] => 0
 | h :: p => h.off + h.e * h.s + pathOff p
def litOk : List Hop → Prop
 | [] => True
 | h :: p => (h.lit = true → h.e < h.n) ∧ litOk p

def datV (H : Mem) (agg : Bool) (t : T) (x : t.den) (v : Value) : Prop := ∃ cs, eltRel H t x cs ∧ (if agg = true then v = .agg cs.toArray else cs = [v])
def entRel (H : Mem) (ka : Bool) (kt : T) (va : Bool) (vt : T) : List (kt.den × vt.den) → List MapEntry → Prop
 | [], [] => True
 | p :: r, e :: s => datV H ka kt p.1 e.key ∧ datV H va vt p.2 e.val ∧ entRel H ka kt va vt r s
 | _, _ => False

def refRel (ρ : Lab) : Ref → Value → Prop
 | .cell l p off, v => ∃ b, ρ l = some (.pointer (some ⟨b, 0, none⟩)) ∧ v = .pointer (some ⟨b, pathOff p + off, none⟩) ∧ litOk p
 | .win l p off t start len n _, v => ∃ b cap, ρ l = some (.pointer (some ⟨b, 0, none⟩)) ∧ v = .slice (some ⟨b, pathOff p + off + start * t.size, none⟩) len cap ∧
     litOk p ∧ start + len ≤ n ∧ len ≤ cap ∧ len ≤ LIM
 | .map l, v => ∃ r, ρ l = some (.map (some r)) ∧ v = .map (some r)
 | .row l, v => ρ l = some v ∧ ∃ a n c, v = .slice a n c
 | .elt l p off, v => ∃ b n c, ρ l = some (.slice (some ⟨b, 0, none⟩) n c) ∧ v = .pointer (some ⟨b, pathOff p + off, none⟩) ∧ litOk p
 | .ewin l p off t start len n, v => ∃ b m c cap, ρ l = some (.slice (some ⟨b, 0, none⟩) m c) ∧ v = .slice (some ⟨b, pathOff p + off + start * t.size, none⟩) len cap ∧
     litOk p ∧ start + len ≤ n ∧ len ≤ cap ∧ len ≤ LIM
 | .cwin l n, v => ∃ b, ρ l = some (.pointer (some ⟨b, 0, none⟩)) ∧ v = .slice (some ⟨b, 0, none⟩) n n ∧ n ≤ LIM

def ownRel (H : Mem) (ρ : Lab) (k : Nat) (t : T) (xs : List t.den) (v : Value) : Prop :=
 ρ k = some v ∧ sliceRel H (eltRel H t) xs v ∧ (∀ a n c, v = .slice (some a) n c → a.off = 0)
def fullRel (H : Mem) (t : T) (xs : List t.den) (v : Value) : Prop :=
 sliceRel H (eltRel H t) xs v ∧ (∀ a n c, v = .slice (some a) n c → c = n)

def scRel (H : Mem) (ρ : Lab) : SC → List Value → Prop
 | .run r, cs => runRel H r cs
 | .ref r, cs => ∃ v, cs = [v] ∧ refRel ρ r v
 | .own k t xs, cs => ∃ v, cs = [v] ∧ ownRel H ρ k t xs v
def scsRel (H : Mem) (ρ : Lab) : List SC → List Value → Prop
 | [], cs => cs = []
 | r :: rs, cs => ∃ a b, cs = a ++ b ∧ scRel H ρ r a ∧ scsRel H ρ rs b

def capsRel (H : Mem) : List (List Run) → List Value → Prop
 | [], vs => vs = []
 | rs :: r, vs => ∃ b off cs w, vs = .pointer (some ⟨b, off, none⟩) :: w ∧ runsRel H rs cs ∧ cellsIn H b off cs ∧ capsRel H r w

def svRel (H : Mem) (ρ : Lab) : SV → Value → Prop
 | .dv d, v => dvRel H d v
 | .own k t xs, v => ownRel H ρ k t xs v
 | .full t xs, v => fullRel H t xs v
 | .ref r, v => refRel ρ r v
 | .ipt rs, v => ∃ b off cs, v = .pointer (some ⟨b, off, none⟩) ∧ runsRel H rs cs ∧ cellsIn H b off cs
 | .agg cs, v => ∃ vs : List Value, v = .agg vs.toArray ∧ scsRel H ρ cs vs
 | .clo f [], v => v = .func (.func f) #[] #[]
 | .clo f (c :: r), v => ∃ vs : List Value, v = .func (.func f) #[] vs.toArray ∧ capsRel H (c :: r) vs
 | .top, _ => True
def svsRel (H : Mem) (ρ : Lab) : List SV → List Value → Prop
 | [], vs => vs = []
 | s :: r, vs => ∃ v w, vs = v :: w ∧ svRel H ρ s v ∧ svsRel H ρ r w

def slRel (H : Mem) (ρ : Lab) (a : Array Value) : Sl → Value → Prop
 | .sv s, v => svRel H ρ s v
 | .tup ss, v => ∃ vs : List Value, v = .tuple vs.toArray ∧ svsRel H ρ ss vs
 | .cond g want s, v => (a[g]? = some (.bool want) → svRel H ρ s v) ∧ (a[g]? ≠ some (.bool want) → v = undef)
 | .un, _ => True

section rows
variable {α : Type} {R : α → List Value → Prop}

theorem rowRel_append {xs ys : List α} {cs : List Value} : rowRel R (xs ++ ys) cs ↔ ∃ a b, cs = a ++ b ∧ rowRel R xs a ∧ rowRel R ys b := by
 induction xs generalizing cs with
 | nil =>
   simp only [List.nil_append, rowRel]
   exact ⟨fun h => ⟨[], cs, rfl, rfl, h⟩, fun ⟨_, _, hab, ha, h⟩ => by subst ha; subst hab; simpa using h⟩
 | cons x xs ih =>
   simp only [List.cons_append, rowRel, ih]
   constructor
   · rintro ⟨a, _, rfl, hx, a', b', rfl, h1, h2⟩
     exact ⟨a ++ a', b', by simp, ⟨a, a', rfl, hx, h1⟩, h2⟩
   · rintro ⟨_, b, rfl, ⟨a, a', rfl, hx, h1⟩, h2⟩
     exact ⟨a, a' ++ b, by simp, hx, a', b, rfl, h1, h2⟩

theorem rowRel_length {s : Nat} (hs : ∀ x cs, R x cs → cs.length = s) {xs : List α} {cs : List Value} (h : rowRel R xs cs) : cs.length = xs.length * s := by
 induction xs generalizing cs with
 | nil => simp [rowRel] at h; simp [h]
 | cons x xs ih =>
   obtain ⟨a, b, rfl, hx, hr⟩ := h
   simp [hs x a hx, ih hr, Nat.add_mul, Nat.add_comm]

theorem rowRel_mono {R' : α → List Value → Prop} (hR : ∀ x cs, R x cs → R' x cs) {xs : List α} {cs : List Value} (h : rowRel R xs cs) : rowRel R' xs cs := by
 induction xs generalizing cs with
 | nil => exact h
 | cons x xs ih =>
   obtain ⟨a, b, rfl, hx, hr⟩ := h
   exact ⟨a, b, rfl, hR _ _ hx, ih hr⟩

theorem rowRel_take {s : Nat} (hs : ∀ x cs, R x cs → cs.length = s) {xs : List α} {cs : List Value} (h : rowRel R xs cs) (n : Nat) :
 rowRel R (xs.take n) (cs.take (n * s)) ∧ rowRel R (xs.drop n) (cs.drop (n * s)) := by
 have h' := h
 rw [← List.take_append_drop n xs, rowRel_append] at h'
 obtain ⟨a, b, rfl, h1, h2⟩ := h'
 have l1 := rowRel_length hs h1
 by_cases hn : n ≤ xs.length
 · have : a.length = n * s := by rw [l1, List.length_take, Nat.min_eq_left hn]
   rw [← this]; simp [h1, h2]
 · have hd : xs.drop n = [] := List.drop_eq_nil_of_le (by omega)
   rw [hd] at h2
   simp only [rowRel] at h2
   subst h2
   have : a.length ≤ n * s := by rw [l1]; exact Nat.mul_le_mul_right _ (List.length_take_le _ _)
   rw [List.append_nil, List.take_of_length_le this, List.drop_eq_nil_of_le this, hd]
   exact ⟨h1, rfl⟩

end rows

theorem eltRel_length {H : Mem} : ∀ (t : T) (x : t.den) (cs : List Value), eltRel H t x cs → cs.length = t.size
 | .u8, _, _, h => by simp only [eltRel] at h; subst h; rfl
 | .u16, _, _, h => by simp only [eltRel] at h; subst h; rfl
 | .u32, _, _, h => by simp only [eltRel] at h; subst h; rfl
 | .u64, _, _, h => by simp only [eltRel] at h; subst h; rfl
 | .i64, _, _, h => by simp only [eltRel] at h; rw [h.1]; rfl
 | .bool, _, _, h => by simp only [eltRel] at h; subst h; rfl
 | .str, _, _, h => by simp only [eltRel] at h; rw [h.1]; rfl
 | .unit, _, _, h => by simp only [eltRel] at h; subst h; rfl
 | .arr n t, xs, cs, h => by
   simp only [eltRel] at h
   have := rowRel_length (fun x cs hx => eltRel_length t x cs hx) h.2
   rw [this, h.1]; rfl
 | .slc t, _, _, h => by
   simp only [eltRel] at h
   obtain ⟨v, rfl, _⟩ := h; rfl
 | .pair a b, p, _, h => by
   simp only [eltRel] at h
   obtain ⟨c, d, rfl, h1, h2⟩ := h
   simp [eltRel_length a _ _ h1, eltRel_length b _ _ h2, T.size]

theorem runRel_length {H : Mem} {r : Run} {cs : List Value} (h : runRel H r cs) : cs.length = r.size := by
 cases r with
 | one d => obtain ⟨v, rfl, _⟩ := h; rfl
 | many t n xs => rw [rowRel_length (eltRel_length t) h.2, h.1]; rfl
theorem scRel_length {H : Mem} {ρ : Lab} {c : SC} {cs : List Value} (h : scRel H ρ c cs) : cs.length = c.size := by
 cases c with
 | run r => exact runRel_length h
 | ref r => obtain ⟨v, rfl, _⟩ := h; rfl
 | own k t xs => obtain ⟨v, rfl, _⟩ := h; rfl
theorem scsRel_length {H : Mem} {ρ : Lab} : ∀ {l : List SC} {cs : List Value}, scsRel H ρ l cs → cs.length = sizeL l
 | [], _, h => by simp only [scsRel] at h; subst h; rfl
 | c :: r, _, h => by
   obtain ⟨a, b, rfl, h1, h2⟩ := h
   simp [scRel_length h1, scsRel_length h2, sizeL]

def Mem.le (H H' : Mem) : Prop := ∀ b o v, H b o = some v → H' b o = some v
def Lab.le (ρ ρ' : Lab) : Prop := ∀ l v, ρ l = some v → ρ' l = some v
theorem Mem.le_refl (H : Mem) : H.le H := fun _ _ _ h => h
theorem Mem.le_trans {A B C : Mem} (h : A.le B) (h' : B.le C) : A.le C := fun b o v x => h' b o v (h b o v x)
theorem Lab.le_refl (ρ : Lab) : ρ.le ρ := fun _ _ h => h
theorem Lab.le_trans {A B C : Lab} (h : A.le B) (h' : B.le C) : A.le C := fun l v x => h' l v (h l v x)

theorem cellsIn_mono {H H' : Mem} (hH : H.le H') {b off : Nat} {cs : List Value} (h : cellsIn H b off cs) : cellsIn H' b off cs := by
 intro i hi
 have := h i hi
 rw [List.getElem?_eq_getElem hi] at this ⊢
 exact hH _ _ _ this
theorem sliceRel_mono {H H' : Mem} (hH : H.le H') {α : Type} {R R' : α → List Value → Prop} (hR : ∀ x cs, R x cs → R' x cs) {xs : List α} {v : Value}
 (h : sliceRel H R xs v) : sliceRel H' R' xs v := by
 obtain ⟨hl, h⟩ := h
 refine ⟨hl, ?_⟩
 rcases h with h | ⟨b, off, cap, cs, hv, hc, hr, hi⟩
 · exact .inl h
 · exact .inr ⟨b, off, cap, cs, hv, hc, rowRel_mono hR hr, cellsIn_mono hH hi⟩
theorem eltRel_mono {H H' : Mem} (hH : H.le H') : ∀ (t : T) (x : t.den) (cs : List Value), eltRel H t x cs → eltRel H' t x cs
 | .u8, _, _, h => h
 | .u16, _, _, h => h
 | .u32, _, _, h => h
 | .u64, _, _, h => h
 | .i64, _, _, h => h
 | .bool, _, _, h => h
 | .str, _, _, h => h
 | .unit, _, _, h => h
 | .arr n t, _, _, h => ⟨h.1, rowRel_mono (eltRel_mono hH t) h.2⟩
 | .slc t, _, _, h => by
   obtain ⟨v, hv, hs⟩ := h
   exact ⟨v, hv, sliceRel_mono hH (eltRel_mono hH t) hs⟩
 | .pair a b, _, _, h => by
   obtain ⟨c, d, hcd, h1, h2⟩ := h
   exact ⟨c, d, hcd, eltRel_mono hH a _ _ h1, eltRel_mono hH b _ _ h2⟩
theorem dvRel_mono {H H' : Mem} (hH : H.le H') {d : DV} {v : Value} (h : dvRel H d v) : dvRel H' d v := by
 cases d <;> first | exact h | exact sliceRel_mono hH (eltRel_mono hH _) h
theorem runRel_mono {H H' : Mem} (hH : H.le H') {r : Run} {cs : List Value} (h : runRel H r cs) : runRel H' r cs := by
 cases r with
 | one d => obtain ⟨v, hv, hd⟩ := h; exact ⟨v, hv, dvRel_mono hH hd⟩
 | many t n xs => exact ⟨h.1, rowRel_mono (eltRel_mono hH t) h.2⟩
theorem runsRel_mono {H H' : Mem} (hH : H.le H') : ∀ {rs : List Run} {cs : List Value}, runsRel H rs cs → runsRel H' rs cs
 | [], _, h => h
 | _ :: _, _, ⟨a, b, hab, h1, h2⟩ => ⟨a, b, hab, runRel_mono hH h1, runsRel_mono hH h2⟩
theorem refRel_mono {ρ ρ' : Lab} (hρ : ρ.le ρ') {r : Ref} {v : Value} (h : refRel ρ r v) : refRel ρ' r v := by
 cases r with
 | cell l p off => obtain ⟨b, h1, h2⟩ := h; exact ⟨b, hρ _ _ h1, h2⟩
 | win l p off t start len n lit => obtain ⟨b, cap, h1, h2⟩ := h; exact ⟨b, cap, hρ _ _ h1, h2⟩
 | map l => obtain ⟨r, h1, h2⟩ := h; exact ⟨r, hρ _ _ h1, h2⟩
 | row l => exact ⟨hρ _ _ h.1, h.2⟩
 | elt l p off => obtain ⟨b, n, c, h1, h2⟩ := h; exact ⟨b, n, c, hρ _ _ h1, h2⟩
 | ewin l p off t start len n => obtain ⟨b, m, c, cap, h1, h2⟩ := h; exact ⟨b, m, c, cap, hρ _ _ h1, h2⟩
 | cwin l n => obtain ⟨b, h1, h2⟩ := h; exact ⟨b, hρ _ _ h1, h2⟩
theorem datV_mono {H H' : Mem} (hH : H.le H') {agg : Bool} {t : T} {x : t.den} {v : Value} (h : datV H agg t x v) : datV H' agg t x v := by
 obtain ⟨cs, h1, h2⟩ := h; exact ⟨cs, eltRel_mono hH t _ _ h1, h2⟩
theorem entRel_mono {H H' : Mem} (hH : H.le H') {ka : Bool} {kt : T} {va : Bool} {vt : T} : ∀ {es : List (kt.den × vt.den)} {en : List MapEntry}, entRel H ka kt va vt es en → entRel H' ka kt va vt es en
 | [], [], h => h
 | _ :: _, _ :: _, ⟨h1, h2, h3⟩ => ⟨datV_mono hH h1, datV_mono hH h2, entRel_mono hH h3⟩
 | [], _ :: _, h => h.elim
 | _ :: _, [], h => h.elim
theorem ownRel_mono {H H' : Mem} (hH : H.le H') {ρ ρ' : Lab} (hρ : ρ.le ρ') {k : Nat} {t : T} {xs : List t.den} {v : Value} (h : ownRel H ρ k t xs v) : ownRel H' ρ' k t xs v :=
 ⟨hρ _ _ h.1, sliceRel_mono hH (eltRel_mono hH t) h.2.1, h.2.2⟩
theorem scRel_mono {H H' : Mem} (hH : H.le H') {ρ ρ' : Lab} (hρ : ρ.le ρ') {c : SC} {cs : List Value} (h : scRel H ρ c cs) : scRel H' ρ' c cs := by
 cases c with
 | run r => exact runRel_mono hH h
 | ref r => obtain ⟨v, hv, hr⟩ := h; exact ⟨v, hv, refRel_mono hρ hr⟩
 | own k t xs => obtain ⟨v, hv, hr⟩ := h; exact ⟨v, hv, ownRel_mono hH hρ hr⟩
theorem scsRel_mono {H H' : Mem} (hH : H.le H') {ρ ρ' : Lab} (hρ : ρ.le ρ') : ∀ {l : List SC} {cs : List Value}, scsRel H ρ l cs → scsRel H' ρ' l cs
 | [], _, h => h
 | _ :: _, _, ⟨a, b, hab, h1, h2⟩ => ⟨a, b, hab, scRel_mono hH hρ h1, scsRel_mono hH hρ h2⟩
theorem capsRel_mono {H H' : Mem} (hH : H.le H') : ∀ {l : List (List Run)} {vs : List Value}, capsRel H l vs → capsRel H' l vs
 | [], _, h => h
 | _ :: _, _, ⟨b, off, cs, w, hv, h1, h2, h3⟩ => ⟨b, off, cs, w, hv, runsRel_mono hH h1, cellsIn_mono hH h2, capsRel_mono hH h3⟩
theorem svRel_mono {H H' : Mem} (hH : H.le H') {ρ ρ' : Lab} (hρ : ρ.le ρ') {s : SV} {v : Value} (h : svRel H ρ s v) : svRel H' ρ' s v := by
 cases s with
 | dv d => exact dvRel_mono hH h
 | own k t xs => exact ownRel_mono hH hρ h
 | full t xs => exact ⟨sliceRel_mono hH (eltRel_mono hH t) h.1, h.2⟩
 | ref r => exact refRel_mono hρ h
 | ipt rs => obtain ⟨b, off, cs, hv, h1, h2⟩ := h; exact ⟨b, off, cs, hv, runsRel_mono hH h1, cellsIn_mono hH h2⟩
 | agg cs => obtain ⟨vs, hv, h1⟩ := h; exact ⟨vs, hv, scsRel_mono hH hρ h1⟩
 | clo f caps =>
   cases caps with
   | nil => exact h
   | cons c r => obtain ⟨vs, e, h⟩ := h; exact ⟨vs, e, capsRel_mono hH h⟩
 | top => trivial
theorem svsRel_mono {H H' : Mem} (hH : H.le H') {ρ ρ' : Lab} (hρ : ρ.le ρ') : ∀ {l : List SV} {vs : List Value}, svsRel H ρ l vs → svsRel H' ρ' l vs
 | [], _, h => h
 | _ :: _, _, ⟨v, w, hv, h1, h2⟩ => ⟨v, w, hv, svRel_mono hH hρ h1, svsRel_mono hH hρ h2⟩
theorem slRel_mono {H H' : Mem} (hH : H.le H') {ρ ρ' : Lab} (hρ : ρ.le ρ') {a : Array Value} {s : Sl} {v : Value} (h : slRel H ρ a s v) : slRel H' ρ' a s v := by
 cases s with
 | sv s => exact svRel_mono hH hρ h
 | tup ss => obtain ⟨vs, hv, h1⟩ := h; exact ⟨vs, hv, svsRel_mono hH hρ h1⟩
 | cond g want s => exact ⟨fun hg => svRel_mono hH hρ (h.1 hg), h.2⟩
 | un => trivial

theorem app_eq {α : Type} (a b : List α) : app a b = a ++ b := by induction a with | nil => rfl | cons x r ih => simp [app, ih]
theorem app0_eq (a b : List Run) : app0 a b = a ++ b := by induction a with | nil => rfl | cons x r ih => simp [app0, ih]
theorem mapL_eq {α β : Type} (f : α → β) (l : List α) : mapL f l = l.map f := by induction l with | nil => rfl | cons x r ih => simp [mapL, ih]
theorem lenL_eq {α : Type} (l : List α) : lenL l = l.length := by induction l with | nil => rfl | cons x r ih => simp [lenL, ih]

theorem scsRel_append {H : Mem} {ρ : Lab} {xs ys : List SC} {cs : List Value} : scsRel H ρ (xs ++ ys) cs ↔ ∃ a b, cs = a ++ b ∧ scsRel H ρ xs a ∧ scsRel H ρ ys b := by
 induction xs generalizing cs with
 | nil =>
   simp only [List.nil_append, scsRel]
   exact ⟨fun h => ⟨[], cs, rfl, rfl, h⟩, fun ⟨_, _, hab, ha, h⟩ => by subst ha; subst hab; simpa using h⟩
 | cons x xs ih =>
   simp only [List.cons_append, scsRel, ih]
   constructor
   · rintro ⟨a, _, rfl, hx, a', b', rfl, h1, h2⟩
     exact ⟨a ++ a', b', by simp, ⟨a, a', rfl, hx, h1⟩, h2⟩
   · rintro ⟨_, b, rfl, ⟨a, a', rfl, hx, h1⟩, h2⟩
     exact ⟨a, a' ++ b, by simp, hx, a', b, rfl, h1, h2⟩
theorem runsRel_append {H : Mem} {xs ys : List Run} {cs : List Value} : runsRel H (xs ++ ys) cs ↔ ∃ a b, cs = a ++ b ∧ runsRel H xs a ∧ runsRel H ys b := by
 induction xs generalizing cs with
 | nil =>
   simp only [List.nil_append, runsRel]
   exact ⟨fun h => ⟨[], cs, rfl, rfl, h⟩, fun ⟨_, _, hab, ha, h⟩ => by subst ha; subst hab; simpa using h⟩
 | cons x xs ih =>
   simp only [List.cons_append, runsRel, ih]
   constructor
   · rintro ⟨a, _, rfl, hx, a', b', rfl, h1, h2⟩
     exact ⟨a ++ a', b', by simp, ⟨a, a', rfl, hx, h1⟩, h2⟩
   · rintro ⟨_, b, rfl, ⟨a, a', rfl, hx, h1⟩, h2⟩
     exact ⟨a, a' ++ b, by simp, hx, a', b, rfl, h1, h2⟩

theorem scsRel_ofRuns {H : Mem} {ρ : Lab} : ∀ {rs : List Run} {cs : List Value}, scsRel H ρ (ofRuns rs) cs ↔ runsRel H rs cs
 | [], _ => Iff.rfl
 | r :: rs, cs => by
   simp only [ofRuns, mapL, scsRel, runsRel, scRel]
   constructor
   · rintro ⟨a, b, h, h1, h2⟩; exact ⟨a, b, h, h1, scsRel_ofRuns.1 h2⟩
   · rintro ⟨a, b, h, h1, h2⟩; exact ⟨a, b, h, h1, scsRel_ofRuns.2 h2⟩

theorem enc_rel {H : Mem} : ∀ (t : T) (x : t.den) (cs : List Value), runsRel H (enc t x) cs ↔ eltRel H t x cs
 | .u8, _, cs => by simp [enc, runsRel, runRel, dvRel, eltRel]
 | .u16, _, cs => by simp [enc, runsRel, runRel, dvRel, eltRel]
 | .u32, _, cs => by simp [enc, runsRel, runRel, dvRel, eltRel]
 | .u64, _, cs => by simp [enc, runsRel, runRel, dvRel, eltRel]
 | .i64, _, cs => by
   simp only [enc, runsRel, runRel, dvRel, eltRel]
   constructor
   · rintro ⟨a, b, rfl, ⟨v, rfl, rfl, h⟩, rfl⟩; exact ⟨rfl, h⟩
   · rintro ⟨rfl, h⟩; exact ⟨_, _, (List.append_nil _).symm, ⟨_, rfl, rfl, h⟩, rfl⟩
 | .bool, _, cs => by simp [enc, runsRel, runRel, dvRel, eltRel]
 | .str, _, cs => by
   simp only [enc, runsRel, runRel, dvRel, eltRel]
   constructor
   · rintro ⟨a, b, rfl, ⟨v, rfl, rfl, h⟩, rfl⟩; exact ⟨rfl, h⟩
   · rintro ⟨rfl, h⟩; exact ⟨_, _, (List.append_nil _).symm, ⟨_, rfl, rfl, h⟩, rfl⟩
 | .unit, _, cs => by simp [enc, runsRel, eltRel]
 | .arr n t, xs, cs => by simp [enc, runsRel, runRel, eltRel]
 | .slc t, xs, cs => by simp [enc, runsRel, runRel, eltRel, dvRel]
 | .pair a b, p, cs => by
   simp only [enc, app0_eq, runsRel_append, eltRel]
   constructor
   · rintro ⟨c, d, h, h1, h2⟩; exact ⟨c, d, h, (enc_rel a _ _).1 h1, (enc_rel b _ _).1 h2⟩
   · rintro ⟨c, d, h, h1, h2⟩; exact ⟨c, d, h, (enc_rel a _ _).2 h1, (enc_rel b _ _).2 h2⟩

end Go.Vse
