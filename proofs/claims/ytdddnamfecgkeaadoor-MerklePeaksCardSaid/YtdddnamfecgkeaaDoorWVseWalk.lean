/- Code: what the executor says of it holds. -/
import Derived.Test.YtdddnamfecgkeaaDoorWVseHead
import Derived.Scope
namespace Go.Vse
variable {P : Program} {E : Env} {H : Mem} {ρ ρ' : Lab} {hp : List (Nat × SObj)} {lab : Nat} {N : Nat → Prop} {w : World} {S : SState} {a : Act}

structure Keep (as : List Nat) (S S' : SState) : Prop where
 len : S'.tmps.length = S.tmps.length
 slot : ∀ t, t ∉ as → SlImp (uncond (nth .un S'.tmps t)) (uncond (nth .un S.tmps t))
 obj : ∀ l, l ∉ S'.wr → look l S'.hp = look l S.hp
 wr : ∀ l, l ∈ S.wr → l ∈ S'.wr

theorem Keep.refl (as : List Nat) (S : SState) : Keep as S S := ⟨rfl, fun _ _ => SlImp.refl _, fun _ _ => rfl, fun _ h => h⟩
theorem Keep.trans {as : List Nat} {A B C : SState} (h : Keep as A B) (h' : Keep as B C) : Keep as A C :=
 ⟨h'.len.trans h.len, fun t ht => (h'.slot t ht).trans (h.slot t ht), fun l hl => (h'.obj l hl).trans (h.obj l fun hm => hl (h'.wr l hm)), fun l hl => h'.wr l (h.wr l hl)⟩
theorem Keep.more {as bs : List Nat} (hs : ∀ t, t ∈ as → t ∈ bs) {A B : SState} (h : Keep as A B) : Keep bs A B :=
 ⟨h.len, fun t ht => h.slot t fun hm => ht (hs t hm), h.obj, h.wr⟩

theorem look_putAll_not : ∀ {u hp : List (Nat × SObj)} {l : Nat}, l ∉ labelsOf u → look l (putAll hp u) = look l hp
 | [], _, _, _ => rfl
 | (k, o) :: r, hp, l, h => by
   simp only [labelsOf, List.mem_cons, not_or] at h
   rw [putAll, look_putAll_not h.2, look_put, if_neg h.1]

theorem uncond_uncond (s : Sl) : uncond (uncond s) = uncond s := by cases s <;> rfl

def YhKeep (h : SState → Nat → List SV → (Bool → SState → Prop) → Prop) : Prop :=
 ∀ (S : SState) (k : Nat) (vs : List SV) (K K' : Bool → SState → Prop), h S k vs K → (∀ q S', K q S' → Keep [] S S' → K' q S') → h S k vs K'
def RfKeep (h : Operand → Array Tmp → Code → Code → SState → (Exit → SState → Prop) → Prop) : Prop :=
 ∀ (g : Operand) (ps : Array Tmp) (x y : Code) (S : SState) (K K' : Exit → SState → Prop), h g ps x y S K → (∀ e S', K e S' → Keep [] S S' → K' e S') → h g ps x y S K'
def DyKeep (Y : Dy) : Prop := (∀ h, Y.yh = some h → YhKeep h) ∧ ∀ h, Y.rf = some h → RfKeep h
theorem apply_keep (S : SState) (o : Oper) {r : List Oper} (q : Res) : Keep (assignedOps (o :: r)) S (S.apply o.dst q) := by
 refine ⟨?_, fun t ht => ?_, fun l hl => ?_, fun l hl => ?_⟩
 · cases o.dst <;> simp [SState.apply, SState.set, setN_length]
 · cases hd : o.dst with
   | none => exact SlImp.refl _
   | some d =>
     have : t ≠ d := fun e => ht (by simp [assignedOps, hd, e])
     simp only [SState.apply, SState.set, nth_setN]
     rw [if_neg (fun h => this h.1)]; exact SlImp.refl _
 · have : l ∉ labelsOf q.upd := fun hm => hl (mem_app.2 (.inl hm))
   show look l (putAll S.hp q.upd) = _
   exact look_putAll_not this
 · exact mem_app.2 (.inr hl)
theorem runOps_keep {Γ : FuncId → Option PC} {Y : Dy} (hYk : DyKeep Y) {all : List Oper} {K K' : SState → Prop} : ∀ {l : List Oper} {lab : Nat} {S : SState}, runOps P Γ Y all l lab S K →
 (∀ S', K S' → Keep (app (assignedOps all) (assignedOps l)) S S' → K' S') → runOps P Γ Y all l lab S K'
 | [], lab, S, h, hk => hk _ h ⟨by simp [forgetL_length, mapL_length], fun t ht => by
     simp only []
     rcases forgetL_nth (all := all) all (mapL uncond S.tmps) t with e | e
     · rw [e, nth_mapL uncond .un rfl, uncond_uncond]; exact SlImp.refl _
     · exact absurd (mem_app.2 (.inl e.1)) ht, fun _ _ => rfl, fun _ h => h⟩
 | o :: r, lab, S, h, hk => by
   simp only [runOps] at h ⊢
   cases hlab : Nat.blt lab STRIDE with
   | false => rw [hlab] at h; exact h.elim
   | true =>
   rw [hlab] at h
   simp only [cond_true] at h ⊢
   have hstep : ∀ q : Res, Keep (assignedOps (o :: r)) S (S.apply o.dst q) := by
    intro q
    refine ⟨?_, fun t ht => ?_, fun l hl => ?_, fun l hl => ?_⟩
    · cases o.dst <;> simp [SState.apply, SState.set, setN_length]
    · cases hd : o.dst with
      | none => exact SlImp.refl _
      | some d =>
        have : t ≠ d := fun e => ht (by simp [assignedOps, hd, e])
        simp only [SState.apply, SState.set, nth_setN]
        rw [if_neg (fun h => this h.1)]; exact SlImp.refl _
    · have : l ∉ labelsOf q.upd := fun hm => hl (mem_app.2 (.inl hm))
      show look l (putAll S.hp q.upd) = _
      exact look_putAll_not this
    · exact mem_app.2 (.inr hl)
   have hmore : ∀ {S1 S2 : SState}, Keep (app (assignedOps all) (assignedOps r)) S1 S2 → Keep (app (assignedOps all) (assignedOps (o :: r))) S1 S2 := fun hkp => hkp.more fun t ht => by
    rcases mem_app.1 ht with ht | ht
    · exact mem_app.2 (.inl ht)
    refine mem_app.2 (.inr ?_)
    unfold assignedOps
    split
    · exact List.mem_cons_of_mem _ ht
    · exact ht
   have hstep : ∀ q : Res, Keep (app (assignedOps all) (assignedOps (o :: r))) S (S.apply o.dst q) := fun q => (hstep q).more fun t ht => mem_app.2 (.inr ht)
   split at h
   · rename_i ky vs hyt
     split at h
     case h_2 => exact h.elim
     rename_i hh hyh
     refine hYk.1 hh hyh _ _ _ _ _ h fun q S' hq hkp => ?_
     cases hf : S'.free o.dst with
     | false => rw [hf] at hq; exact hq.elim
     | true =>
       rw [hf] at hq
       simp only [cond_true] at hq ⊢
       have h1 : Keep (app (assignedOps all) (assignedOps (o :: r))) S { S with next := lab + 1 } := ⟨rfl, fun _ _ => SlImp.refl _, fun _ _ => rfl, fun _ h => h⟩
       have h2 : Keep (app (assignedOps all) (assignedOps (o :: r))) { S with next := lab + 1 } S' := hkp.more fun t ht => by cases ht
       have h3 : Keep (app (assignedOps all) (assignedOps (o :: r))) S' (S'.apply o.dst (boolR q)) := (apply_keep S' o (boolR q)).more fun t ht => mem_app.2 (.inr ht)
       exact runOps_keep hYk hq fun S'' hS hk2 => hk S'' hS (((h1.trans h2).trans h3).trans (hmore hk2))
   split at h
   · rename_i f hdr
     cases hf : S.free o.dst with
     | false => rw [hf] at h; exact h.elim
     | true =>
       rw [hf] at h
       simp only [cond_true] at h ⊢
       exact fun g => runOps_keep hYk (h g) fun S' hS hkp => hk S' hS ((hstep _).trans (hmore hkp))
   · rename_i vc r0 kt vt left f hdr
     cases hf : S.free o.dst with
     | false => rw [hf] at h; exact h.elim
     | true =>
       rw [hf] at h
       simp only [cond_true] at h ⊢
       exact ⟨h.1, fun h0 => runOps_keep hYk (h.2.1 h0) fun S' hS hkp => hk S' hS ((hstep _).trans (hmore hkp)), fun x y m hm => runOps_keep hYk (h.2.2 x y m hm) fun S' hS hkp => hk S' hS ((hstep _).trans (hmore hkp))⟩
   · rename_i q hdr
     cases hc : (S.free o.dst && okOut o.dst q.out) with
     | false => rw [hc] at h; exact h.elim
     | true =>
       rw [hc] at h
       simp only [cond_true] at h ⊢
       have key : runOps P Γ Y all r (lab + 1) (S.apply o.dst q) K → runOps P Γ Y all r (lab + 1) (S.apply o.dst q) K' := fun h1 =>
        runOps_keep hYk h1 fun S' hS hkp => hk S' hS ((hstep _).trans (hmore hkp))
       cases hv : q.vc with
       | none => rw [hv] at h; exact key h
       | some p => rw [hv] at h; exact ⟨h.1, key h.2⟩
   split at h
   · rename_i same p hnt
     cases hf : S.free o.dst with
     | false => rw [hf] at h; exact h.elim
     | true =>
       rw [hf] at h
       simp only [cond_true] at h ⊢
       exact fun q hq => runOps_keep hYk (h q hq) fun S' hS hkp => hk S' hS ((hstep _).trans (hmore hkp))
   have hset : ∀ (S0 : SState) (s : Sl), Keep (app (assignedOps all) (assignedOps (o :: r))) S0 (S0.set o.dst s) := by
    intro S0 s
    refine ⟨?_, fun t ht => ?_, fun l hl => ?_, fun l hl => ?_⟩
    · cases o.dst <;> simp [SState.set, setN_length]
    · cases hd : o.dst with
      | none => exact SlImp.refl _
      | some d =>
        have : t ≠ d := fun e => ht (mem_app.2 (.inr (by simp [assignedOps, hd, e])))
        simp only [SState.set, nth_setN]
        rw [if_neg (fun h => this h.1)]; exact SlImp.refl _
    · unfold SState.set; split <;> rfl
    · unfold SState.set; split <;> exact hl
   have happ : ∀ (S0 : SState) (q : Res), Keep (app (assignedOps all) (assignedOps (o :: r))) S0 (S0.apply o.dst q) := by
    intro S0 q
    refine ⟨?_, fun t ht => ?_, fun l hl => ?_, fun l hl => ?_⟩
    · cases o.dst <;> simp [SState.apply, SState.set, setN_length]
    · cases hd : o.dst with
      | none => exact SlImp.refl _
      | some d =>
        have : t ≠ d := fun e => ht (mem_app.2 (.inr (by simp [assignedOps, hd, e])))
        simp only [SState.apply, SState.set, nth_setN]
        rw [if_neg (fun h => this h.1)]; exact SlImp.refl _
    · have : l ∉ labelsOf q.upd := fun hm => hl (mem_app.2 (.inl hm))
      show look l (putAll S0.hp q.upd) = _
      exact look_putAll_not this
    · exact mem_app.2 (.inr hl)
   split at h
   · rename_i g0 w0 hsk
     cases hc : (S.free o.dst && okOut o.dst (skipped g0 w0)) with
     | false => rw [hc] at h; exact h.elim
     | true =>
       rw [hc] at h
       simp only [cond_true] at h ⊢
       exact runOps_keep hYk h fun S' hS hkp => hk S' hS ((hset S _).trans (hmore hkp))
   split at h
   · rename_i g0 w0 b0 hsp
     obtain ⟨_, hget⟩ := splitG_spec hsp
     have hkn : ∀ q, b0 = q → Keep (app (assignedOps all) (assignedOps (o :: r))) S (S.know (.tmp g0) q) := fun q hq => by
      refine ⟨by simp [SState.know, setN_length], fun u _ => ?_, fun _ _ => rfl, fun _ h => h⟩
      simp only [SState.know, nth_setN]
      split
      · rename_i hu
        rw [hu.1]
        unfold SState.get at hget
        rcases normB_eq (nth .un S.tmps g0) with e | ⟨p, e, _⟩
        · rw [e] at hget
          rw [hget, hq]
          exact fun H ρ arr x hx => hx.1
        · rw [e] at hget ⊢
          simp only [normB, Sl.sv.injEq, SV.dv.injEq, DV.bool.injEq] at hget
          rw [hget, hq]; exact SlImp.refl _
      · exact SlImp.refl _
     refine ⟨fun hb => ?_, fun hb => ?_⟩
     · have h := h.1 hb
       split at h
       case h_2 => exact h.elim
       rename_i q hq
       cases hc : ((S.know (.tmp g0) w0).free o.dst && okOut o.dst q.out) with
       | false => rw [hc] at h; exact h.elim
       | true =>
         rw [hc] at h
         simp only [cond_true] at h ⊢
         have key : runOps P Γ Y all r (lab + 1) ((S.know (.tmp g0) w0).apply o.dst q) K → runOps P Γ Y all r (lab + 1) ((S.know (.tmp g0) w0).apply o.dst q) K' := fun h1 =>
          runOps_keep hYk h1 fun S' hS hkp => hk S' hS (((hkn w0 hb).trans (happ _ _)).trans (hmore hkp))
         cases hv : q.vc with
         | none => rw [hv] at h; exact key h
         | some p => rw [hv] at h; exact ⟨h.1, key h.2⟩
     · have h := h.2 hb
       cases hc : ((S.know (.tmp g0) (!w0)).free o.dst && okOut o.dst (skipped g0 w0)) with
       | false => rw [hc] at h; exact h.elim
       | true =>
         rw [hc] at h
         simp only [cond_true] at h ⊢
         exact runOps_keep hYk h fun S' hS hkp => hk S' hS (((hkn (!w0) hb).trans (hset _ _)).trans (hmore hkp))
   have hthen : ∀ {p q : Prop}, (p → q) → thenD (kpOps Y S) (dieO P Y S o) p → thenD (kpOps Y S) (dieO P Y S o) q := by
    intro p q hpq ht
    cases hd : dieO P Y S o with
    | none => rw [hd] at ht; exact hpq ht
    | some d => rw [hd] at ht; exact ⟨ht.1, fun hn => hpq (ht.2 hn)⟩
   refine hthen (fun h => ?_) h
   split at h
   · rename_i q hq
     cases hc : (S.free o.dst && okOut o.dst q.out) with
     | false => rw [hc] at h; exact h.elim
     | true =>
       rw [hc] at h
       simp only [cond_true] at h ⊢
       have key : runOps P Γ Y all r (lab + 1) (S.apply o.dst q) K → runOps P Γ Y all r (lab + 1) (S.apply o.dst q) K' := fun h1 =>
        runOps_keep hYk h1 fun S' hS hkp => hk S' hS ((hstep _).trans (hmore hkp))
       have keyL : ∀ (v : Int) (k : Nat), runOps P Γ Y all r (lab + 1) ((S.apply o.dst (q.int v)).lit k) K → runOps P Γ Y all r (lab + 1) ((S.apply o.dst (q.int v)).lit k) K' := fun v k h1 =>
        runOps_keep hYk h1 fun S' hS hkp => hk S' hS (Keep.trans (B := (S.apply o.dst (q.int v)).lit k) (let hh := happ S (q.int v); ⟨hh.1, hh.2, hh.3, hh.4⟩) (hmore (S1 := (S.apply o.dst (q.int v)).lit k) hkp))
       have key2 : (match splitI S lab q with
        | none => runOps P Γ Y all r (lab + 1) (S.apply o.dst q) K
        | some v => (leP 0 v ∧ leP v 1) ∧ (eqP v 0 → runOps P Γ Y all r (lab + 1) ((S.apply o.dst (q.int 0)).lit 0) K) ∧ (eqP v 1 → runOps P Γ Y all r (lab + 1) ((S.apply o.dst (q.int 1)).lit 1) K)) →
        (match splitI S lab q with
         | none => runOps P Γ Y all r (lab + 1) (S.apply o.dst q) K'
         | some v => (leP 0 v ∧ leP v 1) ∧ (eqP v 0 → runOps P Γ Y all r (lab + 1) ((S.apply o.dst (q.int 0)).lit 0) K') ∧ (eqP v 1 → runOps P Γ Y all r (lab + 1) ((S.apply o.dst (q.int 1)).lit 1) K')) := fun h1 => by
        cases hsp : splitI S lab q with
        | none => rw [hsp] at h1; exact key h1
        | some v => rw [hsp] at h1; exact ⟨h1.1, fun e => keyL 0 0 (h1.2.1 e), fun e => keyL 1 1 (h1.2.2 e)⟩
       cases hv : q.vc with
       | none => rw [hv] at h; exact key2 h
       | some p => rw [hv] at h; exact ⟨h.1, key2 h.2⟩
   · exact h.elim

theorem guard_keep {d : Option DieR} {K K' : SState → Prop} {S' : SState} (h : K S' → K' S') (hg : guardK d K S') : guardK d K' S' := by
 cases d with
 | none => exact h hg
 | some d => exact fun hn => h (hg hn)
theorem runDraw_keep {Γ : FuncId → Option PC} {Y : Dy} {all : List Oper} {K K' : SState → Prop} : ∀ {l : List Oper} {lab : Nat} {S : SState} {tab : List Ent}, runDraw P Γ Y all l lab S tab K →
 (∀ S', K S' → Keep (assignedOps l) S S' → K' S') → runDraw P Γ Y all l lab S tab K'
 | [], lab, S, tab, h, hk => hk _ h ⟨by simp [mapL_length], fun t _ => by simp only []; rw [nth_mapL uncond .un rfl, uncond_uncond]; exact SlImp.refl _, fun _ _ => rfl, fun _ h => h⟩
 | o :: r, lab, S, tab, h, hk => by
   simp only [runDraw] at h ⊢
   cases hlab : Nat.blt lab STRIDE with
   | false => rw [hlab] at h; exact h.elim
   | true =>
   rw [hlab] at h
   simp only [cond_true] at h ⊢
   split at h
   · rename_i q anc hq hanc
     cases hc : (okOut o.dst q.out && entOk (mkEnt P Γ all S o lab q anc) 0 tab && leanOk anc q.out 0 tab) with
     | false => rw [hc] at h; exact h.elim
     | true =>
       rw [hc] at h
       simp only [cond_true] at h ⊢
       have key : runDraw P Γ Y all r (lab + 1) (S.apply o.dst q) (app tab [mkEnt P Γ all S o lab q anc]) (guardK (dieO P Y S o) K) → runDraw P Γ Y all r (lab + 1) (S.apply o.dst q) (app tab [mkEnt P Γ all S o lab q anc]) (guardK (dieO P Y S o) K') := fun h1 =>
        runDraw_keep h1 fun S' hS hkp => guard_keep (fun hS => hk S' hS ?_) hS
       · cases hd : dieO P Y S o with
         | none =>
           rw [hd] at h key
           cases hv : q.vc with
           | none => rw [hv] at h; exact key h
           | some p => rw [hv] at h; exact ⟨h.1, key h.2⟩
         | some d => rw [hd] at h key; exact ⟨h.1, key h.2⟩
       · have h1 : Keep (assignedOps (o :: r)) S (S.apply o.dst q) := by
           refine ⟨?_, fun t ht => ?_, fun l hl => ?_, fun l hl => ?_⟩
           · cases o.dst <;> simp [SState.apply, SState.set, setN_length]
           · cases hd : o.dst with
             | none => exact SlImp.refl _
             | some d =>
               have : t ≠ d := fun e => ht (by simp [assignedOps, hd, e])
               simp only [SState.apply, SState.set, nth_setN]
               rw [if_neg (fun h => this h.1)]; exact SlImp.refl _
           · have : l ∉ labelsOf q.upd := fun hm => hl (mem_app.2 (.inl hm))
             show look l (putAll S.hp q.upd) = _
             exact look_putAll_not this
           · exact mem_app.2 (.inr hl)
         refine h1.trans (hkp.more fun t ht => ?_)
         unfold assignedOps
         split
         · exact List.mem_cons_of_mem _ ht
         · exact ht
   · exact h.elim

theorem know_slot {S : SState} {t : Nat} {v q : Bool} (h : ev S (.tmp t) = some (.dv (.bool v))) (hn : knownB S (.tmp t) = none) (hv : v = q) : nth .un S.tmps t = .sv (.dv (.bool q)) := by
 subst hv
 have h : svOf (normB (nth .un S.tmps t)) = some (.dv (.bool v)) := h
 rcases normB_eq (nth .un S.tmps t) with e | ⟨p, e, _⟩
 · rw [e] at h
   unfold svOf at h
   split at h
   · rename_i u hu
     simp at h; subst h; exact hu
   · cases h
 · simp only [knownB, e] at hn
   cases hn
theorem know_keep {S : SState} {c : Operand} {v q : Bool} {as : List Nat} (h : ev S c = some (.dv (.bool v))) (hn : knownB S c = none) (hv : v = q) : Keep as S (S.know c q) := by
 cases c with
 | tmp t =>
   have hs := know_slot h hn hv
   refine ⟨by simp [SState.know, setN_length], fun u _ => ?_, fun _ _ => rfl, fun _ h => h⟩
   simp only [SState.know, nth_setN]
   split
   · rename_i hu
     rw [hu.1, hs]
     exact fun H ρ arr x hx => hx.1
   · exact SlImp.refl _
 | _ => exact Keep.refl _ _
theorem know_slots {S : SState} {a : Act} {c : Operand} {v q : Bool} (h : ev S c = some (.dv (.bool v))) (hn : knownB S c = none) (hv : v = q) (hs : slotsRel H ρ S.tmps a.tmps) : slotsRel H ρ (S.know c q).tmps a.tmps := by
 cases c with
 | tmp t =>
   have ht := know_slot h hn hv
   refine ⟨by simp only [SState.know, setN_length]; exact hs.1, fun u => ?_⟩
   simp only [SState.know, nth_setN]
   split
   · rename_i hu
     have := hs.2 u
     rw [hu.1, ht] at this
     rw [hu.1]
     exact ⟨this, rfl⟩
   · exact hs.2 u
 | _ => exact hs
theorem know_hp (S : SState) (c : Operand) (q : Bool) : (S.know c q).hp = S.hp ∧ (S.know c q).next = S.next := by cases c <;> exact ⟨rfl, rfl⟩

theorem head_look_not {S : SState} {A : LoopAnn} {x : A.X} {l : Nat} (h : l ∉ headWr S A x) : look l (headHp S.hp (A.objs x)) = look l S.hp := by
 unfold headWr at h
 rcases headHp_look (hp := S.hp) (L := A.objs x) l with ⟨o, h1, _⟩ | ⟨h1, h2⟩
 · refine absurd ?_ h
   cases hw : wholeB (A.objs x) with
   | true => exact mem_app.2 (.inl (labels_mem.2 ⟨o, h1⟩))
   | false => exact labels_mem.2 ⟨o, h1⟩
 · rw [h2]
   cases hw : wholeB (A.objs x) with
   | true =>
     rw [hw] at h
     rw [if_pos rfl]
     by_cases hg : look l S.hp = .gone
     · exact hg.symm
     · exact absurd (mem_app.2 (.inr (labels_mem.2 ⟨_, look_mem hg⟩))) h
   | false => rfl
theorem exec_keep {Γ : FuncId → Option PC} {Y : Dy} (hYk : DyKeep Y) {ann : Ann} : ∀ {c : Code} {S : SState} {K K' : Exit → SState → Prop}, exec P Γ Y ann c S K →
 (∀ e S', K e S' → Keep (asg ann c) S S' → K' e S') → exec P Γ Y ann c S K' := by
 intro c
 induction c with
 | skip => intro S K K' h hk; exact hk _ _ h (Keep.refl _ _)
 | exit id => intro S K K' h hk; exact hk _ _ h (Keep.refl _ _)
 | ret => intro S K K' h hk; exact hk _ _ h (Keep.refl _ _)
 | label l => intro S K K' h hk; exact hk _ _ h (Keep.refl _ _)
 | region id ops draw =>
   intro S K K' h hk
   simp only [exec] at h ⊢
   cases draw with
   | true =>
     cases hm : P.follows .mixedOrders with
     | false => rw [hm] at h; exact h.elim
     | true =>
       rw [hm] at h
       simp only [cond_true] at h ⊢
       have hp : Keep (assignedOps ops.toList) S S.plain := ⟨by simp [SState.plain, mapL_length], fun t _ => by simp only [SState.plain]; rw [nth_mapL uncond .un rfl, uncond_uncond]; exact SlImp.refl _, fun _ _ => rfl, fun _ h => h⟩
       exact runDraw_keep h fun S' h1 h2 => hk .normal S' h1 ((hp.trans h2).more fun t ht => mem_app.2 (.inl ht))
   | false => exact runOps_keep hYk h fun S' hS hkp => hk .normal S' hS (hkp.more fun t ht => mem_app.2 (.inl ((mem_app.1 ht).elim (fun x => x) (fun x => x))))
 | seq x y ihx ihy =>
   intro S K K' h hk
   simp only [exec] at h ⊢
   refine ihx h fun e S' h1 h2 => ?_
   have hx : ∀ t, t ∈ asg ann x → t ∈ asg ann (.seq x y) := fun t ht => by
    rcases mem_app.1 ht with ht | ht
    · exact mem_app.2 (.inl (by simp [assigned, mem_app, ht]))
    · exact mem_app.2 (.inr ht)
   have hy : ∀ t, t ∈ asg ann y → t ∈ asg ann (.seq x y) := fun t ht => by
    rcases mem_app.1 ht with ht | ht
    · exact mem_app.2 (.inl (by simp [assigned, mem_app, ht]))
    · exact mem_app.2 (.inr ht)
   cases e with
   | normal => exact ihy h1 fun e S'' h3 h4 => hk e S'' h3 ((h2.more hx).trans (h4.more hy))
   | _ => exact hk _ _ h1 (h2.more hx)
 | cond q x y ihx ihy =>
   intro S K K' h hk
   simp only [exec] at h ⊢
   have hx : ∀ t, t ∈ asg ann x → t ∈ asg ann (.cond q x y) := fun t ht => by
    rcases mem_app.1 ht with ht | ht
    · exact mem_app.2 (.inl (by simp [assigned, mem_app, ht]))
    · exact mem_app.2 (.inr ht)
   have hy : ∀ t, t ∈ asg ann y → t ∈ asg ann (.cond q x y) := fun t ht => by
    rcases mem_app.1 ht with ht | ht
    · exact mem_app.2 (.inl (by simp [assigned, mem_app, ht]))
    · exact mem_app.2 (.inr ht)
   split at h
   · rename_i v hv0
     generalize ann.prune = md at h ⊢
     match md, h with
     | 0, h => exact ⟨fun hv => ihx (h.1 hv) fun e S' h1 h2 => hk e S' h1 (h2.more hx), fun hv => ihy (h.2 hv) fun e S' h1 h2 => hk e S' h1 (h2.more hy)⟩
     | 1, h =>
       simp only at h ⊢
       cases hkn : knownB S q with
       | some b =>
         rw [hkn] at h
         cases b with
         | true => exact ihx h fun e S' h1 h2 => hk e S' h1 (h2.more hx)
         | false => exact ihy h fun e S' h1 h2 => hk e S' h1 (h2.more hy)
       | none =>
         rw [hkn] at h
         exact ⟨fun hv => ihx (h.1 hv) fun e S' h1 h2 => hk e S' h1 ((know_keep hv0 hkn hv).trans (h2.more hx)), fun hv => ihy (h.2 hv) fun e S' h1 h2 => hk e S' h1 ((know_keep hv0 hkn hv).trans (h2.more hy))⟩
     | n + 2, h =>
       simp only at h ⊢
       cases v with
       | true => exact ihx h fun e S' h1 h2 => hk e S' h1 (h2.more hx)
       | false => exact ihy h fun e S' h1 h2 => hk e S' h1 (h2.more hy)
   · exact h.elim
 | block id x ih =>
   intro S K K' h hk
   simp only [exec] at h ⊢
   refine ih h fun e S' h1 h2 => ?_
   cases e with
   | exit j =>
     simp only at h1 ⊢
     cases hb : Nat.beq j id with
     | true => rw [hb] at h1; exact hk _ _ h1 h2
     | false => rw [hb] at h1; exact hk _ _ h1 h2
   | _ => exact hk _ _ h1 h2
 | scope x ih =>
   intro S K K' h hk
   simp only [exec] at h ⊢
   refine ih h fun e S' h1 h2 => ?_
   cases e with
   | goto j => exact h1
   | _ => exact hk _ _ h1 h2
 | loop x ih =>
   intro S K K' h hk
   simp only [exec] at h ⊢
   split at h
   · rename_i A hA
     refine ⟨h.1, fun z hz => ih (h.2 z hz) fun e S' h1 h2 => ?_⟩
     cases e with
     | normal => exact h1
     | _ =>
       have hd : Keep (asg ann x) S (S'.wrap (app (headWr S A z) S.wr)) := by
        refine ⟨?_, fun t ht => ?_, fun l hl => ?_, fun l hl => ?_⟩
        · rw [show (S'.wrap (app (headWr S A z) S.wr)).tmps = S'.tmps from rfl, h2.len]
          simp [headOf, setAll_length, clear_length, mapL_length]
        · rw [show (S'.wrap (app (headWr S A z) S.wr)).tmps = S'.tmps from rfl]
          refine (h2.slot t ht).trans ?_
          simp only [headOf]
          rcases nth_setAll (sl := inL (asg ann x) (A.slots z)) (l := clear (mapL uncond S.tmps) (asg ann x)) t with ⟨h, h'⟩ | ⟨v, h1, h2⟩ | ⟨h1, h2⟩
          · rw [h, nth_out S.tmps t (by simpa [clear_length, mapL_length] using h')]; exact SlImp.refl _
          · exact absurd (inL_mem h1).2 ht
          · rw [h2, nth_clear, if_neg ht, nth_mapL uncond .un rfl, uncond_uncond]; exact SlImp.refl _
        · have hl : l ∉ app S'.wr (app (headWr S A z) S.wr) := hl
          simp only [mem_app, not_or] at hl
          show look l S'.hp = _
          rw [h2.obj l hl.1]
          exact head_look_not hl.2.1
        · exact mem_app.2 (.inr (mem_app.2 (.inr hl)))
       exact hk _ _ h1 hd
   · cases hu : memN (keyOf x) ann.unroll with
     | false => rw [hu] at h; exact h.elim
     | true =>
       rw [hu] at h
       simp only [cond_true] at h ⊢
       have key : ∀ n (S : SState), (Nat.rec (motive := fun _ => SState → Prop) (fun _ => False) (fun _ ih S => exec P Γ Y ann x S fun
        | .normal, S' => ih S'
        | e, S' => K e S') n) S → (∀ e S', K e S' → Keep (asg ann (.loop x)) S S' → K' e S') → (Nat.rec (motive := fun _ => SState → Prop) (fun _ => False) (fun _ ih S => exec P Γ Y ann x S fun
        | .normal, S' => ih S'
        | e, S' => K' e S') n) S := by
        intro n
        induction n with
        | zero => intro S h _; exact h.elim
        | succ n ihn =>
          intro S h hk
          refine ih h fun e S' h1 h2 => ?_
          cases e with
          | normal => exact ihn S' h1 fun e S'' h3 h4 => hk e S'' h3 (h2.trans h4)
          | _ => exact hk _ _ h1 h2
       exact key rounds S h hk
 | rangeFunc g ps x y =>
   intro S K K' h hk
   simp only [exec] at h ⊢
   split at h
   · rename_i hh hy
     exact hYk.2 hh hy _ _ _ _ _ _ _ h fun e S' h1 h2 => hk e S' h1 (h2.more fun t ht => by cases ht)
   · exact h.elim
 | _ => intro S K K' h hk; simp only [exec] at h

theorem St.wrap {l : List Nat} (h : St E S a w) : St E (S.wrap l) a w := h

def noLoop : Code → Bool
 | .loop _ => false
 | .seq a b => noLoop a && noLoop b
 | .cond _ a b => noLoop a && noLoop b
 | .block _ c => noLoop c
 | .scope c => noLoop c
 | _ => true
def RfOk (P : Program) (R : Option Nat) (V : Fam) (back : Array Value) (h : Operand → Array Tmp → Code → Code → SState → (Exit → SState → Prop) → Prop) : Prop :=
 ∀ (g : Operand) (ps : Array Tmp) (x y : Code) (S : SState) (K : Exit → SState → Prop) (Q : Exit → Act → World → Prop) (a : Act) (w : World),
  h g ps x y S K → StF V S (ext a back) w → (∀ E e S' a' w', V S'.jump E → K e S' → St E S' (ext a' back) w' → a'.tmps.size = a.tmps.size → Q e a' w') → (Code.rangeFunc g ps x y).wpIn (RF R) 0 P Q a w
def Sfx (back : Array Value) (n : Nat) (a : Act) : Prop := ∃ a1, a = ext a1 back ∧ a1.tmps.size = n
structure DyOk (P : Program) (R : Option Nat) (V : Fam) (back : Array Value) (n : Nat) (Y : Dy) : Prop where
 dc : ∀ f c, Y.dc f = some c → DSpec P f c
 yh : ∀ h, Y.yh = some h → YhOk P R V (Sfx back n) h
 rf : ∀ h, Y.rf = some h → RfOk P R V back h
 keep : DyKeep Y
def plainM (R : Option Nat) (back : Array Value) (Y : Dy) : Prop := R = none ∧ back = #[] ∧ Y.yh = none
def fits (R : Option Nat) (back : Array Value) (Y : Dy) (n : Nat) (a : Act) : Prop := plainM R back Y ∨ a.tmps.size = n
def panicQ (Y : Dy) (V : Fam) (K : SState → Prop) : Exit → Act → World → Prop
 | .normal, a, w => ∃ E S', V S'.jump E ∧ K S' ∧ St E S' a w
 | .panic ch, a, w => ∃ j E v S', V j E ∧ ch = [{ v := v, recovered := false }] ∧ (Y.kp v S' ∨ Y.kpd v) ∧ Dst E S' a w
 | _, _, _ => False
theorem sfx_put {back : Array Value} {n : Nat} {ops : Array Oper} (hok : opersOk n ops.toList = true) (a : Act) (i : Nat) (o : Oper) (v : Value) (ho : ops[i]? = some o) : Sfx back n a → Sfx back n (a.put o.dst v) := by
 rintro ⟨a1, rfl, hs⟩
 have hoo := opersOk_at hok i o ho
 simp only [operOk, Bool.and_eq_true] at hoo
 exact ⟨a1.put o.dst v, ext_put (by rw [hs]; exact hoo.1.2) v, by rw [put_size]; exact hs⟩
theorem exec_soundF {R : Option Nat} {V : Fam} {back : Array Value} {n : Nat} {Γ : FuncId → Option PC} (hΓ : ∀ j E, V j E → GamOk P E.H0 Γ) {Y : Dy} (hD : DyOk P R V back n Y) {ann : Ann} : ∀ {c : Code} {S : SState} {a : Act} {w : World} {K : Exit → SState → Prop} {Q : Exit → Act → World → Prop},
 exec P Γ Y ann c S K → (∀ E e S' a' w', V S'.jump E → K e S' → St E S' (ext a' back) w' → fits R back Y n a' → Q e a' w') → (∀ j E v S' a' w', V j E → Y.kp v S' ∨ Y.kpd v → Dst E S' (ext a' back) w' → Q (.panic [{ v := v, recovered := false }]) a' w') →
 (noLoop c = true ∨ ∀ j E, V j E → ∀ l v, E.pin l = some v → l ∈ ann.pins) → (plainM R back Y ∨ codeOk n c = true) → fits R back Y n a → StF V S (ext a back) w → c.wpIn (RF R) 0 P Q a w := by
 intro c
 induction c with
 | skip => intro S a w K Q h hk hp hnl hm hf ⟨E, hE, hs⟩; exact wpIn_skip (hk E _ _ _ _ hE h hs hf)
 | exit id => intro S a w K Q h hk hp hnl hm hf ⟨E, hE, hs⟩; exact wpIn_exit (hk E _ _ _ _ hE h hs hf)
 | ret => intro S a w K Q h hk hp hnl hm hf ⟨E, hE, hs⟩; exact wpIn_ret (hk E _ _ _ _ hE h hs hf)
 | label l => intro S a w K Q h hk hp hnl hm hf ⟨E, hE, hs⟩; exact wpIn_label (hk E _ _ _ _ hE h hs hf)
 | region id ops draw =>
   intro S a w K Q h hk hp hnl hm hf ⟨E, hE, hs⟩
   simp only [exec] at h
   have hl : ¬ LetsOut (panicQ Y V (K .normal)) := fun ⟨_, _, h⟩ => h
   have hQ : ∀ e a0 w', fits R back Y n a0 → panicQ Y V (K .normal) e (ext a0 back) w' → Q e a0 w' := by
    intro e a0 w' hf0 hq
    cases e with
    | normal =>
      obtain ⟨E', S', h1, h2, h3⟩ := hq
      exact hk E' _ S' a0 w' h1 h2 h3 hf0
    | panic ch =>
      obtain ⟨j, E', v, S', h1, rfl, h2, h3⟩ := hq
      exact hp j E' v S' a0 w' h1 h2 h3
    | _ => exact hq.elim
   have hdf : R = none ∨ ∀ (i : Nat) (o : Oper), ops[i]? = some o → undefer o := by
    rcases hm with hm | hm
    · exact .inl hm.1
    · exact .inr fun i o ho => undefer_of (opersOk_at hm i o ho)
   by_cases hplain : plainM R back Y
   · obtain ⟨rfl, rfl, hyn⟩ := hplain
     rw [ext_nil] at hs
     refine wpIn_mono (Q := panicQ Y V (K .normal)) ?_ fun e a0 w' hq => hQ e a0 w' (.inl ⟨rfl, rfl, hyn⟩) (by rw [ext_nil]; exact hq)
     cases draw with
     | true =>
       cases hmx : P.follows .mixedOrders with
       | false => rw [hmx] at h; exact h.elim
       | true =>
         rw [hmx] at h
         simp only [cond_true] at h
         refine wpIn_region_any hmx (wpAnyIn_of hl hdf _ _ _ _ ?_)
         exact runDraw_any (hΓ _ E hE) hD.dc h (fun S' a' w' hj hk' hst => ⟨E, S', by rw [hj]; exact hE, hk', hst⟩) (fun v S' a' w' h1 h2 => ⟨_, E, v, S', hE, rfl, .inr h1, h2⟩) hs
     | false =>
       refine wpIn_region ?_
       rw [List.range_eq_range']
       obtain ⟨hd, hs⟩ := hs
       have := runOps_sound (V := V) (A := fun _ => True) hΓ hD.dc (fun h e => by rw [hyn] at e; cases e) (fun _ _ _ _ _ _ => trivial) hdf hl (K := K .normal) (fun E S' a' w' h1 h2 h3 => ⟨E, S', h1, h2, h3⟩) (fun j E v S' a' w' h1 h2 h3 => ⟨j, E, v, S', h1, rfl, .inl h2, h3⟩) ops.toList 0 S.next S a w rfl h trivial ⟨E, hE, hd, hs⟩
       simpa using this
   · have hok : opersOk n ops.toList = true := hm.resolve_left hplain
     have hsz : a.tmps.size = n := hf.resolve_left hplain
     have hQ' : ∀ e a0 w', a0.tmps.size = n → panicQ Y V (K .normal) e (ext a0 back) w' → Q e a0 w' := fun e a0 w' h0 => hQ e a0 w' (.inr h0)
     cases draw with
     | true =>
       cases hmx : P.follows .mixedOrders with
       | false => rw [hmx] at h; exact h.elim
       | true =>
         rw [hmx] at h
         simp only [cond_true] at h
         refine wpIn_region_draw fun t => ?_
         simp only [Region.schedule, hmx, Bool.true_or, if_true]
         refine wpOpsIn_ext hok (fun _ => trivial) hQ' hl _ a _ hsz ?_
         refine wpAnyIn_sound ops.size t _ _ _ (wpAnyIn_of hl hdf _ _ _ _ ?_)
         exact runDraw_any (hΓ _ E hE) hD.dc h (fun S' a' w' hj hk' hst => ⟨E, S', by rw [hj]; exact hE, hk', hst⟩) (fun v S' a' w' h1 h2 => ⟨_, E, v, S', hE, rfl, .inr h1, h2⟩) hs
     | false =>
       refine wpIn_region ?_
       rw [List.range_eq_range']
       refine wpOpsIn_ext hok (fun _ => trivial) hQ' hl _ a _ hsz ?_
       obtain ⟨hd, hs⟩ := hs
       have := runOps_sound (V := V) hΓ hD.dc hD.yh (sfx_put hok) hdf hl (K := K .normal) (fun E S' a' w' h1 h2 h3 => ⟨E, S', h1, h2, h3⟩) (fun j E v S' a' w' h1 h2 h3 => ⟨j, E, v, S', h1, rfl, .inl h2, h3⟩) ops.toList 0 S.next S (ext a back) w rfl h ⟨a, rfl, hsz⟩ ⟨E, hE, hd, hs⟩
       simpa using this
 | seq x y ihx ihy =>
   intro S a w K Q h hk hp hnl hm hf hs
   simp only [exec] at h
   have hn : (noLoop x = true ∨ ∀ j E, V j E → ∀ l v, E.pin l = some v → l ∈ ann.pins) ∧ (noLoop y = true ∨ ∀ j E, V j E → ∀ l v, E.pin l = some v → l ∈ ann.pins) := by
    rcases hnl with h | h
    · simp only [noLoop, Bool.and_eq_true] at h; exact ⟨.inl h.1, .inl h.2⟩
    · exact ⟨.inr h, .inr h⟩
   have hmx : (plainM R back Y ∨ codeOk n x = true) ∧ (plainM R back Y ∨ codeOk n y = true) := by
    rcases hm with h | h
    · exact ⟨.inl h, .inl h⟩
    · simp only [codeOk, Bool.and_eq_true] at h; exact ⟨.inr h.1, .inr h.2⟩
   refine wpIn_seq (ihx h (fun E e S' a' w' hE h1 h2 hf' => ?_) (fun j E v S' a' w' hE h1 h2 => hp j E v S' a' w' hE h1 h2) hn.1 hmx.1 hf hs)
   cases e with
   | normal => exact ihy h1 hk hp hn.2 hmx.2 hf' ⟨E, hE, h2⟩
   | _ => exact hk E _ _ _ _ hE h1 h2 hf'
 | cond q x y ihx ihy =>
   intro S a w K Q h hk hp hnl hm hf ⟨E, hE, hs⟩
   simp only [exec] at h
   have hmx : (plainM R back Y ∨ codeOk n x = true) ∧ (plainM R back Y ∨ codeOk n y = true) := by
    rcases hm with h | h
    · exact ⟨.inl h, .inl h⟩
    · simp only [codeOk, Bool.and_eq_true] at h; exact ⟨.inr h.1.2, .inr h.2⟩
   split at h
   · rename_i v hv
     obtain ⟨hd, H, ρ, I, hs'⟩ := hs
     have he : a.eval q = .bool v := by
      have he : (ext a back).eval q = .bool v := ev_sound hs' hv
      by_cases hplain : plainM R back Y
      · rw [hplain.2.1, ext_nil] at he; exact he
      · have hc := hm.resolve_left hplain
        simp only [codeOk, Bool.and_eq_true] at hc
        rw [← ext_eval (b := back) (by rw [hf.resolve_left hplain]; exact hc.1.1)]; exact he
     have hn : (noLoop x = true ∨ ∀ j E, V j E → ∀ l v, E.pin l = some v → l ∈ ann.pins) ∧ (noLoop y = true ∨ ∀ j E, V j E → ∀ l v, E.pin l = some v → l ∈ ann.pins) := by
      rcases hnl with h | h
      · simp only [noLoop, Bool.and_eq_true] at h; exact ⟨.inl h.1, .inl h.2⟩
      · exact ⟨.inr h, .inr h⟩
     have hst0 : StF V S (ext a back) w := ⟨E, hE, hd, H, ρ, I, hs'⟩
     generalize ann.prune = md at h
     match md, h with
     | 0, h => exact wpIn_cond_split he (fun e => ihx (h.1 e) hk hp hn.1 hmx.1 hf hst0) (fun e => ihy (h.2 e) hk hp hn.2 hmx.2 hf hst0)
     | 1, h =>
       simp only at h
       cases hkn : knownB S q with
       | some b =>
         rw [hkn] at h
         have hb : v = b := by
          cases q with
          | tmp t =>
            simp only [knownB] at hkn
            split at hkn
            · rename_i p hp'
              simp at hkn; subst hkn
              simp only [ev, evalO, SState.get, hp', normB, svOf] at hv
              simp at hv
              exact hv.symm
            · cases hkn
          | _ => cases hkn
         cases b with
         | true => exact wpIn_cond_split he (fun e => ihx h hk hp hn.1 hmx.1 hf hst0) (fun e => by rw [hb] at e; cases e)
         | false => exact wpIn_cond_split he (fun e => by rw [hb] at e; cases e) (fun e => ihy h hk hp hn.2 hmx.2 hf hst0)
       | none =>
         rw [hkn] at h
         have hst : ∀ b, v = b → StF V (S.know q b) (ext a back) w := fun b e => ⟨E, by rw [jump_know]; exact hE, hd, H, ρ, by rw [(know_hp S q b).1, (know_hp S q b).2]; exact I, know_slots hv hkn e hs'⟩
         exact wpIn_cond_split he (fun e => ihx (h.1 e) hk hp hn.1 hmx.1 hf (hst true e)) (fun e => ihy (h.2 e) hk hp hn.2 hmx.2 hf (hst false e))
     | k + 2, h =>
       simp only at h
       refine wpIn_cond_split he (fun e => ?_) (fun e => ?_)
       · subst e
         exact ihx h hk hp hn.1 hmx.1 hf hst0
       · subst e
         exact ihy h hk hp hn.2 hmx.2 hf hst0
   · exact h.elim
 | block id x ih =>
   intro S a w K Q h hk hp hnl hm hf hs
   simp only [exec] at h
   refine wpIn_block (ih h (fun E e S' a' w' hE h1 h2 hf' => ?_) (fun j E v S' a' w' hE h1 h2 => hp j E v S' a' w' hE h1 h2) (hnl.imp (fun h => h) (fun h => h)) (hm.imp (fun h => h) fun h => h) hf hs)
   cases e with
   | exit j =>
     simp only [Exit.inBlock] at h1 ⊢
     cases hb : Nat.beq j id with
     | true =>
       rw [hb] at h1
       rw [if_pos (Nat.eq_of_beq_eq_true hb)]
       exact hk E _ _ _ _ hE h1 h2 hf'
     | false =>
       rw [hb] at h1
       rw [if_neg (fun e => by subst e; simp at hb)]
       exact hk E _ _ _ _ hE h1 h2 hf'
   | _ => exact hk E _ _ _ _ hE h1 h2 hf'
 | scope x ih =>
   intro S a w K Q h hk hp hnl hm hf hs
   simp only [exec] at h
   have hm' : plainM R back Y := hm.resolve_right (by simp [codeOk])
   obtain ⟨rfl, rfl, hyn⟩ := hm'
   refine (wpIn_wide (n := 0)).2 (wp_scope_straight ((wpIn_wide (n := 0)).1 (ih h (fun E e S' a' w' hE h1 h2 hf' => ?_) (fun j E v S' a' w' hE h1 h2 => hp j E v S' a' w' hE h1 h2) (hnl.imp (fun h => h) (fun h => h)) (.inl ⟨rfl, rfl, hyn⟩) hf hs)))
   cases e with
   | goto j => exact h1
   | _ => exact hk E _ _ _ _ hE h1 h2 hf'
 | loop x ih =>
   intro S a w K Q h hk hp hnl hm hf hs
   simp only [exec] at h
   have hp1 : ∀ j E, V j E → ∀ l v, E.pin l = some v → l ∈ ann.pins := hnl.resolve_left (by simp [noLoop])
   have hm : plainM R back Y ∨ codeOk n x = true := hm.imp id fun h => h
   split at h
   · rename_i A hA
     obtain ⟨⟨x0, hx0, hf0⟩, hbody⟩ := h
     obtain ⟨j0, _⟩ := fit_jump hf0
     let R' : Act → World → Nat → Prop := fun a w k => fits R back Y n a ∧ ∃ z, A.inv z ∧ StF V (headOf S (asg ann x) A z) (ext a back) w ∧ A.meas z = k
     have hmin : ∀ a w, (∃ n, R' a w n) → ∃ n, R' a w n ∧ ∀ m, R' a w m → n ≤ m := by
      intro a w ⟨n, hn⟩
      induction n using Nat.strongRecOn with
      | _ n ih =>
        by_cases hm : ∃ m, m < n ∧ R' a w m
        · obtain ⟨m, h1, h2⟩ := hm
          exact ih m h1 h2
        · refine ⟨n, hn, fun m hr => ?_⟩
          by_cases hlt : m < n
          · exact absurd ⟨m, hlt, hr⟩ hm
          · omega
     classical
     let μ : Act → World → Nat := fun a w => if h : ∃ n, R' a w n then Classical.choose (hmin a w h) else 0
     have hμ : ∀ a w, (h : ∃ n, R' a w n) → R' a w (μ a w) ∧ ∀ m, R' a w m → μ a w ≤ m := by
      intro a w h
      have : μ a w = Classical.choose (hmin a w h) := by simp only [μ]; rw [dif_pos h]
      rw [this]
      exact Classical.choose_spec (hmin a w h)
     obtain ⟨E0, hE0, hs0⟩ := hs
     refine wpIn_loop (fun a w => ∃ n, R' a w n) μ ⟨_, hf, x0, hx0, ⟨E0, hE0, fit_head hf0 hs0 rfl (fun _ _ => SlImp.refl _) (fun _ _ => rfl) (hp1 _ E0 hE0)⟩, rfl⟩ fun a w hI => ?_
     obtain ⟨⟨hfa, z, hz, hst, hmz⟩, hle⟩ := hμ a w hI
     refine ih (exec_keep hD.keep (hbody z hz) (K' := fun e S' => (match e with
      | .normal => ∃ x', A.inv x' ∧ A.meas x' < A.meas z ∧ fitHead ann.pins S (asg ann x) A x' S' (app (headWr S A z) S'.wr)
      | e => K e (S'.wrap (app (headWr S A z) S.wr))) ∧ Keep (asg ann x) (headOf S (asg ann x) A z) S') fun e S' h1 h2 => ⟨?_, h2⟩) (fun E e S' a' w' hE h1 h2 hf' => ?_) (fun j E v S' a' w' hE h1 h2 => hp j E v S' a' w' hE h1 h2) (.inr hp1) hm hfa hst
     · cases e <;> exact h1
     · obtain ⟨h1, hkp⟩ := h1
       cases e with
       | normal =>
         obtain ⟨x', hx', hlt, hfit⟩ := h1
         obtain ⟨_, j1⟩ := fit_jump hfit
         have hhead : St E (headOf S (asg ann x) A x') (ext a' back) w' := by
          refine fit_head hfit h2 (by rw [hkp.len]; simp [headOf, setAll_length, clear_length, mapL_length]) (fun t ht => ?_) (fun l hl => ?_) (hp1 _ E hE)
          · refine (hkp.slot t ht).trans ?_
            simp only [headOf]
            rcases nth_setAll (sl := inL (asg ann x) (A.slots z)) (l := clear (mapL uncond S.tmps) (asg ann x)) t with ⟨h, h'⟩ | ⟨v, h1, h2⟩ | ⟨h1, h2⟩
            · rw [h, nth_out S.tmps t (by simpa [clear_length, mapL_length] using h')]; exact SlImp.refl _
            · exact absurd (inL_mem h1).2 ht
            · rw [h2, nth_clear, if_neg ht, nth_mapL uncond .un rfl, uncond_uncond]; exact SlImp.refl _
          · simp only [mem_app, not_or] at hl
            rw [hkp.obj l hl.2]
            exact head_look_not hl.1
         have hR : R' a' w' (A.meas x') := ⟨hf', x', hx', ⟨E, by rw [j1] at hE; rw [show (headOf S (asg ann x) A x').jump = S.jump from rfl, j0]; exact hE, hhead⟩, rfl⟩
         refine ⟨⟨_, hR⟩, ?_⟩
         have := (hμ a' w' ⟨_, hR⟩).2 _ hR
         omega
       | _ => exact hk E _ (S'.wrap (app (headWr S A z) S.wr)) _ _ hE h1 h2.wrap hf'
   · cases hu : memN (keyOf x) ann.unroll with
     | false => rw [hu] at h; exact h.elim
     | true =>
       rw [hu] at h
       simp only [cond_true] at h
       generalize rounds = n0 at h
       let U : Nat → SState → Prop := fun n => Nat.rec (motive := fun _ => SState → Prop) (fun _ => False) (fun _ ih S => exec P Γ Y ann x S fun
        | .normal, S' => ih S'
        | e, S' => K e S') n
       let R' : Act → World → Nat → Prop := fun a w k => fits R back Y n a ∧ ∃ S, U k S ∧ StF V S (ext a back) w
       have hmin : ∀ a w, (∃ n, R' a w n) → ∃ n, R' a w n ∧ ∀ m, R' a w m → n ≤ m := by
        intro a w ⟨n, hn⟩
        induction n using Nat.strongRecOn with
        | _ n ih =>
          by_cases hm : ∃ m, m < n ∧ R' a w m
          · obtain ⟨m, h1, h2⟩ := hm
            exact ih m h1 h2
          · refine ⟨n, hn, fun m hr => ?_⟩
            by_cases hlt : m < n
            · exact absurd ⟨m, hlt, hr⟩ hm
            · omega
       classical
       let μ : Act → World → Nat := fun a w => if h : ∃ n, R' a w n then Classical.choose (hmin a w h) else 0
       have hμ : ∀ a w, (h : ∃ n, R' a w n) → R' a w (μ a w) ∧ ∀ m, R' a w m → μ a w ≤ m := by
        intro a w h
        have : μ a w = Classical.choose (hmin a w h) := by simp only [μ]; rw [dif_pos h]
        rw [this]
        exact Classical.choose_spec (hmin a w h)
       refine wpIn_loop (fun a w => ∃ n, R' a w n) μ ⟨n0, hf, S, h, hs⟩ fun a w hI => ?_
       obtain ⟨⟨hfa, S1, hU, hst⟩, hle⟩ := hμ a w hI
       cases hn : μ a w with
       | zero => rw [hn] at hU; exact hU.elim
       | succ k =>
         rw [hn] at hU
         have hU : exec P Γ Y ann x S1 fun
          | .normal, S' => U k S'
          | e, S' => K e S' := hU
         refine ih hU (fun E e S' a' w' hE h1 h2 hf' => ?_) (fun j E v S' a' w' hE h1 h2 => hp j E v S' a' w' hE h1 h2) (.inr hp1) hm hfa hst
         cases e with
         | normal =>
           have hR : R' a' w' k := ⟨hf', S', h1, ⟨E, hE, h2⟩⟩
           refine ⟨⟨_, hR⟩, ?_⟩
           have := (hμ a' w' ⟨_, hR⟩).2 _ hR
           omega
         | _ => exact hk E _ _ _ _ hE h1 h2 hf'
 | rangeFunc g ps x y =>
   intro S a w K Q h hk hp hnl hm hf hs
   simp only [exec] at h
   split at h
   · rename_i hh hy
     exact hD.rf hh hy g ps x y S K Q a w h hs fun E e S' a' w' hE h1 h2 hsz => hk E e S' a' w' hE h1 h2 (hf.imp id fun h => hsz.trans h)
   · exact h.elim
 | _ => intro S a w K Q h; simp only [exec] at h

theorem noDy_keep {Y : Dy} (hn : Y.yh = none ∧ Y.rf = none) : DyKeep Y := ⟨fun h e => (by rw [hn.1] at e; cases e), fun h e => (by rw [hn.2] at e; cases e)⟩
theorem exec_sound {Γ : FuncId → Option PC} (hΓ : GamOk P E.H0 Γ) {Y : Dy} (hY : ∀ f c, Y.dc f = some c → DSpec P f c) {ann : Ann} {c : Code} {S : SState} {a : Act} {w : World} {K : Exit → SState → Prop} {Q : Exit → Act → World → Prop}
 (h : exec P Γ Y ann c S K) (hk : ∀ e S' a' w', K e S' → St E S' a' w' → Q e a' w') (hp : ∀ v S' a' w', Y.kp v S' ∨ Y.kpd v → Dst E S' a' w' → Q (.panic [{ v := v, recovered := false }]) a' w') (hnl : noLoop c = true ∨ ∀ l v, E.pin l = some v → l ∈ ann.pins) (hs : St E S a w)
 (hn : Y.yh = none ∧ Y.rf = none := by exact ⟨rfl, rfl⟩) : c.wp P Q a w := by
 refine (wpIn_wide (n := 0)).1 (exec_soundF (R := none) (V := fun _ E' => E' = E) (back := #[]) (n := 0) (fun j E' hE => by subst hE; exact hΓ) (Y := Y) ⟨hY, fun h e => (by rw [hn.1] at e; cases e), fun h e => (by rw [hn.2] at e; cases e), noDy_keep hn⟩ h (fun E' e S' a' w' hE h1 h2 _ => ?_) (fun j E' v S' a' w' hE h1 h2 => ?_) (hnl.imp id fun h j E' hE => by subst hE; exact h) (.inl ⟨rfl, rfl, hn.1⟩) (.inl ⟨rfl, rfl, hn.1⟩) ⟨E, rfl, by rw [ext_nil]; exact hs⟩)
 · subst hE; rw [ext_nil] at h2; exact hk e S' a' w' h1 h2
 · subst hE; rw [ext_nil] at h2; exact hp v S' a' w' h1 h2

theorem argsRel_datas {l : List SV} {vs : List Value} (h : datsRel H l vs) (ρ : Lab) : svsRel H ρ l vs := by
 induction l generalizing vs with
 | nil => exact h
 | cons s r ih =>
   obtain ⟨v, x, e, h1, h2⟩ := h
   exact ⟨v, x, e, h1 ρ, ih h2⟩

def resF (tmps : Array Value) : ResultVar → Sem Value
 | .tmp t => pure (tmps.getD t undef)
 | .cell b t => do loadVar t (← asAddr (tmps.getD b undef))
theorem resultsOf_sound (I : MInv E H ρ S.hp N w) (hs : slotsRel H ρ S.tmps a.tmps) : ∀ {rs : List ResultVar} {vs : List SV}, resultsOf P S rs = some vs →
 ∃ xs : List Value, (rs.mapM (resF a.tmps)).run P w = .ok xs w ∧ svsRel H ρ vs xs
 | [], vs, h => by simp [resultsOf] at h; subst h; exact ⟨[], by simp, rfl⟩
 | .tmp t :: r, vs, h => by
   simp only [resultsOf] at h
   split at h
   · rename_i v us hv hr
     simp at h; subst h
     obtain ⟨xs, h1, h2⟩ := resultsOf_sound I hs hr
     refine ⟨a.tmps.getD t undef :: xs, ?_, _, _, rfl, ?_, h2⟩
     · rw [List.mapM_cons]
       simp only [resF, Sem.run_bind, Sem.run_pure, Result.andThen_ok]
       rw [show (List.mapM (resF a.tmps) r).run P w = _ from h1]
       rfl
     · have := get_rel hs t
       unfold svOf at hv
       split at hv
       · rename_i u hu; rw [hu] at this; simp at hv; subst hv; exact this
       · simp at hv
   · simp at h
 | .cell b t :: r, vs, h => by
   simp only [resultsOf] at h
   split at h
   · rename_i v u us hv hr
     simp at h; subst h
     obtain ⟨xs, h1, h2⟩ := resultsOf_sound I hs hr
     simp only [Option.bind_eq_some_iff] at hv
     obtain ⟨s, hs1, hl⟩ := hv
     have hsb := get_rel hs b
     have hsv : svRel H ρ s (a.tmps.getD b undef) := by
      unfold svOf at hs1
      split at hs1
      · rename_i u hu; rw [hu] at hsb; simp at hs1; subst hs1; exact hsb
      · simp at hs1
     obtain ⟨_, ad, x, e, hx, s', e', hrel⟩ := loadO_sound I hl trivial hsv
     simp at e'; subst e'
     refine ⟨x :: xs, ?_, _, _, rfl, hrel, h2⟩
     rw [List.mapM_cons]
     simp only [resF, e, asAddr, Sem.run_bind, Sem.run_pure, Result.andThen_ok, hx]
     rw [show (List.mapM (resF a.tmps) r).run P w = _ from h1]
     rfl
   · simp at h

theorem outOf_rel {vs : List SV} {xs : List Value} (h : svsRel H ρ vs xs) {a : Array Value} : slRel H ρ a (outOf vs) (if h : xs.toArray.size = 1 then xs.toArray[0] else .tuple xs.toArray) := by
 match vs, h with
 | [], h => simp only [svsRel] at h; subst h; exact ⟨[], rfl, rfl⟩
 | [s], ⟨v, x, e, h1, h2⟩ => simp only [svsRel] at h2; subst h2; subst e; exact h1
 | s :: s' :: r, ⟨v, x, e, h1, v', x', e', h2, h3⟩ => subst e'; subst e; exact ⟨_, rfl, v, _, rfl, h1, v', _, rfl, h2, h3⟩

theorem results_run (fn : Func) (tmps : Array Value) {xs : List Value} (h : (fn.results.toList.mapM (resF tmps)).run P w = .ok xs w) :
 (results fn tmps).run P w = .ok (if h : xs.toArray.size = 1 then xs.toArray[0] else .tuple xs.toArray) w := by
 have e : results fn tmps = (do
  let vs ← fn.results.mapM (resF tmps)
  pure (if h : vs.size = 1 then vs[0] else .tuple vs)) := by
  unfold results
  congr 1
 rw [e, Array.mapM_eq_mapM_toList]
 simp only [map_eq_pure_bind, bind_assoc, pure_bind]
 rw [Sem.run_bind, h]
 rfl

theorem nilL_eq {α : Type} {l : List α} (h : nilL l = true) : l = [] := by
 cases l with
 | nil => rfl
 | cons x y => simp [nilL] at h
theorem Renamed.nil (ρ ρ' : Lab) : Renamed ρ ρ' [] := fun _ _ h => by cases h
theorem vcT_of_vcP {p : Option Prop} (h : vcP p) : vcT p := by
 cases p with
 | none => trivial
 | some p => exact h

theorem endData_sound (I : MInv E H ρ hp N w) {r u : SV} {e : EndR} (h : endData hp r u = some e) (hvc : vcT e.vc) {v : Value} (hv : svRel H ρ r v) :
 ∃ H', H.le H' ∧ MInv E H' ρ (putAll hp e.upd) N w ∧ RoExt hp (putAll hp e.upd) ∧ ∀ ρ', Renamed ρ ρ' e.ren → svRel H' ρ' u v := by
 unfold endData at h
 split at h
 · rename_i d hd
   split at h
   · rename_i f hf
     cases hn : nilL f.ren with
     | false => rw [hn] at h; simp at h
     | true =>
       rw [hn] at h; simp at h; subst h
       obtain ⟨v1, v2⟩ := vcT_and hvc
       obtain ⟨H', le, I', ro, rel⟩ := asData_sound I hd v1 hv
       exact ⟨H', le, I', ro, fun ρ' _ => fitSV_rel hf v2 (by rw [nilL_eq hn]; exact Renamed.nil ρ' ρ') (fun _ _ => rfl) (rel ρ')⟩
   · simp at h
 · simp at h
theorem endSV_sound (I : MInv E H ρ hp N w) {r u : SV} {e : EndR} (h : endSV hp r u = some e) (hvc : vcT e.vc) {v : Value} (hv : svRel H ρ r v) :
 ∃ H', H.le H' ∧ MInv E H' ρ (putAll hp e.upd) N w ∧ RoExt hp (putAll hp e.upd) ∧ ∀ ρ', Renamed ρ ρ' e.ren → svRel H' ρ' u v := by
 unfold endSV at h
 split at h
 · split at h
   · rename_i f hf
     simp at h; subst h
     exact ⟨H, Mem.le_refl H, I, RoExt.refl hp, fun ρ' hr => fitOwn_rel hf hvc hr hv⟩
   · simp at h
 · simp at h; subst h
   exact ⟨H, Mem.le_refl H, I, RoExt.refl hp, fun ρ' hr => fitNil_rel hvc hr hv⟩
 · rename_i s q
   cases hq : (isPlain s && plainR q s) with
   | false => rw [hq] at h; simp at h
   | true =>
     rw [hq] at h; simp at h; subst h
     simp only [Bool.and_eq_true] at hq
     exact ⟨H, Mem.le_refl H, I, RoExt.refl hp, fun ρ' hr => plainR_rel hq.2 hv (hr (labR s) (some (labR q)) (by simp))⟩
 · rename_i k0 _
   simp at h; subst h
   exact ⟨H, Mem.le_refl H, I, RoExt.refl hp, fun ρ' hr => ⟨(hr k0 none (by simp)).trans (congrArg some hv.symm), none, 0, 0, hv⟩⟩
 · rename_i g ds f cs
   cases hn : nilL (refsC ds) with
   | false => rw [hn] at h; cases h
   | true =>
     rw [hn, cond_true] at h
     split at h
     · rename_i f1 hf
       simp at h; subst h
       refine ⟨H, Mem.le_refl H, I, RoExt.refl hp, fun ρ' hr => fitSV_rel hf hvc hr (fun l hl => ?_) hv⟩
       exfalso
       have hl : l ∈ refsC ds := hl
       cases hds : refsC ds with
       | nil => rw [hds] at hl; cases hl
       | cons a r => rw [hds] at hn; cases hn
     · cases h
 · exact endData_sound I h hvc hv

theorem RoExt.endSV {x y : List (Nat × SObj)} (h : RoExt x y) (r u : SV) : Vse.endSV y r u = Vse.endSV x r u := by
 have e : endData y r u = endData x r u := by unfold endData; rw [h.asData]
 unfold Vse.endSV
 split
 · rfl
 · rfl
 · rfl
 · rfl
 · rfl
 · exact e
theorem RoExt.endSVs {x y : List (Nat × SObj)} (h : RoExt x y) : ∀ (rs us : List SV), Vse.endSVs y rs us = Vse.endSVs x rs us
 | [], [] => rfl
 | r :: rs, u :: us => by simp only [Vse.endSVs, h.endSV, h.endSVs rs us]
 | [], _ :: _ => rfl
 | _ :: _, [] => rfl
theorem endSVs_sound : ∀ {rs us : List SV} {hp : List (Nat × SObj)} {H : Mem} (_ : MInv E H ρ hp N w) {e : EndR} (_ : endSVs hp rs us = some e) (_ : vcT e.vc) {vs : List Value} (_ : svsRel H ρ rs vs),
 ∃ H', H.le H' ∧ MInv E H' ρ (putAll hp e.upd) N w ∧ RoExt hp (putAll hp e.upd) ∧ ∀ ρ', Renamed ρ ρ' e.ren → svsRel H' ρ' us vs
 | [], [], hp, H, I, e, h, hvc, vs, hv => by
   simp [endSVs] at h; subst h
   exact ⟨H, Mem.le_refl H, I, RoExt.refl hp, fun _ _ => hv⟩
 | r :: rs, u :: us, hp, H, I, e, h, hvc, vs, ⟨v, x, ev, h1, h2⟩ => by
   simp only [endSVs] at h
   split at h
   · rename_i e1 e2 he1 he2
     simp at h; subst h
     obtain ⟨v1, v2⟩ := vcT_and hvc
     obtain ⟨H1, le1, I1, ro1, rel1⟩ := endSV_sound I he1 v1 h1
     rw [← ro1.endSVs] at he2
     obtain ⟨H2, le2, I2, ro2, rel2⟩ := endSVs_sound I1 he2 v2 (svsRel_mono le1 (Lab.le_refl ρ) h2)
     refine ⟨H2, Mem.le_trans le1 le2, by rw [putAll_app]; exact I2, by rw [putAll_app]; exact ro1.trans ro2, fun ρ' hr => ?_⟩
     obtain ⟨r1, r2⟩ := hr.app
     exact ⟨v, x, ev, svRel_mono le2 (Lab.le_refl ρ') (rel1 ρ' r1), rel2 ρ' r2⟩
   · simp at h
 | [], _ :: _, _, _, _, _, h, _, _, _ => by simp [endSVs] at h
 | _ :: _, [], _, _, _, _, h, _, _, _ => by simp [endSVs] at h

theorem endSl_sound (I : MInv E H ρ hp N w) {rs : List SV} {out : Sl} {e : EndR} (h : endSl hp rs out = some e) (hvc : vcT e.vc) {vs : List Value} (hv : svsRel H ρ rs vs) :
 ∃ H', H.le H' ∧ MInv E H' ρ (putAll hp e.upd) N w ∧ ∀ ρ' a, Renamed ρ ρ' e.ren → slRel H' ρ' a out (if h : vs.toArray.size = 1 then vs.toArray[0] else .tuple vs.toArray) := by
 unfold endSl at h
 split at h
 · rename_i u
   split at h
   · obtain ⟨H', le, I', _, rel⟩ := endSVs_sound I h hvc hv
     exact ⟨H', le, I', fun ρ' a hr => outOf_rel (vs := [u]) (rel ρ' hr)⟩
   · simp at h
 · rename_i us
   split at h
   · simp at h
   · rename_i hne
     obtain ⟨H', le, I', _, rel⟩ := endSVs_sound I h hvc hv
     refine ⟨H', le, I', fun ρ' a hr => ?_⟩
     have := outOf_rel (rel ρ' hr) (a := a)
     match us, hne with
     | [], _ => exact this
     | [x], hne => exact absurd rfl (hne x)
     | x :: y :: z, _ => exact this
 · simp at h

theorem dataFit_rel {cs new : List SC} {p : Option Prop} (h : dataFit cs new = some p) (hv : vcT p) {vs : List Value} (hr : scsRel H ρ cs vs) : ∀ ρ', scsRel H ρ' new vs := by
 intro ρ'
 unfold dataFit at h
 split at h
 · rename_i rs hrs
   split at h
   · rename_i f hf
     cases hn : nilL f.ren with
     | false => rw [hn] at h; simp at h
     | true =>
       rw [hn] at h; simp at h; subst h
       exact fitSCs_rel hf hv (by rw [nilL_eq hn]; exact Renamed.nil ρ' ρ') (fun _ _ => rfl) (scsRel_ofRuns.2 (toRuns_sound hrs hr))
   · simp at h
 · simp at h

theorem end_sound (I : MInv E H ρ S.hp N w) (hs : slotsRel H ρ S.tmps a.tmps) {fn : Func} {r : CRes} (h : endVC P fn r S) :
 ∃ v H' hp' u, (results fn a.tmps).run P w = .ok v w ∧ H.le H' ∧ MInv E H' ρ hp' N w ∧
  (∀ new, r.rcv = some new → look 1 hp' ≠ .gone ∧ ∃ b c ty, ρ 1 = some (.pointer (some ⟨b, 0, none⟩)) ∧ w.heap[b]? = some (.cells c ty (0, 0)) ∧ (∀ ρ, scsRel H' ρ new c.toList) ∧ ∀ o, H' b o = none) ∧
  (match r.fresh with
   | none => u = none
   | some ob => (∀ b, u.bind blk = some b → ∃ k, k ≠ 1 ∧ look k hp' ≠ .gone ∧ baseOf ρ k = some b) ∧ ∀ ρ, ρ 0 = u → objRel H' ρ w 0 ob) ∧
  ∀ ρ a, ρ 0 = u → slRel H' ρ a r.out v := by
 unfold endVC at h
 split at h
 · rename_i vs hvs
   split at h
   · rename_i e he
     split at h
     · rename_i p q hp hq
       obtain ⟨v1, v23⟩ := vcT_and (vcT_of_vcP h)
       obtain ⟨v2, v3⟩ := vcT_and v23
       obtain ⟨xs, h1, h2⟩ := resultsOf_sound I hs hvs
       obtain ⟨H', le, I', rel⟩ := endSl_sound I he v1 (argsOf_sound (ts := fn.resultTypes.toList) h2)
       have hrc : ∀ new, r.rcv = some new → look 1 (putAll S.hp e.upd) ≠ .gone ∧ ∃ b c ty, ρ 1 = some (.pointer (some ⟨b, 0, none⟩)) ∧ w.heap[b]? = some (.cells c ty (0, 0)) ∧ (∀ ρ, scsRel H' ρ new c.toList) ∧ ∀ o, H' b o = none := by
        intro new hnew
        rw [hnew] at hp
        simp only [rcvF] at hp
        split at hp
        · rename_i cs hl
          obtain ⟨b, c, ty, g1, g2, g3, g4⟩ := I'.cells hl
          exact ⟨by rw [hl]; simp, b, c, ty, g1, g2, dataFit_rel hp v2 g3, g4 rfl⟩
        · simp at hp
       unfold freshF at hq
       split at hq
       · rename_i hren hfr
         exact ⟨_, H', _, none, results_run fn a.tmps h1, le, I', hrc, by rw [hfr], fun ρ' a' _ => rel ρ' a' (by rw [hren]; exact Renamed.nil ρ ρ')⟩
       · rename_i ee ss hren hfr
         refine ⟨_, H', _, some (.slice none 0 0), results_run fn a.tmps h1, le, I', hrc, ?_, fun ρ' a' hu => rel ρ' a' ?_⟩
         · rw [hfr]
           exact ⟨fun b hb => by simp [blk] at hb, fun ρ' hu => ⟨_, 0, [], hu, ownsR_nil w ee ss, by simp [Value.ownBlock]⟩⟩
         · rw [hren]
           intro k0 k hm
           simp only [List.mem_singleton, Prod.mk.injEq] at hm
           obtain ⟨rfl, rfl⟩ := hm
           exact hu
       · rename_i k ee ss hren hfr
         cases ht : (tokIs ee ss (look k (putAll S.hp e.upd)) && !Nat.beq k 1) with
         | false => rw [ht] at hq; simp at hq
         | true =>
           simp only [Bool.and_eq_true, Bool.not_eq_true'] at ht
           obtain ⟨ht, hk⟩ := ht
           have hk1 : k ≠ 1 := fun e => by subst e; simp at hk
           have hlk : look k (putAll S.hp e.upd) = .tok ee ss := by
            unfold tokIs at ht
            split at ht
            · rename_i e' s' he'
              simp only [Bool.and_eq_true] at ht
              rw [he', Nat.eq_of_beq_eq_true ht.1, Nat.eq_of_beq_eq_true ht.2]
            · simp at ht
           have hobj := I'.objs k
           rw [hlk] at hobj
           obtain ⟨v, n, ys, g1, g2, g3⟩ := hobj
           refine ⟨_, H', _, some v, results_run fn a.tmps h1, le, I', hrc, ?_, fun ρ' a' hu => rel ρ' a' ?_⟩
           · rw [hfr]
             exact ⟨fun b hb => ⟨k, hk1, by rw [hlk]; simp, by simpa [baseOf, g1] using hb⟩, fun ρ' hu => ⟨v, n, ys, hu, g2, g3⟩⟩
           · rw [hren]
             intro k0 k hm
             simp only [List.mem_singleton, Prod.mk.injEq] at hm
             obtain ⟨rfl, rfl⟩ := hm
             exact hu.trans g1.symm
       · rename_i k new hren hfr
         cases hb : Nat.beq k 1 with
         | true => rw [hb] at hq; simp at hq
         | false =>
           rw [hb] at hq; simp only [cond_false] at hq
           have hk1 : k ≠ 1 := fun e => by subst e; simp at hb
           split at hq
           · rename_i cs hl
             obtain ⟨b, c, ty, g1, g2, g3, g4⟩ := I'.cells hl
             refine ⟨_, H', _, some (.pointer (some ⟨b, 0, none⟩)), results_run fn a.tmps h1, le, I', hrc, ?_, fun ρ' a' hu => rel ρ' a' ?_⟩
             · rw [hfr]
               exact ⟨fun b' hb' => ⟨k, hk1, by rw [hl]; simp, by simpa [baseOf, g1] using hb'⟩, fun ρ' hu => ⟨b, c, ty, hu, g2, dataFit_rel hq v3 g3 ρ', g4⟩⟩
             · rw [hren]
               intro k0 k hm
               simp only [List.mem_singleton, Prod.mk.injEq] at hm
               obtain ⟨rfl, rfl⟩ := hm
               exact hu.trans g1.symm
           · simp at hq
       · simp at hq
     · exact h.elim
   · exact h.elim
 · exact h.elim

def okT : (t : T) → t.den → Prop
 | .i64, n => inI64 n
 | .str, l => l.length ≤ LIM
 | .arr n t, xs => xs.length = n ∧ ∀ x ∈ xs, okT t x
 | .slc t, xs => xs.length ≤ LIM ∧ ∀ x ∈ xs, okT t x
 | .pair a b, p => okT a p.1 ∧ okT b p.2
 | _, _ => True
theorem row_all {α : Type} {R : α → List Value → Prop} {Q : α → Prop} (h : ∀ x cs, R x cs → Q x) : ∀ {xs : List α} {cs : List Value}, rowRel R xs cs → ∀ x ∈ xs, Q x
 | [], _, _, x, hx => by cases hx
 | y :: r, _, ⟨a, b, _, h1, h2⟩, x, hx => by
   simp only [List.mem_cons] at hx
   rcases hx with rfl | hx
   · exact h _ _ h1
   · exact row_all h h2 x hx
theorem okT_of : ∀ (t : T) (x : t.den) (cs : List Value), eltRel H t x cs → okT t x
 | .u8, _, _, _ => trivial
 | .u16, _, _, _ => trivial
 | .u32, _, _, _ => trivial
 | .u64, _, _, _ => trivial
 | .bool, _, _, _ => trivial
 | .unit, _, _, _ => trivial
 | .i64, _, _, h => h.2
 | .str, _, _, h => h.2
 | .arr n t, xs, _, h => ⟨h.1, row_all (okT_of t) h.2⟩
 | .slc t, xs, _, ⟨v, _, h1, h2⟩ => by
   refine ⟨h1, fun x hx => ?_⟩
   rcases h2 with ⟨rfl, _⟩ | ⟨_, _, _, _, _, _, h3, _⟩
   · cases hx
   · exact row_all (okT_of t) h3 x hx
 | .pair a b, p, _, ⟨c, d, _, h1, h2⟩ => ⟨okT_of a p.1 c h1, okT_of b p.2 d h2⟩
def okDV : DV → Prop
 | .i64 n => inI64 n
 | .str l => l.length ≤ LIM
 | .imm t xs => xs.length ≤ LIM ∧ ∀ x ∈ xs, okT t x
 | _ => True
def okRun : Run → Prop
 | .one d => okDV d
 | .many t n xs => xs.length = n ∧ ∀ x ∈ xs, okT t x
def okSCs : List SC → Prop
 | [] => True
 | .run r :: cs => okRun r ∧ okSCs cs
 | _ :: cs => okSCs cs
def okSV : SV → Prop
 | .dv d => okDV d
 | .agg cs => okSCs cs
 | _ => True
def okSVs : List SV → Prop
 | [] => True
 | v :: r => okSV v ∧ okSVs r
theorem okDV_of {d : DV} {v : Value} (h : dvRel H d v) : okDV d := by
 cases d <;> simp only [okDV] <;> try trivial
 · exact h.2
 · exact h.2
 · obtain ⟨h1, h2⟩ := h
   refine ⟨h1, fun x hx => ?_⟩
   rcases h2 with ⟨rfl, _⟩ | ⟨_, _, _, _, _, _, h3, _⟩
   · cases hx
   · exact row_all (okT_of _) h3 x hx
theorem okSCs_of : ∀ {cs : List SC} {vs : List Value}, scsRel H ρ cs vs → okSCs cs
 | [], _, _ => trivial
 | .run (.one d) :: cs, _, ⟨x, y, e, ⟨v, _, h1⟩, h2⟩ => ⟨okDV_of h1, okSCs_of h2⟩
 | .run (.many t n xs) :: cs, _, ⟨x, y, e, ⟨h1, h3⟩, h2⟩ => ⟨⟨h1, row_all (okT_of t) h3⟩, okSCs_of h2⟩
 | .ref r :: cs, _, ⟨x, y, e, _, h2⟩ => okSCs_of (cs := cs) h2
 | .own k t xs :: cs, _, ⟨x, y, e, _, h2⟩ => okSCs_of (cs := cs) h2
theorem okSV_of {s : SV} {v : Value} (h : svRel H ρ s v) : okSV s := by
 cases s <;> simp only [okSV] <;> try trivial
 · exact okDV_of h
 · obtain ⟨vs, _, h⟩ := h; exact okSCs_of h
theorem okSVs_of : ∀ {l : List SV} {vs : List Value}, datsRel H l vs → okSVs l
 | [], _, _ => trivial
 | s :: r, _, ⟨v, x, e, h1, h2⟩ => ⟨okSV_of (h1 (fun _ => none)), okSVs_of h2⟩
theorem okArgs_of {ins : List SV} {vs : List Value} {g : Option Nat} : ∀ {ptr : Bool}, argsRel H w ins vs g ptr → okSVs ins
 | false, h => okSVs_of h.2
 | true, ⟨b, c, ty, rs, ins', vs', e1, e2, e3, h1, h2, h3, h4⟩ => by
   subst e2
   exact ⟨okSCs_of (H := H) (ρ := fun _ => none) (scsRel_ofRuns.2 h2), okSVs_of h4⟩

theorem nth_rep {α : Type} (d : α) : ∀ (n t : Nat), nth d (rep d n) t = d
 | 0, t => by cases t <;> rfl
 | n + 1, 0 => rfl
 | n + 1, t + 1 => nth_rep d n t

theorem rep_length {α : Type} (d : α) : ∀ (n : Nat), (rep d n).length = n
 | 0 => rfl
 | n + 1 => by simp [rep, rep_length d n]

theorem nth_svs : ∀ {l : List SV} {vs : List Value}, svsRel H ρ l vs → ∀ (m : List Sl) (us : List Value) (a : Array Value), (∀ t, nth .un m t = .un) → ∀ t, slRel H ρ a (nth .un (app (mapL Sl.sv l) m) t) ((vs ++ us)[t]?.getD undef)
 | [], _, h, m, us, a, hm, t => by
   simp only [mapL, app]
   rw [hm t]; trivial
 | s :: r, _, ⟨v, x, e, h1, h2⟩, m, us, a, hm, t => by
   subst e
   cases t with
   | zero => exact h1
   | succ t => simpa [mapL, app, nth] using nth_svs h2 m us a hm t
theorem svs_length : ∀ {l : List SV} {vs : List Value}, svsRel H ρ l vs → vs.length = l.length
 | [], _, h => by simp only [svsRel] at h; subst h; rfl
 | s :: r, _, ⟨v, x, e, h1, h2⟩ => by subst e; simp [svs_length h2]

theorem spec_of_bodyK {Γ : FuncId → Option PC} (hΓ : ∀ f c, Γ f = some c → Spec P f c) {Y : Dy} (hyn : Y.yh = none ∧ Y.rf = none) (hY : ∀ f c, Y.dc f = some c → DSpec P f c) (hno : ∀ v S, ¬ (Y.kp v S ∨ Y.kpd v)) {f : FuncId} {fn : Func} (hf : P.funcs[f]? = some fn) (hb : fn.body.isSome = true)
 (hn : (fn.name == "runtime.NumGoroutine") = false) {c : PC} (hgr : c.gr = none ∧ c.alt = none) (hrc : ∀ ins r, c.ct ins = some r → r.rcv.isSome = c.ptr) (h : ∀ ins r, c.ct ins = some r → vcT r.vc → okSVs ins → ∃ ann, bodyK P Γ Y ann fn c.ptr ins (endK P fn r)) : Spec P f c := by
 obtain ⟨b, hb⟩ := Option.isSome_iff_exists.1 hb
 refine ⟨⟨fn, b, hf, hb, hn⟩, fun H w ins vs g r hct hvc hrel hmem hglob => ?_, fun fl g h => by rw [hgr.1, hgr.2] at h; rcases h with h | h <;> cases h⟩
 obtain ⟨ann, hbody⟩ := h ins r hct hvc (okArgs_of hrel)
 have hrcv := hrc ins r hct
 unfold bodyK at hbody
 rw [hb] at hbody
 unfold Answers
 refine calls_of_wp hf hb ?_
 let E : Env := ⟨w, H, g.toList, fun l => if l = 1 then g.map fun b => .pointer (some ⟨b, 0, none⟩) else none, []⟩
 obtain ⟨ins', hp, ρ0, hstart, hsv, I0⟩ : ∃ ins' hp ρ0, startOf c.ptr ins = some (ins', hp) ∧ svsRel H ρ0 ins' vs ∧ MInv E H ρ0 hp (fun l => 1000 ≤ l % STRIDE) w := by
  cases hptr : c.ptr with
  | false =>
    rw [hptr] at hrel
    obtain ⟨hg, hd⟩ := hrel
    refine ⟨ins, [], fun _ => none, rfl, argsRel_datas hd _, ?_⟩
    exact {
     mem := hmem
     objs := fun l => trivial
     sep := fun l l' b h => absurd rfl h
     fresh := fun l b h => absurd rfl h
     bound := fun _ _ => rfl
     keepH := Mem.le_refl H
     newH := fun b o h => .inl h
     frame := fun b _ _ => rfl
     grow := Nat.le_refl _
     os := rfl
     tape := rfl
     output := outOk.refl _
     root := fun l v hv => by simp [E, hg] at hv }
  | true =>
    rw [hptr] at hrel
    obtain ⟨b, cc, ty, rs, ins', vs', e1, e2, e3, h1, h2, h3, h4⟩ := hrel
    subst e2; subst e3; subst e1
    have hlook : ∀ l, look l [(1, SObj.cells (ofRuns rs) false)] = if l = 1 then .cells (ofRuns rs) false else .gone := by
     intro l
     simp only [look]
     by_cases hl : l = 1
     · subst hl; simp
     · have : Nat.beq 1 l = false := by cases hb : Nat.beq 1 l with | false => rfl | true => exact absurd (Nat.eq_of_beq_eq_true hb).symm hl
       simp [this, hl]
    refine ⟨.ref (.cell 1 [] 0) :: ins', [(1, .cells (ofRuns rs) false)], fun k => if k = 1 then some (.pointer (some ⟨b, 0, none⟩)) else none, rfl, ⟨_, _, rfl, ⟨b, by simp, by simp [pathOff], trivial⟩, argsRel_datas h4 _⟩, ?_⟩
    have hbase : ∀ l b', look l [(1, SObj.cells (ofRuns rs) false)] ≠ .gone → baseOf (fun k => if k = 1 then some (Value.pointer (some ⟨b, 0, none⟩)) else none) l = some b' → l = 1 ∧ b' = b := by
     intro l b' hl hb'
     rw [hlook] at hl
     by_cases h : l = 1
     · subst h
       simp [baseOf, blk] at hb'
       exact ⟨rfl, hb'.symm⟩
     · rw [if_neg h] at hl; exact absurd rfl hl
    exact {
     mem := hmem
     objs := fun l => by
      rw [hlook]
      by_cases hl : l = 1
      · rw [if_pos hl]
        exact ⟨b, cc, ty, by simp [hl], h1, scsRel_ofRuns.2 h2, fun _ => h3⟩
      · rw [if_neg hl]; trivial
     sep := fun l l' b' hl hl' hne hb' hb2 => hne ((hbase l b' hl hb').1.trans (hbase l' b' hl' hb2).1.symm)
     fresh := fun l b' hl hb' => .inr (by rw [(hbase l b' hl hb').2]; simp [E])
     bound := fun l hl => by
      have : ¬ l = 1 := by
       have hl : 1000 ≤ l % STRIDE := hl
       rintro rfl
       exact absurd hl (by decide)
      simp [this]
     keepH := Mem.le_refl H
     newH := fun b o h => .inl h
     frame := fun b _ _ => rfl
     grow := Nat.le_refl _
     os := rfl
     tape := rfl
     output := outOk.refl _
     root := fun l v hv => by
      simp only [E, Option.map_some] at hv
      split at hv
      · rename_i hl; rw [if_pos hl]; exact hv
      · cases hv }
 rw [hstart] at hbody
 simp only at hbody
 have hpin : 1 ∈ ann.pins := by
  cases hq : memN 1 ann.pins with
  | true => exact memN_iff.1 hq
  | false => rw [hq] at hbody; exact hbody.elim
 rw [memN_iff.2 hpin] at hbody
 simp only [cond_true] at hbody
 have finish : ∀ (S' : SState) (a' : Act) (w' : World), endVC P fn r S' → St E S' a' w' → a'.defers = [] ∧ ∃ v, (results fn a'.tmps).run P w' = .ok v w' ∧
  ∃ v' H' u, Ending.returned v = .returned v' ∧ H.le H' ∧ SameBut g w w' ∧ memOk H' w' ∧ (∀ b, b < w.heap.size → ∀ o, H' b o = H b o) ∧ rcvRel g H' w' r.rcv ∧ freshRel H' w w' u r.fresh ∧ ∀ ρ a, ρ 0 = u → slRel H' ρ a r.out v' := by
  rintro S' a' w' he ⟨hd, H1, ρ1, I1, hs1⟩
  obtain ⟨v, H2, hp', u, h1, h2, I2, h3, h4, h5⟩ := end_sound I1 hs1 he
  have hgb : ∀ b, g = some b → ρ1 1 = some (.pointer (some ⟨b, 0, none⟩)) := fun b hb => I1.root 1 _ (by simp [E, hb])
  have hrn : r.rcv = none → g = none := by
   intro hn
   rw [hn] at hrcv
   cases hptr : c.ptr with
   | true => rw [hptr] at hrcv; simp at hrcv
   | false => rw [hptr] at hrel; exact hrel.1
  have hsome : ∀ new, r.rcv = some new → ∃ b, g = some b ∧ H b 0 = none := by
   intro new hn
   rw [hn] at hrcv
   cases hptr : c.ptr with
   | false => rw [hptr] at hrcv; simp at hrcv
   | true =>
     rw [hptr] at hrel
     obtain ⟨b, _, _, _, _, _, e1, _, _, _, _, hb0, _⟩ := hrel
     exact ⟨b, e1, hb0 0⟩
  have hg : ∀ b, g ≠ some b → b ∉ E.own0 := by
   intro b hb hm
   cases g with
   | none => simp [E] at hm
   | some b0 => simp [E] at hm; subst hm; exact hb rfl
  refine ⟨hd, v, h1, v, H2, u, rfl, I2.keepH, ⟨fun b hb hne => I2.frame b hb (hg b hne), I2.grow, I2.os, I2.tape, I2.output⟩, I2.mem, fun b hb o => ?_, ?_, ?_, h5⟩
  · cases hH : H b o with
    | some u => exact I2.keepH b o u hH
    | none =>
      cases hH2 : H2 b o with
      | none => rfl
      | some u =>
        exfalso
        rcases I2.newH b o (by rw [hH2]; simp) with h | h | h
        · exact h hH
        · have : w.heap.size ≤ b := h
          omega
        · -- the receiver's block
          cases hrr : r.rcv with
          | none =>
            have := hrn hrr
            subst this
            simp [E] at h
          | some new =>
            obtain ⟨hlk, b', cc, ty, e1, e2, e3, e4⟩ := h3 new hrr
            obtain ⟨b0, hb0, _⟩ := hsome new hrr
            have hb1 := hgb b0 hb0
            rw [e1] at hb1
            simp at hb1
            subst hb1
            subst hb0
            simp [E] at h
            subst h
            rw [e4] at hH2
            cases hH2
  · cases hrr : r.rcv with
    | none => exact hrn hrr
    | some new =>
      obtain ⟨_, b', cc, ty, e1, e2, e3, _⟩ := h3 new hrr
      obtain ⟨b0, hb0, _⟩ := hsome new hrr
      have := hgb b0 hb0
      rw [e1] at this
      simp at this
      subst this
      exact ⟨b', cc, ty, hb0, e2, e3⟩
  · cases hfr : r.fresh with
    | none => rw [hfr] at h4; exact h4
    | some ob =>
      rw [hfr] at h4
      obtain ⟨g1, g2⟩ := h4
      refine ⟨fun b hb => ?_, g2⟩
      obtain ⟨k, hk1, hk2, hk3⟩ := g1 b hb
      rcases I2.fresh k b hk2 hk3 with h | h
      · exact h
      · exfalso
        cases hrr : r.rcv with
        | none =>
          have := hrn hrr
          subst this
          simp [E] at h
        | some new =>
          obtain ⟨hlk, b', cc, ty, e1, e2, e3, _⟩ := h3 new hrr
          obtain ⟨b0, hb0, _⟩ := hsome new hrr
          have hb1 := hgb b0 hb0
          subst hb0
          simp [E] at h
          subst h
          exact I2.sep k 1 b hk2 hlk hk1 hk3 (by simp [baseOf, hb1, blk])
 refine exec_sound (E := E) (hn := hyn) ⟨hΓ, hglob⟩ hY hbody (fun e S' a' w' hk hst => ?_) (fun v hp a' w' h1 _ => absurd h1 (hno v hp)) (.inr fun l v hv => by
  simp only [E] at hv
  split at hv
  · rename_i e; subst e; exact hpin
  · cases hv) ⟨rfl, H, ρ0, I0, ?_, fun t => ?_⟩
 · cases e with
   | normal => exact finish S' a' w' hk hst
   | ret => exact finish S' a' w' hk hst
   | _ => exact hk.elim
 · simp [app_eq, mapL_length, rep_length, lenL_eq, svs_length hsv]
 · have := nth_svs hsv (rep Sl.un (fn.ntmps - lenL ins')) (List.replicate (fn.ntmps - vs.length) undef) (vs.toArray ++ Array.replicate (fn.ntmps - vs.toArray.size) undef) (nth_rep _ _) t
   rw [Array.getD_eq_getD_getElem?]
   have e : (vs.toArray ++ Array.replicate (fn.ntmps - vs.toArray.size) undef)[t]? = (vs ++ List.replicate (fn.ntmps - vs.length) undef)[t]? := by
    rw [← Array.getElem?_toList]; simp
   rw [e]
   exact this

theorem noDy_ok (P : Program) : ∀ f c, noDy.dc f = some c → DSpec P f c := fun f c h => by cases h
theorem spec_of_body {Γ : FuncId → Option PC} (hΓ : ∀ f c, Γ f = some c → Spec P f c) {f : FuncId} {fn : Func} (hf : P.funcs[f]? = some fn) (hb : fn.body.isSome = true)
 (hn : (fn.name == "runtime.NumGoroutine") = false) {c : PC} (hgr : c.gr = none ∧ c.alt = none) (hrc : ∀ ins r, c.ct ins = some r → r.rcv.isSome = c.ptr) (h : ∀ ins r, c.ct ins = some r → vcT r.vc → okSVs ins → ∃ ann, bodyVC P Γ ann fn c.ptr ins r) : Spec P f c :=
 spec_of_bodyK hΓ ⟨rfl, rfl⟩ (noDy_ok P) (fun _ _ h => h.elim id id) hf hb hn hgr hrc h
theorem start_slots {ρ0 : Lab} {ins' : List SV} {vs : List Value} (hsv : svsRel H ρ0 ins' vs) {n : Nat} :
 slotsRel H ρ0 (app (mapL Sl.sv ins') (rep Sl.un (n - lenL ins'))) (vs.toArray ++ Array.replicate (n - vs.toArray.size) undef) := by
 refine ⟨?_, fun t => ?_⟩
 · simp [app_eq, mapL_length, rep_length, lenL_eq, svs_length hsv]
 · have := nth_svs hsv (rep Sl.un (n - lenL ins')) (List.replicate (n - vs.length) undef) (vs.toArray ++ Array.replicate (n - vs.toArray.size) undef) (nth_rep _ _) t
   rw [Array.getD_eq_getD_getElem?]
   have e : (vs.toArray ++ Array.replicate (n - vs.toArray.size) undef)[t]? = (vs ++ List.replicate (n - vs.length) undef)[t]? := by
    rw [← Array.getElem?_toList]; simp
   rw [e]
   exact this
theorem MInv.redef {E : Env} (I : MInv E H ρ hp N w) {pin : Nat → Option Value} {ds : List Deferred} (h : ∀ l v, pin l = some v → ρ l = some v) : MInv { E with pin := pin, defs := ds } H ρ hp N w :=
 ⟨I.mem, I.objs, I.sep, I.fresh, I.bound, I.keepH, I.newH, I.frame, I.grow, I.os, I.tape, I.output, h⟩
end Go.Vse
