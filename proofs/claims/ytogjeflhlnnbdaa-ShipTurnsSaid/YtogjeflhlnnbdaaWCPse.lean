/- Contracts of record: Parse, which recovers. -/
import Derived.Test.YtogjeflhlnnbdaaWCPar
import Derived.Test.YtogjeflhlnnbdaaWVseRec
import Derived.Tactics
import Derived.Tactics2
import Derived.Defers
import Derived.Recover
set_option maxRecDepth 100000
namespace Go.Sal
open Go.Vse Go.Sal.Nm

def c_bytesEq : PC := D [.slc .u8, .slc .u8] [.bool] (fun _ => none) (fun x => (x.1 == x.2.1, ()))

theorem bytes_Equal_vc (a b : Bytes) :
 (a == b) = (a == b) := by
 rfl

def x_lastC : Code → Code
 | .seq _ b => x_lastC b
 | c => c
def x_preC : Code → Code
 | .seq a (.seq b _) => .seq a b
 | c => c
def x_midC : Code → Code
 | .seq _ (.seq _ (.seq r _)) => r
 | c => c
def x_restC : Code → Code
 | .seq _ (.seq _ (.seq _ r)) => r
 | c => c
def x_K3 (r : CRes) : Exit → SState → Prop
 | .normal, S => endVC P b_record_Parse r { tmps := .un :: .un :: .sv (.ref (.cell 1000 [] 0)) :: .sv (.ref (.cell 1001 [] 0)) :: rep .un 30, hp := S.hp, next := 1002, wr := [] }
 | _, _ => False
def x_S3 (a b : List Run) : SState := { tmps := .sv (.ref (.cell 1000 [] 0)) :: .sv (.ref (.cell 1001 [] 0)) :: rep .un 15, hp := [(1000, .cells (ofRuns a) false), (1001, .cells (ofRuns b) false)], next := 1002, wr := [] }
def x_isRef (l : Nat) : Sl → Bool
 | .sv (.ref (.cell k [] 0)) => Nat.beq k l
 | _ => false
def x_pan (r : CRes) (S : SState) : Prop :=
 match Go.Vse.look 1000 S.hp, Go.Vse.look 1001 S.hp with
 | .cells ca false, .cells cb false => match toRuns ca, toRuns cb with
   | some a, some b => bif x_isRef 1000 (S.get 2) && x_isRef 1001 (S.get 3) && Nat.beq (lenL S.tmps) 34 then exec P (gam []) noDy an_none (x_lastC (b_record_Parse_f1.body.getD .skip)) (x_S3 a b) (x_K3 r) else False
   | _, _ => False
 | _, _ => False
def x_Y (r : CRes) : Dy := ⟨del [(f_record_reader_record, c_drec)], fun v S => eqP (eqIf v x_fault) true ∧ x_pan r S, fun _ => False⟩
def c_Par : List (FuncId × PC) := [(f_record_reader_record, c_rrec), (f_record_Bytes, c_Bytes), (f_bytes_Equal, c_bytesEq)]
def x_mid (r : CRes) (S : SState) : Prop := bif x_isRef 1000 (S.get 2) && x_isRef 1001 (S.get 3) && freeOf 12 S.tmps && Nat.beq (lenL S.tmps) 34 then exec P (gam c_Par) (x_Y r) an_none (x_restC (b_record_Parse.body.getD .skip)) { tmps := setN S.tmps 12 .un, hp := S.hp, next := S.next, wr := S.wr } (endK P b_record_Parse r) else False
def x_K1 (r : CRes) : Exit → SState → Prop
 | .normal, S => x_mid r S
 | .ret, S => endVC P b_record_Parse r S
 | _, _ => False
def x_parse (b : Bytes) (r : CRes) : Prop := exec P (gam []) noDy an_none (x_preC (b_record_Parse.body.getD .skip)) { tmps := .sv (.dv (.imm .u8 b)) :: rep .un 33, hp := [], next := 1000, wr := [] } (x_K1 r)
def x_ansP (b : Bytes) : CRes := ⟨none, .tup [svOfT T_Rec (parseV b).1, .dv (.i64 (parseV b).2)], none, none⟩
def c_Parse : PC := D [.slc .u8] [T_Rec, .i64] (fun _ => none) (fun x => ((parseV x.1).1, (parseV x.1).2, ()))

theorem record_Parse_vc (b : Bytes) :
 (decide (262144 < ofN (List.length b)) = true →
  (ofN 0 = (parseV b).1.1 ∧
  ofN 0 = (parseV b).1.2.1 ∧
  List.replicate 32 0#8 = (parseV b).1.2.2.1 ∧
  ofN 0 = (parseV b).1.2.2.2.1 ∧ ofN 0 = (parseV b).1.2.2.2.2.1 ∧ nilOf (BitVec 8) = (parseV b).1.2.2.2.2.2.1 ∧ nilOf (T.den (T.pair (T.arr 32 T.u8) T.i64)) = (parseV b).1.2.2.2.2.2.2) ∧
  2 = (parseV b).2) ∧
  (decide (262144 < ofN (List.length b)) = false →
  (okRec b = false →
  true = true ∧
  (ofN 0 = (parseV b).1.1 ∧
  ofN 0 = (parseV b).1.2.1 ∧
  List.replicate 32 0#8 = (parseV b).1.2.2.1 ∧
  ofN 0 = (parseV b).1.2.2.2.1 ∧
  ofN 0 = (parseV b).1.2.2.2.2.1 ∧ nilOf (BitVec 8) = (parseV b).1.2.2.2.2.2.1 ∧ nilOf (T.den (T.pair (T.arr 32 T.u8) T.i64)) = (parseV b).1.2.2.2.2.2.2) ∧
  130 = (parseV b).2) ∧
  ((okRec b = false → False) →
  okRec b = true ∧
  (((bytesV (recP b)).2 != 0 || !(bytesV (recP b)).1 == b) = true →
  (ofN 0 = (parseV b).1.1 ∧
  ofN 0 = (parseV b).1.2.1 ∧
  List.replicate 32 0#8 = (parseV b).1.2.2.1 ∧
  ofN 0 = (parseV b).1.2.2.2.1 ∧
  ofN 0 = (parseV b).1.2.2.2.2.1 ∧ nilOf (BitVec 8) = (parseV b).1.2.2.2.2.2.1 ∧ nilOf (T.den (T.pair (T.arr 32 T.u8) T.i64)) = (parseV b).1.2.2.2.2.2.2) ∧
  130 = (parseV b).2) ∧
  (((bytesV (recP b)).2 != 0 || !(bytesV (recP b)).1 == b) = false →
  ((recP b).1 = (parseV b).1.1 ∧
  (recP b).2.1 = (parseV b).1.2.1 ∧
  (recP b).2.2.1 = (parseV b).1.2.2.1 ∧
  (recP b).2.2.2.1 = (parseV b).1.2.2.2.1 ∧
  (recP b).2.2.2.2.1 = (parseV b).1.2.2.2.2.1 ∧ (recP b).2.2.2.2.2.1 = (parseV b).1.2.2.2.2.2.1 ∧ (recP b).2.2.2.2.2.2 = (parseV b).1.2.2.2.2.2.2) ∧
  0 = (parseV b).2))) := by
 have bad : ∀ {x y : Rec}, x = y → x.1 = y.1 ∧ x.2.1 = y.2.1 ∧ x.2.2.1 = y.2.2.1 ∧ x.2.2.2.1 = y.2.2.2.1 ∧ x.2.2.2.2.1 = y.2.2.2.2.1 ∧ x.2.2.2.2.2.1 = y.2.2.2.2.2.1 ∧ x.2.2.2.2.2.2 = y.2.2.2.2.2.2 := fun e => by rw [e]; exact ⟨rfl, rfl, rfl, rfl, rfl, rfl, rfl⟩
 have ans : ∀ {r : Rec} {e : Int}, parseV b = (r, e) → (r.1 = (parseV b).1.1 ∧ r.2.1 = (parseV b).1.2.1 ∧ r.2.2.1 = (parseV b).1.2.2.1 ∧ r.2.2.2.1 = (parseV b).1.2.2.2.1 ∧ r.2.2.2.2.1 = (parseV b).1.2.2.2.2.1 ∧ r.2.2.2.2.2.1 = (parseV b).1.2.2.2.2.2.1 ∧ r.2.2.2.2.2.2 = (parseV b).1.2.2.2.2.2.2) ∧ e = (parseV b).2 := fun h => by
  rw [h]; exact ⟨⟨rfl, rfl, rfl, rfl, rfl, rfl, rfl⟩, rfl⟩
 refine ⟨fun g => ?_, fun g => ⟨fun c => ⟨rfl, ?_⟩, fun c => ⟨nf c, fun q => ?_, fun q => ?_⟩⟩⟩
 · have g := of_decide_eq_true g
   exact ans (r := rec0) (e := 2) (by unfold parseV; rw [if_neg (by unfold ofN at g; omega)])
 · have g := of_decide_eq_false g
   exact ans (r := rec0) (e := 130) (by unfold parseV; rw [if_pos (by unfold ofN at g; omega), if_neg (fun h => nb h.1 c)])
 · have g := of_decide_eq_false g
   refine ans (r := rec0) (e := 130) ?_
   unfold parseV
   rw [if_pos (by unfold ofN at g; omega), if_neg (fun h => ?_)]
   have e1 := congrArg Prod.fst h.2
   have e2 := congrArg Prod.snd h.2
   dsimp only at e1 e2
   rw [e1, e2] at q
   simp at q
 · have g := of_decide_eq_false g
   refine ans (r := recP b) (e := 0) ?_
   simp only [Bool.or_eq_false_iff, bne_eq_false_iff_eq, Bool.not_eq_false', beq_iff_eq] at q
   have hq : bytesV (recP b) = (b, 0) := Prod.ext q.2 q.1
   unfold parseV
   rw [if_pos (by unfold ofN at g; omega), if_pos ⟨nf c, hq⟩]

theorem parse_idle (p q : Value) (w : World) : CallsD P f_record_Parse_f1 #[p, q] .returning w fun e u' w' => e = .returned (.tuple #[]) ∧ u' = .returning ∧ w' = w := by
 refine callsD_of_wpS h_record_Parse_f1 rfl fun c₀ cs hu => ?_
 apply wpS_seq
 apply wpS_region
 simp [wpOpsS, go_sem, recoverD, hu, Exit.thenS]
 apply wpS_seq
 apply wpS_seq
 apply wpS_region
 simp [wpOpsS, go_sem, Exit.thenS]
 refine wpS_cond (t := true) (by simp [Act.eval, Array.replicate]) ?_
 simp only [if_true]
 refine wpS_of_wp (wp_ret ?_)
 cases c₀
 simp_all [bodyPostS, results, Exit.thenS]

theorem x_assert (t : TypeId) (w : World) : (Instr.typeAssert x_fault t t_record_fault true).run P w = .ok (.tuple #[.agg #[], .bool true]) w := by
 kernel_rfl

set_option maxHeartbeats 2000000 in
theorem parse_pan (p q : Value) (w : World) (R : World → Prop)
 (h5 : ∀ (a : Act) (Q : Exit → Act → World → Prop), a.defers = [] → a.tmps.size = 17 → a.tmps.getD 0 undef = p → a.tmps.getD 1 undef = q → (∀ a' w', a'.defers = [] → R w' → Q .normal a' w') → (x_lastC (b_record_Parse_f1.body.getD .skip)).wp P Q a (w.alloc (.cells #[] t_record_fault))) :
 CallsD P f_record_Parse_f1 #[p, q] (.panicking [{ v := x_fault, recovered := false }]) w fun e u' w' =>
 e = .returned (.tuple #[]) ∧ u' = .panicking [{ v := x_fault, recovered := true }] ∧ R w' := by
 refine callsD_of_wpS h_record_Parse_f1 rfl fun c₀ cs hu => ?_
 apply wpS_seq
 apply wpS_region
 simp [wpOpsS, go_sem, recoverD, hu, Exit.thenS]
 apply wpS_seq
 apply wpS_seq
 apply wpS_region
 simp [wpOpsS, go_sem, Exit.thenS]
 refine wpS_cond (t := false) (by simp [Act.eval, Array.replicate]) ?_
 simp only [Bool.false_eq_true, if_false]
 refine wpS_of_wp (wp_skip ?_)
 simp only [Exit.thenS]
 apply wpS_seq
 apply wpS_seq
 apply wpS_region
 simp [wpOpsS, go_sem, x_assert, Exit.thenS]
 apply wpS_seq
 apply wpS_region
 simp [wpOpsS, go_sem, Exit.thenS]
 refine wpS_cond (t := false) (by simp [Act.eval, Act.put, Array.replicate]) ?_
 simp only [Bool.false_eq_true, if_false]
 refine wpS_of_wp (wp_skip ?_)
 simp only [Exit.thenS]
 refine wpS_of_wp (h5 _ _ rfl (by simp [Act.put]) (by simp [Act.put]) (by simp [Act.put]) fun a' w' hd hR => ?_)
 exact ⟨hd, _, rfl, .tuple #[], by simp [results], rfl, rfl, hR⟩

theorem isRef_eq {l : Nat} {s : Sl} (h : x_isRef l s = true) : s = .sv (.ref (.cell l [] 0)) := by
 unfold x_isRef at h
 split at h
 · rw [Nat.eq_of_beq_eq_true h]
 · cases h

theorem bytes_Equal_spec : Vse.Spec P f_bytes_Equal c_bytesEq :=
 spec_fn (l := []) trivial h_bytes_Equal rfl rfl fun x _ _ => body_ok an_none (bytes_Equal_vc x.1 x.2.1) (by kernel_rfl)

theorem par_specs : Specs P c_Par := ⟨record_rrec_spec, record_Bytes_spec, bytes_Equal_spec, trivial⟩

def x_def (bA bB : Nat) : Deferred := { target := .fn (.func f_record_Parse_f1) #[.pointer (some ⟨bA, 0, none⟩), .pointer (some ⟨bB, 0, none⟩)], args := #[] }
def x_pin (bA bB : Nat) : Nat → Option Value := fun l => if l = 1000 then some (.pointer (some ⟨bA, 0, none⟩)) else if l = 1001 then some (.pointer (some ⟨bB, 0, none⟩)) else none
theorem pin_ok {ρ : Lab} {bA bB : Nat} (rA : ρ 1000 = some (.pointer (some ⟨bA, 0, none⟩))) (rB : ρ 1001 = some (.pointer (some ⟨bB, 0, none⟩))) : ∀ l v, x_pin bA bB l = some v → ρ l = some v := fun l v hv => by
 unfold x_pin at hv
 by_cases h1 : l = 1000
 · rw [if_pos h1] at hv; rw [h1, rA]; exact hv
 · rw [if_neg h1] at hv
   by_cases h2 : l = 1001
   · rw [if_pos h2] at hv; rw [h2, rB]; exact hv
   · rw [if_neg h2] at hv; cases hv
theorem pin_two {bA bB k : Nat} {v : Value} (hv : x_pin bA bB k = some v) : k = 1000 ∨ k = 1001 := by
 unfold x_pin at hv
 by_cases h1 : k = 1000
 · exact .inl h1
 · rw [if_neg h1] at hv
   by_cases h2 : k = 1001
   · exact .inr h2
   · rw [if_neg h2] at hv; cases hv
theorem x_invoke (bA bB : Nat) (w : World) : (invoke (.fn (.func f_record_Parse_f1) #[.pointer (some ⟨bA, 0, none⟩), .pointer (some ⟨bB, 0, none⟩)]) #[]).run P w = .ok (.enter f_record_Parse_f1 #[.pointer (some ⟨bA, 0, none⟩), .pointer (some ⟨bB, 0, none⟩)]) w := by
 simp only [invoke, callFunc, Sem.run_bind, run_program, Result.andThen_ok, h_record_Parse_f1]
 rfl

theorem reg3_wp {a : Act} {w : World} {Q : Exit → Act → World → Prop} (hsz : a.tmps.size = 34)
 (h : Q .normal { tmps := a.tmps.setIfInBounds 12 (.func (.func f_record_Parse_f1) #[] #[a.tmps.getD 2 undef, a.tmps.getD 3 undef]), defers := ⟨.fn (.func f_record_Parse_f1) #[a.tmps.getD 2 undef, a.tmps.getD 3 undef], #[]⟩ :: a.defers } w) :
 (x_midC (b_record_Parse.body.getD .skip)).wp P Q a w := by
 have hmf : ∀ (fn : Fn) (first cap : Array Value) (w : World), (Instr.makeFunc fn first cap).run P w = .ok (.func fn first cap) w := fun _ _ _ _ => rfl
 refine wp_region ?_
 simp [wpOps, go_sem, hmf, hsz]
 exact .inl (.inl (by simpa [hsz] using h))

set_option maxHeartbeats 2000000 in
theorem parse_glue (hvc : ∀ b, x_parse b (x_ansP b)) : Vse.Spec P f_record_Parse c_Parse := by
 refine ⟨⟨b_record_Parse, _, h_record_Parse, rfl, rfl⟩, fun H w ins vs g r hct _ hrel hmem => ?_, fun _ _ h => by rcases h with h | h <;> cases h⟩
 simp only [c_Parse, D, cFn] at hct
 split at hct
 case h_2 => cases hct
 rename_i x hx
 simp only [Option.some.injEq] at hct
 subst hct
 have e := decs_eq hx
 subst e
 obtain ⟨b, u⟩ := x
 show Answers P f_record_Parse H w vs g (x_ansP b)
 obtain ⟨rfl, hd⟩ : g = none ∧ datsRel H (svsOf [.slc .u8] (b, u)) vs := hrel
 unfold Answers
 refine calls_of_wp_defers h_record_Parse rfl ?_
 obtain ⟨ins', hp, ρ0, hstart, hsv, I0⟩ := start_ok (ptr := false) (g := none) (ds := []) ⟨rfl, hd⟩ hmem
 simp only [startOf, Option.some.injEq, Prod.mk.injEq] at hstart
 obtain ⟨rfl, rfl⟩ := hstart
 refine wp_pre (gam_ok (l := []) trivial) (noDy_ok P) (hvc b) (fun S' a' w' hk hs' => ?_) (fun e S' a' w' hne hk hs' => ?_) (fun v S' a' w' h1 _ => (h1.elim id id).elim) rfl ⟨rfl, H, ρ0, I0, start_slots (n := b_record_Parse.ntmps) hsv⟩
 · have hk : x_mid (x_ansP b) S' := hk
   unfold x_mid at hk
   cases hb : (x_isRef 1000 (S'.get 2) && x_isRef 1001 (S'.get 3) && freeOf 12 S'.tmps && Nat.beq (lenL S'.tmps) 34) with
   | false => rw [hb] at hk; exact hk.elim
   | true =>
     rw [hb] at hk
     simp only [cond_true] at hk
     simp only [Bool.and_eq_true] at hb
     obtain ⟨⟨⟨h2, h3⟩, hfree⟩, hlen⟩ := hb
     have hlen := Nat.eq_of_beq_eq_true hlen
     obtain ⟨hdef, H1, ρ1, I1, hs1⟩ := hs'
     have hdef : a'.defers = [] := hdef
     obtain ⟨bA, rA, tA⟩ := slot_ref hs1 (isRef_eq h2)
     obtain ⟨bB, rB, tB⟩ := slot_ref hs1 (isRef_eq h3)
     have hsz : a'.tmps.size = 34 := by rw [← hs1.1, ← lenL_eq, hlen]
     refine wp_seq (reg3_wp hsz ?_)
     show (x_restC (b_record_Parse.body.getD .skip)).wp P _ _ _
     have hds : (({ target := .fn (.func f_record_Parse_f1) #[a'.tmps.getD 2 undef, a'.tmps.getD 3 undef], args := #[] } : Deferred) :: a'.defers) = [x_def bA bB] := by rw [tA, tB, hdef]; rfl
     have I2 := I1.redef (pin := x_pin bA bB) (ds := [x_def bA bB]) (pin_ok rA rB)
     have hs2 := slots_put (S := S') (a := a') hs1 (dst := some 12) (out := .un) (v := .func (.func f_record_Parse_f1) #[] #[a'.tmps.getD 2 undef, a'.tmps.getD 3 undef]) trivial hfree rfl
     refine exec_sound (gam_ok (l := c_Par) par_specs) (Y := x_Y (x_ansP b)) (del_ok (l := [(f_record_reader_record, c_drec)]) ⟨record_rrec_dspec, trivial⟩) hk (fun e S2 a2 w2 hk2 hst2 => ?_) (fun v S2 a2 w2 hv hd2 => ?_) (.inl rfl) ⟨hds, H1, ρ1, I2, hs2⟩
     · have hend : (e = .normal ∨ e = .ret) ∧ endVC P b_record_Parse (x_ansP b) S2 := by
         cases e with
         | normal => exact ⟨.inl rfl, hk2⟩
         | ret => exact ⟨.inr rfl, hk2⟩
         | _ => exact hk2.elim
       obtain ⟨hd2, H2, ρ2, I2', hs2'⟩ := hst2
       have hd2 : a2.defers = [x_def bA bB] := hd2
       obtain ⟨v, hv, rest⟩ := fin_ok I2' hs2' rfl hend.2 rfl rfl
       have hl : Leaves P b_record_Parse a2.tmps (fun e w' => ∃ v H' u, e = .returned v ∧ H.le H' ∧ SameBut none w w' ∧ memOk H' w' ∧ (∀ b, b < w.heap.size → ∀ o, H' b o = H b o) ∧ rcvRel none H' w' (x_ansP b).rcv ∧ freshRel H' w w' u (x_ansP b).fresh ∧ ∀ ρ a, ρ 0 = u → slRel H' ρ a (x_ansP b).out v) a2.defers .returning w2 := by
        rw [hd2]
        refine leaves_cons (f := f_record_Parse_f1) (args := #[.pointer (some ⟨bA, 0, none⟩), .pointer (some ⟨bB, 0, none⟩)]) (by simp) (x_invoke bA bB w2) ((parse_idle _ _ w2).mono ?_)
        rintro e u' w'' ⟨rfl, rfl, rfl⟩
        exact ⟨v, hv, rest⟩
       rcases hend.1 with rfl | rfl
       · exact hl
       · exact hl
     · obtain ⟨hveq, hpan⟩ := hv.resolve_right id
       have hveq := eqIf_eq hveq
       subst hveq
       obtain ⟨hdef2, H2, ρ2, N2, I2', hs2'⟩ := hd2
       have hdef2 : a2.defers = [x_def bA bB] := hdef2
       unfold x_pan at hpan
       split at hpan
       case h_2 => exact hpan.elim
       rename_i ca cb hA hB
       split at hpan
       case h_2 => exact hpan.elim
       rename_i ra rb hra hrb
       cases hb2 : (x_isRef 1000 (S2.get 2) && x_isRef 1001 (S2.get 3) && Nat.beq (lenL S2.tmps) 34) with
       | false => rw [hb2] at hpan; exact hpan.elim
       | true =>
         rw [hb2] at hpan
         simp only [cond_true] at hpan
         simp only [Bool.and_eq_true] at hb2
         obtain ⟨⟨k2, k3⟩, klen⟩ := hb2
         have klen := Nat.eq_of_beq_eq_true klen
         have pA : ρ2 1000 = some (.pointer (some ⟨bA, 0, none⟩)) := I2'.root 1000 _ rfl
         have pB : ρ2 1001 = some (.pointer (some ⟨bB, 0, none⟩)) := I2'.root 1001 _ rfl
         obtain ⟨qA, r2A, t2A⟩ := slot_ref hs2' (isRef_eq k2)
         obtain ⟨qB, r2B, t2B⟩ := slot_ref hs2' (isRef_eq k3)
         rw [r2A] at pA
         rw [r2B] at pB
         have t2A : a2.tmps.getD 2 undef = .pointer (some ⟨bA, 0, none⟩) := by rw [t2A]; exact Option.some.inj pA
         have t2B : a2.tmps.getD 3 undef = .pointer (some ⟨bB, 0, none⟩) := by rw [t2B]; exact Option.some.inj pB
         rw [pA] at r2A
         rw [pB] at r2B
         have hsz2 : a2.tmps.size = 34 := by rw [← hs2'.1, ← lenL_eq, klen]
         have I3 := (I2'.redef (pin := x_pin bA bB) (ds := []) (pin_ok r2A r2B)).two hA hB hra hrb (by decide) (fun k v hv => pin_two hv)
         have I4 := (I3.grown (Same.alloc w2 (.cells #[] t_record_fault)) (Mem.le_refl _) (fun b o v h => (Same.alloc w2 _).cell (I3.mem b o v h)) (fun _ _ _ => rfl)).later (N' := fun l => 1002 ≤ l % STRIDE) (fun l hl => ⟨fun e => by subst e; exact absurd hl (by decide), fun e => by subst e; exact absurd hl (by decide)⟩)
         show Leaves P b_record_Parse a2.tmps _ a2.defers (.panicking [{ v := x_fault, recovered := false }]) w2
         rw [hdef2]
         refine leaves_cons (f := f_record_Parse_f1) (args := #[.pointer (some ⟨bA, 0, none⟩), .pointer (some ⟨bB, 0, none⟩)]) (by simp) (x_invoke bA bB w2) ((parse_pan _ _ w2 (fun w3 => ∃ v, (results b_record_Parse a2.tmps).run P w3 = .ok v w3 ∧ ∃ v' H' u, Ending.returned v = .returned v' ∧ H.le H' ∧ SameBut none w w3 ∧ memOk H' w3 ∧ (∀ b, b < w.heap.size → ∀ o, H' b o = H b o) ∧ rcvRel none H' w3 (x_ansP b).rcv ∧ freshRel H' w w3 u (x_ansP b).fresh ∧ ∀ ρ a, ρ 0 = u → slRel H' ρ a (x_ansP b).out v') (fun a5 Q5 hd5 hsz5 h50 h51 hQ => ?_)).mono ?_)
         · refine exec_sound (gam_ok (l := []) trivial) (noDy_ok P) hpan (fun e S5 a6 w6 hk5 hst5 => ?_) (fun v S a w h1 _ => (h1.elim id id).elim) (.inl rfl) ⟨hd5, H2, _, I4, slots_refs 0 15 hsz5 (by simp [r2A]) (by simp [r2B]) h50 h51⟩
           cases e with
           | normal =>
             obtain ⟨hd6, H6, ρ6, I6, _⟩ := hst5
             refine hQ a6 w6 hd6 ?_
             exact fin_ok (S := { tmps := .un :: .un :: .sv (.ref (.cell 1000 [] 0)) :: .sv (.ref (.cell 1001 [] 0)) :: rep .un 30, hp := S5.hp, next := 1002, wr := [] }) (a := a2) I6 (slots_refs 2 30 hsz2 (I6.root 1000 _ rfl) (I6.root 1001 _ rfl) t2A t2B) rfl hk5 rfl rfl
           | _ => exact hk5.elim
         · rintro e u' w'' ⟨rfl, rfl, v, hv, hR⟩
           exact ⟨v, hv, hR⟩
 · cases e with
   | normal => exact absurd rfl hne
   | ret =>
     obtain ⟨hdef, H1, ρ1, I1, hs1⟩ := hs'
     have hdef : a'.defers = [] := hdef
     obtain ⟨v, hv, rest⟩ := fin_ok I1 hs1 rfl hk rfl rfl
     show Leaves P b_record_Parse a'.tmps _ a'.defers .returning w'
     rw [hdef]
     exact ⟨v, hv, rest⟩
   | _ => exact hk.elim

theorem of_cond {A B : Prop} (h : A) (e : A = B) : B := e ▸ h
theorem record_Parse_spec : Vse.Spec P f_record_Parse c_Parse := parse_glue fun b => of_cond (record_Parse_vc b) (by kernel_rfl)

end Go.Sal
