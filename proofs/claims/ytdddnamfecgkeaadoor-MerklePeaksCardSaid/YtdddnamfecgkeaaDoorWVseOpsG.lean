/- Lengths, arrays out of slices, literals, append, copy, make. -/
import Derived.Test.YtdddnamfecgkeaaDoorWVseOpsF
import Derived.Laws.IdiomCopy
import Derived.Laws.BytesArg
import Derived.Laws.Append
import Derived.MapKept
namespace Go.Vse
variable {P : Program} {E : Env} {H : Mem} {ρ : Lab} {hp : List (Nat × SObj)} {lab : Nat} {N : Nat → Prop} {w : World} {a : Array Value}

theorem lim_in {n : Nat} (h : n ≤ LIM) : inI64 (n : Int) := by unfold LIM at h; unfold inI64; omega

theorem ent_len {H : Mem} {ka : Bool} {kt : T} {va : Bool} {vt : T} : ∀ {es : List (kt.den × vt.den)} {en : List MapEntry}, entRel H ka kt va vt es en → en.length = es.length
 | [], [], _ => rfl
 | _ :: _, _ :: _, ⟨_, _, g⟩ => by simp [ent_len g]
 | [], _ :: _, h => h.elim
 | _ :: _, [], h => h.elim
theorem ents_len {H : Mem} {ka : Bool} {kt : T} {va : Bool} {vt : T} {es : List (kt.den × vt.den)} {en : List MapEntry} (h : entsRel H ka kt va vt es en) : en.length = es.length := by
 obtain ⟨_, fs, hp, h⟩ := h
 rw [ent_len h, hp.length_eq]
theorem lenO_sound (I : MInv E H ρ hp N w) {t : TypeId} {x : SV} {r : Res} (h : lenO P hp t x = some r) (hvc : vcT r.vc) {vx : Value} (hx : svRel H ρ x vx) (ts : Array TypeId) (hts : ts = #[t]) (ty : TypeId) :
 r.upd = [] ∧ ∃ v, (Builtin.len_ ts ty #[vx]).run P w = .ok v w ∧ slRel H ρ a r.out v := by
 subst hts
 unfold lenO at h
 split at h
 · rename_i n e hu
   cases hb : Nat.ble n 4194304 with
   | false => rw [hb] at h; simp at h
   | true =>
     rw [hb] at h; simp [dval] at h; subst h
     have := Nat.le_of_ble_eq_true hb
     exact ⟨rfl, .int .i64 (n : Int), by cases vx <;> simp [Builtin.len_, run_underlying hu, goInt], rfl, by unfold inI64; omega⟩
 · rename_i hu
   split at h
   · rename_i l
     simp [dval] at h; subst h
     obtain ⟨rfl, hL⟩ := hx
     exact ⟨rfl, .int .i64 (l.length : Int), by simp [Builtin.len_, run_underlying hu, goInt, toBA_size], rfl, lim_in hL⟩
   · simp at h
 · rename_i e hu
   split at h
   · rename_i l p o c st len n lit
     simp [dval] at h; subst h
     obtain ⟨b, cap, hρ, rfl, _, _, _, hL⟩ := hx
     exact ⟨rfl, .int .i64 (len : Int), by simp [Builtin.len_, run_underlying hu, goInt], rfl, lim_in hL⟩
   · rename_i l p o c st len n
     simp [dval] at h; subst h
     obtain ⟨b, m, c0, cap, hρ, rfl, _, _, _, hL⟩ := hx
     exact ⟨rfl, .int .i64 (len : Int), by simp [Builtin.len_, run_underlying hu, goInt], rfl, lim_in hL⟩
   · rename_i l n
     simp [dval] at h; subst h
     obtain ⟨b, hρ, rfl, hL⟩ := hx
     exact ⟨rfl, .int .i64 (n : Int), by simp [Builtin.len_, run_underlying hu, goInt], rfl, lim_in hL⟩
   · rename_i l
     split at h
     · rename_i e' s t xs ro hl
       simp [dval] at h; subst h
       obtain ⟨hρ, _⟩ := hx
       obtain ⟨v, h1, h2, h3⟩ := I.row hl
       rw [hρ] at h1
       simp only [Option.some.injEq] at h1
       subst h1
       rcases h3 with ⟨rfl, rfl⟩ | ⟨g, cap, cur, f, rfl, _, _, h4, h5, _⟩
       · exact ⟨rfl, .int .i64 0, by simp [Builtin.len_, run_underlying hu, goInt], rfl, by simp [inI64]⟩
       · exact ⟨rfl, .int .i64 (xs.length : Int), by simp [Builtin.len_, run_underlying hu, goInt], rfl, by simp only [maxLen] at h5; unfold inI64; omega⟩
     · simp at h
   · split at h
     · rename_i d hs
       simp only [dval, Option.some.injEq] at h; subst h
       have hst : d.still = none := by
        cases x with
        | dv y => cases y <;> simp only [asSlice, Option.some.injEq, reduceCtorEq] at hs <;> subst hs <;> rfl
        | own k t xs => simp only [asSlice, Option.some.injEq] at hs; subst hs; rfl
        | full t xs => simp only [asSlice, Option.some.injEq] at hs; subst hs; rfl
        | ref r =>
          cases r with
          | win l p off t start len n lit => rename_i hne _ _ _; exact (hne _ _ _ _ _ _ _ _ rfl).elim
          | row l => rename_i hne; exact (hne _ rfl).elim
          | _ => simp [asSlice] at hs
        | _ => simp [asSlice] at hs
       have hsl := imm_of hs hst hx
       rcases hsl.2 with ⟨h0, rfl | ⟨a0, rfl⟩⟩ | ⟨b, o, cap, cs, rfl, _⟩
       · exact ⟨rfl, .int .i64 0, by simp [Builtin.len_, run_underlying hu, goInt], by rw [h0]; rfl, lim_in hsl.1⟩
       · exact ⟨rfl, .int .i64 0, by simp [Builtin.len_, run_underlying hu, goInt], by rw [h0]; rfl, lim_in hsl.1⟩
       · exact ⟨rfl, .int .i64 (d.xs.length : Int), by simp [Builtin.len_, run_underlying hu, goInt], rfl, lim_in hsl.1⟩
     · simp at h
 · rename_i kt vt hu
   split at h
   · rename_i l
     split at h
     · rename_i ka kt' va vt' es hl
       simp only [Option.some.injEq] at h; subst h
       obtain ⟨b, hρ, rfl⟩ := hx
       have hobj := I.objs l
       rw [hl] at hobj
       obtain ⟨b', en, clock, hρ', hblk, hent, _⟩ := hobj
       rw [hρ] at hρ'; simp at hρ'; subst hρ'
       have hlen : en.size = es.length := by rw [← Array.length_toList]; exact ents_len hent
       exact ⟨rfl, .int .i64 (es.length : Int), by simp [Builtin.len_, run_underlying hu, MapKept.run_getObj_map hblk, goInt, hlen], rfl, hvc⟩
     · simp at h
   · simp at h
 · simp at h

theorem arrAtO_ok (I : MInv E H ρ hp N w) {t : TypeId} {x : SV} {r : Res} (h : arrAtO P hp t x = some r) (hvc : vcT r.vc) {vx : Value} (hx : svRel H ρ x vx) :
 OpOk P E H ρ hp N lab w a (do pure (.value (← Instr.arrayAt t vx))) r := by
 unfold arrAtO at h
 split at h
 · rename_i n e c xs st vc hu hs
   cases hc : (Nat.beq c.size (sizeT P e) && Nat.ble 1 n) with
   | false => rw [hc] at h; simp at h
   | true =>
     rw [hc] at h; simp only [cond_true, Option.some.injEq] at h; subst h
     simp only [Bool.and_eq_true] at hc
     have h1n := Nat.le_of_ble_eq_true hc.2
     obtain ⟨hv1, hv2⟩ := vcT_and hvc
     have hle : n ≤ xs.length := hv2
     obtain ⟨H', hH, I', _, hrel⟩ := still_sound I hs hv1 hx
     rcases hrel.2 with ⟨h0, _⟩ | ⟨b, o, cap, cs, rfl, _, hrow, hci⟩
     · simp only at h0; rw [h0] at hle; simp at hle; omega
     · have hs' := eltRel_length (H := H') c
       have htk := (rowRel_take hs' hrow n).1
       refine ⟨.pointer (some ⟨b, o, none⟩), w, H', ρ, .inl ?_, hH, Lab.le_refl ρ, I'.later but_le, b, o, cs.take (n * c.size), rfl, ⟨_, [], (List.append_nil _).symm, ⟨by simp; omega, htk⟩, rfl⟩, ?_⟩
       · have hnl : ¬ xs.length < n := by omega
         simp [Instr.arrayAt, run_underlying hu, hnl]
       · have := hci
         rw [← List.take_append_drop (n * c.size) cs] at this
         exact cellsIn_take this
 · simp at h

theorem convStr_run {v : Value} {xs : List (BitVec 8)} (h : sliceNow w H .u8 xs v) : (Conv.bytesToString v).run P w = .ok (.string (toBA xs)) w := by
 rcases h.2 with ⟨rfl, rfl | ⟨a0, rfl⟩⟩ | ⟨b, o, cap, cs, rfl, hlc, hrow, hci⟩
 · rfl
 · have hl : (loadCells a0 0).run P w = .ok ((([] : List (BitVec 8)).map fun x => (BitVec.toNat x : Int)).map (Value.int .u8)).toArray w :=
     run_loadCells_list (P := P) w a0 [] (fun j u hj => by simp at hj)
   rw [run_bytesToString w _ _ 0 _ hl, foldl_push_bytes]
   rfl
 · have hcs : cs = xs.map fun x => Value.int .u8 (BitVec.toNat x : Int) := rowRel_one (fun _ _ h => h) hrow
   have hl : (loadCells ⟨b, o, none⟩ xs.length).run P w = .ok ((xs.map fun x => (BitVec.toNat x : Int)).map (Value.int .u8)).toArray w := by
    have := run_loadCells_list (P := P) w ⟨b, o, none⟩ cs (fun j u hj => by rw [add_at]; exact hci j u hj)
    rw [hcs] at this
    rw [List.map_map]
    simpa [Function.comp_def] using this
   rw [run_bytesToString w _ _ cap _ hl, foldl_push_bytes]
   congr 2
   apply WideShapes.bytes_inj
   simp [toBA]

structure Src (P : Program) (w : World) (u e : TypeId) (x : Value) (size n : Nat) (news : List Value) : Prop where
 how : (((∃ e, P.underlying u = some (.slice e)) ∨ P.underlying u = some .string) ∧ (Builtin.lenOf x).run P w = .ok n w ∧ ∀ w', Same w w' → (Builtin.firstCells size n x).run P w' = .ok news.toArray w') ∨
  ((∃ k, P.underlying u = some (.int k)) ∧ (∃ k m, x = .int k m ∧ IntKind.i64.wrap m = (n : Int)) ∧ (∀ i, P.info? e = some i → n * i.bytes ≤ 281474976710656) ∧ ∀ i z, P.info? e = some i → i.zero = some z → news = (Builtin.zeroCells z.cells n).toList)
 size : news.length = n * size

theorem append_nil0 {t u ty e : TypeId} {i : TypeInfo} {x : Value} {news : List Value} (ht : P.underlying t = some (.slice e)) (hi : P.info? e = some i) (s : Src P w u e x i.size 0 news) :
 (Builtin.append_ #[t, u] ty #[.slice none 0 0, x]).run P w = .ok (.slice none 0 0) w := by
 obtain ⟨⟨hty, hlen, hcells⟩ | ⟨⟨k, hk⟩, ⟨k', m, rfl, hm⟩, hb, _⟩, hsz⟩ := s
 · have := hcells w (Same.refl w)
   rcases hty with ⟨e', hd⟩ | hd <;> simp [Builtin.append_, run_underlying ht, run_underlying hd, sizeOf, typeInfo, hi, hlen, this]
 · simp [Builtin.append_, run_underlying ht, run_underlying hk, sizeOf, typeInfo, hi, asInt, asIntOf, hm]

theorem append_fit {t u ty e : TypeId} {i : TypeInfo} {x : Value} {n sLen sCap g : Nat} {news : List Value} {cur : Array Value} {f : Nat × Nat} (ht : P.underlying t = some (.slice e)) (hi : P.info? e = some i) (s : Src P w u e x i.size n news)
 (hg : w.heap[g]? = some (.cells cur e f)) (hfar : farF f cur.size) (hroom : sLen + n ≤ sCap) (hfit : sLen * i.size + news.length ≤ cur.size) (h1 : ∀ u ∈ news, u.oneCell' = true) (hzero : ∃ z, i.zero = some z) :
 (Builtin.append_ #[t, u] ty #[.slice (some ⟨g, 0, none⟩) sLen sCap, x]).run P w =
  .ok (.slice (some ⟨g, 0, none⟩) (sLen + n) sCap) (w.setRow g (cur.toList.take (sLen * i.size) ++ news ++ cur.toList.drop (sLen * i.size + news.length)).toArray) := by
 have hst := run_store_far (P := P) g (sLen * i.size) e f news 0 cur w hg hfar (by simpa using hfit) h1
 simp only [Nat.add_zero] at hst
 obtain ⟨⟨hty, hlen, hcells⟩ | ⟨⟨k, hk⟩, ⟨k', m, rfl, hm⟩, hb, hnew⟩, hsz⟩ := s
 · have hc := hcells w (Same.refl w)
   rcases hty with ⟨e', hd⟩ | hd <;> simp [Builtin.append_, run_underlying ht, run_underlying hd, sizeOf, typeInfo, hi, hlen, hc, hroom, Addr.add_lit, hst]
 · obtain ⟨z, hz⟩ := hzero
   have hnew := hnew i z hi hz
   have hb' : ¬ (281474976710656 : Int) < (n : Int) * (i.bytes : Int) := by have := hb i hi; rw [← Int.natCast_mul]; omega
   have hneg : ¬ ((n : Nat) : Int) < 0 := by omega
   by_cases h0 : n * i.size = 0
   · have hn0 : news = [] := List.eq_nil_of_length_eq_zero (by rw [hsz, h0])
     subst hn0
     simp [Builtin.append_, run_underlying ht, run_underlying hk, sizeOf, typeInfo, hi, asInt, asIntOf, hm, hb', hneg, h0, hroom, Addr.add_lit, hst]
     try simpa using hst
   · rw [hnew] at hst ⊢
     simp [Builtin.append_, run_underlying ht, run_underlying hk, sizeOf, typeInfo, zeroValue, hi, hz, asInt, asIntOf, hm, hb', hneg, h0, hroom, Addr.add_lit, hst]

theorem append_grow {t u ty e : TypeId} {i : TypeInfo} {z : Value} {x : Value} {n sLen sCap : Nat} {base : Option Addr} {olds news : List Value} (ht : P.underlying t = some (.slice e)) (hi : P.info? e = some i) (hz : i.zero = some z)
 (s : Src P w u e x i.size n news) (holds : ∀ w', Same w w' → (Builtin.firstCells i.size sLen (.slice base sLen sCap)).run P w' = .ok olds.toArray w')
 (hg : sCap < sLen + n) (h63 : ((sLen + n : Nat) : Int) ≤ 9223372036854775807) (hfit : Builtin.nextslicecap (sLen + n) sCap * i.bytes ≤ 281474976710656) :
 (Builtin.append_ #[t, u] ty #[.slice base sLen sCap, x]).run P w =
  .ok (.slice (some ⟨w.heap.size, 0, none⟩) (sLen + n) (grownCap w (sLen + n) sCap e))
   (w.drew.alloc (.cells (olds.toArray ++ news.toArray ++ Builtin.zeroCells z.cells (grownCap w (sLen + n) sCap e - (sLen + n))) e)) := by
 obtain ⟨how, hsz⟩ := s
 have hn : ¬ (sLen + n ≤ sCap) := by omega
 have h63' : ¬ (9223372036854775807 < ((sLen : Int) + (n : Int))) := by omega
 have h48' : ¬ (281474976710656 < Builtin.nextslicecap (sLen + n) sCap * i.bytes) := by omega
 have ho := holds w.drew (Same.drew w)
 rcases how with ⟨hty, hlen, hcells⟩ | ⟨⟨k, hk⟩, ⟨k', m, rfl, hm⟩, hb, hnew⟩
 · have hf := hcells w.drew (Same.drew w)
   rcases hty with ⟨e', hd⟩ | hd <;> simp [Builtin.append_, run_underlying ht, run_underlying hd, sizeOf, typeInfo, zeroValue, hi, hz, hlen, hn, h63', h48', Question.forced, newRow, grownCap, hf, ho]
   all_goals (congr 2; apply Array.ext'; simp)
 · have hnew := hnew i z hi hz
   have hb' : ¬ (281474976710656 : Int) < (n : Int) * (i.bytes : Int) := by have := hb i hi; rw [← Int.natCast_mul]; omega
   have hneg : ¬ ((n : Nat) : Int) < 0 := by omega
   by_cases h0 : n * i.size = 0
   · have hn0 : news = [] := List.eq_nil_of_length_eq_zero (by rw [hsz, h0])
     subst hn0
     simp [Builtin.append_, run_underlying ht, run_underlying hk, sizeOf, typeInfo, zeroValue, hi, hz, asInt, asIntOf, hm, hb', hneg, h0, hn, h63', h48', Question.forced, newRow, grownCap, ho]
     try (congr 2; apply Array.ext'; simp)
   · rw [hnew]
     simp [Builtin.append_, run_underlying ht, run_underlying hk, sizeOf, typeInfo, zeroValue, hi, hz, asInt, asIntOf, hm, hb', hneg, h0, hn, h63', h48', Question.forced, newRow, grownCap, ho]
     try (congr 2; apply Array.ext'; simp)

theorem zeroCells_flat (z : Array Value) (n : Nat) : (Builtin.zeroCells z n).toList = (rep z.toList n).flatten := by
 simp only [Builtin.zeroCells, Array.toList_map, Array.toList_range]
 induction n with
 | zero => simp [rep]
 | succ n ih =>
   rw [Nat.succ_mul, Nat.add_comm, List.range_add, List.map_append, rep, List.flatten_cons]
   congr 1
   · apply List.ext_getElem
     · simp
     · intro i h1 h2
       simp at h1 h2
       simp [Nat.mod_eq_of_lt h2, h2]
   · rw [← ih, List.map_map]
     apply List.map_congr_left
     intro i _
     simp
theorem wrap_small {n : Nat} (h : n ≤ ROOM) : IntKind.i64.wrap (n : Int) = (n : Int) := by
 have h : n ≤ 4294967296 := h
 have e1 : (2 : Int) ^ IntKind.i64.bits = 18446744073709551616 := by decide
 have e2 : (2 : Int) ^ (IntKind.i64.bits - 1) = 9223372036854775808 := by decide
 simp only [IntKind.wrap, e1, e2]
 have hm : (n : Int) % 18446744073709551616 = n := Int.emod_eq_of_lt (by omega) (by omega)
 simp [hm, IntKind.signed]
 omega
theorem src_zeros {u e : TypeId} {c : T} {x : Value} {m : Int} {n : Nat} {k k' : IntKind} (hu : P.underlying u = some (.int k)) (hx : x = .int k' m) (hm : IntKind.i64.wrap m = (n : Int)) (hc : code P e = some c) (hs : small P e = true) (hn : n ≤ ROOM) :
 ∃ news, Src P w u e x c.size n news ∧ rowRel (eltRel H c) (List.replicate n c.dflt) news := by
 obtain ⟨⟨i, z, hi, hz, hzc, his⟩, _⟩ := code_sound hc
 have hrow := rep_flat (dflt_rel H c) n
 rw [← hzc, ← zeroCells_flat] at hrow
 refine ⟨_, ⟨.inr ⟨⟨_, hu⟩, ⟨_, _, hx, hm⟩, fun i' hi' => ?_, fun i' z' hi' hz' => ?_⟩, ?_⟩, hrow⟩
 · have hb : i'.bytes ≤ 4096 := by
     have := Nat.le_of_ble_eq_true hs
     simpa [Program.bytesOf, hi'] using this
   have : n * i'.bytes ≤ 4294967296 * 4096 := Nat.mul_le_mul hn hb
   omega
 · rw [hi] at hi'; simp at hi'; subst hi'
   rw [hz] at hz'; simp at hz'; subst hz'
   rfl
 · have := rowRel_length (eltRel_length c) hrow
   simpa using this
theorem src_slice {u e : TypeId} {c : T} {xs : List c.den} {v : Value} (hu : ∃ e, P.underlying u = some (.slice e)) (h : sliceNow w H c xs v) :
 ∃ news, Src P w u e v c.size xs.length news ∧ rowRel (eltRel H c) xs news := by
 rcases h.2 with ⟨rfl, rfl | ⟨a0, rfl⟩⟩ | ⟨b, o, cap, cs, rfl, hlc, hrow, hci⟩
 · exact ⟨[], ⟨.inl ⟨.inl hu, rfl, fun w' _ => rfl⟩, by simp⟩, rfl⟩
 · exact ⟨[], ⟨.inl ⟨.inl hu, rfl, fun w' hw => run_firstCells_some (P := P) w' c.size 0 _ _ 0 [] (by simp) (fun j u hj => by simp at hj)⟩, by simp⟩, rfl⟩
 · have hl := rowRel_length (eltRel_length c) hrow
   refine ⟨cs, ⟨.inl ⟨.inl hu, rfl, fun w' hw => ?_⟩, hl⟩, hrow⟩
   exact run_firstCells_some (P := P) w' c.size xs.length _ _ cap cs hl (fun j u hj => by rw [add_at]; exact hw.cell (hci j u hj))
theorem src_string {u e : TypeId} {l : List (BitVec 8)} (hu : P.underlying u = some .string) :
 ∃ news, Src P w u e (.string (toBA l)) 1 l.length news ∧ rowRel (eltRel H .u8) l news := by
 refine ⟨l.map fun x => Value.int .u8 (x.toNat : Int), ⟨.inl ⟨.inr hu, by simp [Builtin.lenOf, toBA_size], fun w' _ => ?_⟩, by simp⟩, ?_⟩
 · simp only [Builtin.firstCells, Sem.run_pure]
   congr 1
   apply Array.ext'
   have h1 : ((toBA l).extract 0 l.length) = toBA l := by
    apply WideShapes.bytes_inj
    simp [ByteArray.data_extract, toBA]
    exact List.take_of_length_le (by simp)
   rw [h1]
   simp [toBA]
 · induction l with
   | nil => rfl
   | cons x l ih => exact ⟨[_], _, rfl, rfl, ih⟩

theorem srcOf_sound (I : MInv E H ρ hp N w) {c : T} {tx e : TypeId} (hce : code P e = some c) (hse : small P e = true) {x : SV} {ys : List c.den} {vc : Option Prop} (h : srcOf P hp c tx x = some (ys, vc)) (hvc : vcT vc) {vx : Value} (hx : svRel H ρ x vx) :
 ∃ news, Src P w tx e vx c.size ys.length news ∧ rowRel (eltRel H c) ys news := by
 unfold srcOf at h
 split at h
 · rename_i hu
   split at h
   · rename_i l
     split at h
     · rename_i hc
       subst hc
       simp at h
       obtain ⟨rfl, rfl⟩ := h
       obtain ⟨rfl, _⟩ := hx
       exact src_string hu
     · simp at h
   · simp at h
 · rename_i e hu
   split at h
   · rename_i d hd
     split at h
     · rename_i hc
       simp at h
       obtain ⟨rfl, rfl⟩ := h
       have hn := asSlice_now I hd hvc hx
       subst hc
       exact src_slice ⟨_, hu⟩ hn
     · simp at h
   · simp at h
 · rename_i k hu
   split at h
   · rename_i n
     simp at h
     obtain ⟨rfl, rfl⟩ := h
     have hv : n.toNat ≤ ROOM := hvc
     simp only [List.length_replicate]
     exact src_zeros (m := (n.toNat : Int)) hu hx (wrap_small hv) hce hse hv
   · rename_i n
     simp at h
     obtain ⟨rfl, rfl⟩ := h
     obtain ⟨hv1, hv⟩ : 0 ≤ n ∧ n ≤ (ROOM : Int) := hvc
     have hv : n.toNat ≤ ROOM := by omega
     have e : n = (n.toNat : Int) := by omega
     simp only [List.length_replicate]
     exact src_zeros (m := n) hu hx.1 (by rw [e]; exact wrap_small hv) hce hse hv
   · simp at h
 · simp at h

theorem small_bytes {e : TypeId} {i : TypeInfo} (h : small P e = true) (hi : P.info? e = some i) : i.bytes ≤ 4096 := by
 have := Nat.le_of_ble_eq_true h
 simpa [Program.bytesOf, hi] using this

theorem append_new (I : MInv E H ρ hp N w) (hN : N lab) {ts tx ty e : TypeId} {c : T} (hu : P.underlying ts = some (.slice e)) (hc : code P e = some c) (hs : small P e = true)
 {xs ys : List c.den} {olds news : List Value} {vx : Value} {sCap : Nat} {base : Option Addr} (hsrc : Src P w tx e vx c.size ys.length news) (hrow : rowRel (eltRel H c) ys news) (hold : rowRel (eltRel H c) xs olds)
 (holds : ∀ w', Same w w' → (Builtin.firstCells c.size xs.length (.slice base xs.length sCap)).run P w' = .ok olds.toArray w') (hg : sCap < xs.length + ys.length) (hroom : xs.length + ys.length ≤ ROOM) :
 ∃ v' w' H' ρ', (Builtin.append_ #[ts, tx] ty #[.slice base xs.length sCap, vx]).run P w = .ok v' w' ∧ H.le H' ∧ ρ.le ρ' ∧ MInv E H' ρ' (put lab (.tok e c.size) hp) (but N lab) w' ∧ ownRel H' ρ' lab c (xs ++ ys) v' := by
 obtain ⟨⟨i, z, hi, hz, hzc, his⟩, _⟩ := code_sound hc
 have hb := small_bytes hs hi
 unfold ROOM at hroom
 have hbytes : (xs.length + ys.length) * i.bytes ≤ 140737488355328 := by
  have : (xs.length + ys.length) * i.bytes ≤ 4294967296 * 4096 := Nat.mul_le_mul hroom hb
  omega
 have hmax : xs.length + ys.length ≤ maxLen := by simp only [maxLen]; omega
 rw [← his] at hsrc holds
 have hrun := append_grow (ty := ty) hu hi hz hsrc holds hg (by omega) (growslice_fits hg hbytes)
 have hge := grownCap_ge w (xs.length + ys.length) sCap e
 have hle := grownCap_le_maxLen w (xs.length + ys.length) sCap e hmax
 generalize grownCap w (xs.length + ys.length) sCap e = cap at hrun hge hle
 have hl := eltRel_length (H := H) c
 have ho := rowRel_length hl hold
 have hn := rowRel_length hl hrow
 have hzs : z.cells.size = c.size := by rw [← Array.length_toList, hzc]; rw [eltRel_length c _ _ (dflt_rel H c)]
 have hsz : (olds.toArray ++ news.toArray ++ Builtin.zeroCells z.cells (cap - (xs.length + ys.length))).size = cap * c.size := by
  simp only [Array.size_append, List.size_toArray, size_zeroCells, hzs, ho, hn, ← Nat.add_mul]
  congr 1; omega
 have htake : (olds.toArray ++ news.toArray ++ Builtin.zeroCells z.cells (cap - (xs.length + ys.length))).toList.take ((xs.length + ys.length) * c.size) = olds ++ news := by
  simp only [Array.toList_append, List.append_assoc]
  rw [← List.append_assoc, List.take_left' (by simp [ho, hn, Nat.add_mul])]
 have I1 := I.same (Same.drew w)
 obtain ⟨h1, h2, h3, h4⟩ := I1.own hN (n := xs.length + ys.length) (cap := cap) (s := c.size) (e := e) (f := (0, 0)) hge hle hsz (farF_zero _)
 rw [htake] at h4
 refine ⟨_, _, _, _, hrun, h1, h2, h3, ?_, ⟨?_, .inr ⟨w.heap.size, 0, cap, olds ++ news, by simp, by simp; omega, ?_, h4⟩⟩, ?_⟩
 · simp [setLab]
 · simp [LIM]; omega
 · exact rowRel_append.2 ⟨olds, news, rfl, rowRel_mono (eltRel_mono h1 c) hold, rowRel_mono (eltRel_mono h1 c) hrow⟩
 · intro ad n' c' e'
   simp at e'
   rw [← e'.1]

theorem first_old {c : T} (I : MInv E H ρ hp N w) {xs : List c.den} {v : Value} (h : sliceRel H (eltRel H c) xs v) :
 ∃ base cap olds, v = .slice base xs.length cap ∧ (base = none → cap = 0 ∧ xs = []) ∧ rowRel (eltRel H c) xs olds ∧ ∀ w', Same w w' → (Builtin.firstCells c.size xs.length (.slice base xs.length cap)).run P w' = .ok olds.toArray w' := by
 rcases h.2 with ⟨rfl, rfl | ⟨a0, rfl⟩⟩ | ⟨b, o, cap, cs, rfl, hlc, hrow, hci⟩
 · exact ⟨none, 0, [], rfl, fun _ => ⟨rfl, rfl⟩, rfl, fun w' _ => rfl⟩
 · exact ⟨some a0, 0, [], rfl, fun h => by simp at h, rfl, fun w' _ => run_firstCells_some (P := P) w' c.size 0 _ _ 0 [] (by simp) (fun j u hj => by simp at hj)⟩
 · have hl := rowRel_length (eltRel_length c) hrow
   refine ⟨some ⟨b, o, none⟩, cap, cs, rfl, fun h => by simp at h, hrow, fun w' hw => ?_⟩
   exact run_firstCells_some (P := P) w' c.size xs.length _ _ cap cs hl (fun j u hj => by
    rw [add_at]
    have hlt : j < cs.length := by
     rcases Nat.lt_or_ge j cs.length with h | h
     · exact h
     · rw [List.getElem?_eq_none h] at hj; cases hj
    exact hw.cell (I.mem _ _ _ (by rw [hci j hlt, hj])))

theorem castL_own {H : Mem} {ρ : Lab} {k : Nat} {t u : T} (h : t = u) {xs : List t.den} {v : Value} (hr : ownRel H ρ k t xs v) : ownRel H ρ k u (castL h xs) v := by
 subst h; exact hr

theorem appendO_ok (I : MInv E H ρ hp N w) (hN : N lab) {ts tx : TypeId} {s x : SV} {r : Res} (h : appendO P hp ts tx lab s x = some r) (hvc : vcT r.vc) {vs vx : Value} (hs : svRel H ρ s vs) (hx : svRel H ρ x vx) (tys : Array TypeId) (htys : tys = #[ts, tx]) (ty : TypeId) :
 OpOk P E H ρ hp N lab w a (do pure (.value (← Builtin.append_ tys ty #[vs, vx]))) r := by
 subst htys
 unfold appendO at h
 split at h
 · rename_i e hu
   split at h
   · simp at h
   · rename_i c hc
     cases hsm : (!small P e || Nat.beq c.size 0) with
     | true => rw [hsm] at h; simp at h
     | false =>
       rw [hsm] at h; simp only [cond_false] at h
       simp only [Bool.or_eq_false_iff, Bool.not_eq_false'] at hsm
       obtain ⟨hsmall, hnz⟩ := hsm
       split at h
       · simp at h
       · rename_i ys vc hsrc
         obtain ⟨⟨i, z, hi, hz, hzc, his⟩, _⟩ := code_sound hc
         split at h
         · -- nil
           rename_i t'
           simp at h; subst h
           obtain ⟨hv1, hv2⟩ := vcT_and hvc
           obtain ⟨news, hS, hrow⟩ := srcOf_sound I hc hsmall hsrc hv1 hx
           rw [show vs = _ from hs]
           by_cases hy : ys.length = 0
           · have hy0 : ys = [] := List.eq_nil_of_length_eq_zero hy
             rw [hy] at hS
             rw [← his] at hS
             have hrun := append_nil0 (ty := ty) hu hi hS
             have hle := setLab_le (v := .slice none 0 0) (I.bound lab hN)
             refine ⟨.slice none 0 0, w, H, setLab ρ lab (.slice none 0 0), .inl (by simp [hrun]), Mem.le_refl H, hle, I.label hN ⟨.slice none 0 0, 0, [], by simp [setLab], ownsR_nil w e c.size, by simp [Value.ownBlock]⟩ (by simp [blk]), ?_⟩
             exact ⟨by simp [setLab], ⟨by simp [hy, LIM], .inl ⟨hy0, .inl rfl⟩⟩, by simp⟩
           · have hfirst : ∀ w', Same w w' → (Builtin.firstCells c.size ([] : List c.den).length (.slice none ([] : List c.den).length 0)).run P w' = .ok ([] : List Value).toArray w' := fun w' _ => rfl
             obtain ⟨v', w', H', ρ', hrun, h1, h2, h3, h4⟩ := append_new (ty := ty) I hN hu hc hsmall hS hrow (xs := []) (olds := []) rfl hfirst (by simp; omega) (by have h9 : ys.length ≤ ROOM := hv2; simpa using h9)
             exact ⟨v', w', H', ρ', .inl (by simp at hrun; simp [hrun]), h1, h2, h3, h4⟩
         · -- full
           rename_i t xs
           split at h
           · rename_i htc
             simp at h; subst h
             obtain ⟨hv1, hv2⟩ := vcT_and hvc
             obtain ⟨hpos, hroom⟩ := hv2
             obtain ⟨news, hS, hrow⟩ := srcOf_sound I hc hsmall hsrc hv1 hx
             have hsl := castL_slice htc hs.1
             obtain ⟨base, cap, olds, rfl, hbn, hold, hf⟩ := first_old (P := P) I hsl
             have hlen := castL_length htc xs
             have hcap : cap ≤ (castL htc xs).length := by
              cases base with
              | none => have := hbn rfl; omega
              | some ad => have := hs.2 ad _ _ rfl; omega
             obtain ⟨v', w', H', ρ', hrun, h1, h2, h3, h4⟩ := append_new (ty := ty) I hN hu hc hsmall hS hrow hold hf (by omega) (by rw [hlen]; exact hroom)
             exact ⟨v', w', H', ρ', .inl (by simp [hrun]), h1, h2, h3, h4⟩
           · simp at h
         · -- own
           rename_i k t xs
           split at h
           · rename_i e' sz hl
             cases hchk : (Nat.beq sz c.size && Nat.beq e' e) with
             | false => rw [hchk] at h; simp at h
             | true =>
               rw [hchk] at h; simp only [cond_true] at h
               simp only [Bool.and_eq_true] at hchk
               have hsz := Nat.eq_of_beq_eq_true hchk.1
               have hee := Nat.eq_of_beq_eq_true hchk.2
               subst hsz; subst hee
               split at h
               · rename_i htc
                 simp at h; subst h
                 obtain ⟨hv1, hroom⟩ := vcT_and hvc
                 have hroom' : xs.length + ys.length ≤ ROOM := hroom
                 obtain ⟨news, hS, hrow⟩ := srcOf_sound I hc hsmall hsrc hv1 hx
                 have hown := castL_own htc hs
                 have hlen := castL_length htc xs
                 generalize castL htc xs = zs at *
                 rw [← hlen] at hroom'
                 clear hs
                 obtain ⟨hρk, hsl, hoff⟩ := hown
                 have hobj := I.objs k
                 rw [hl] at hobj
                 obtain ⟨v0, n0, xs0, hρ0, hrowown, hspare⟩ := hobj
                 rw [hρk] at hρ0; simp at hρ0; subst hρ0
                 obtain ⟨base, cap, olds, rfl, hbn, hold, hf⟩ := first_old (P := P) I hsl
                 have Ik := I.kill k
                 have hle0 := fun v => setLab_le (v := v) (I.bound lab hN)
                 by_cases hfit : zs.length + ys.length ≤ cap
                 · -- there is room
                   cases base with
                   | none =>
                     obtain ⟨rfl, hz0⟩ := hbn rfl
                     subst hz0
                     have hy0 : ys = [] := by simpa using hfit
                     subst hy0
                     rw [← his] at hS
                     have hrun := append_nil0 (ty := ty) hu hi (by simpa using hS)
                     refine ⟨.slice none 0 0, w, H, setLab ρ lab (.slice none 0 0), .inl (by simp [hrun]), Mem.le_refl H, hle0 _, Ik.label hN ⟨.slice none 0 0, 0, [], by simp [setLab], ownsR_nil w _ _, by simp [Value.ownBlock]⟩ (by simp [blk]), ?_⟩
                     exact ⟨by simp [setLab], ⟨by simp [LIM], .inl ⟨by simp, .inl rfl⟩⟩, by simp⟩
                   | some ad =>
                     rcases hrowown.2 with ⟨hv, _⟩ | ⟨g, cap', cur, f, hv, hfar, hg, hnc, hcm, hcs, htake⟩
                     · simp at hv
                     · simp at hv
                       obtain ⟨rfl, rfl, rfl⟩ := hv
                       have hl' := eltRel_length (H := H) c
                       have hnl := rowRel_length hl' hrow
                       have hol := rowRel_length hl' hold
                       have hfit' : zs.length * c.size + news.length ≤ cur.size := by rw [hnl, hcs, ← Nat.add_mul]; exact Nat.mul_le_mul_right _ hfit
                       rw [← his] at hS
                       have hrun := append_fit (ty := ty) hu hi hS hg hfar hfit (by rw [his]; exact hfit') (row_one hrow) ⟨_, hz⟩
                       rw [his] at hrun
                       have hgone : look k (put k .gone hp) = .gone := by rw [look_put, if_pos rfl]
                       have hbase : baseOf ρ k = some g := by simp [baseOf, hρk, blk]
                       have hfree : ∀ l, look l (put k .gone hp) ≠ .gone → baseOf ρ l ≠ some g := by
                        intro l hll he
                        rw [look_put] at hll
                        split at hll
                        · exact hll rfl
                        · rename_i hne
                          exact I.sep l k g hll (by rw [hl]; simp) hne he hbase
                       have hsp : ∀ o, zs.length * c.size ≤ o → H g o = none := hspare g (by simp [Value.ownBlock])
                       have hkeep : ∀ o v, H g o = some v → (cur.toList.take (zs.length * c.size) ++ news ++ cur.toList.drop (zs.length * c.size + news.length)).toArray[o]? = some v := by
                        intro o v hv
                        have ho : o < zs.length * c.size := by
                         rcases Nat.lt_or_ge o (zs.length * c.size) with h | h
                         · exact h
                         · rw [hsp o h] at hv; cases hv
                        have := I.mem g o v hv
                        simp only [World.cell?, hg] at this
                        simp only [List.getElem?_toArray, List.append_assoc]
                        rw [List.getElem?_append_left (by simp; omega), List.getElem?_take, if_pos ho]
                        simpa using this
                       have hfr : E.w0.heap.size ≤ g ∨ g ∈ E.own0 := I.fresh k g (by rw [hl]; simp) hbase
                       obtain ⟨hH, I2⟩ := Ik.write (m := (zs.length + ys.length) * c.size) hg hfree hfr hkeep
                       have hself := setRow_heap w g cur (cur.toList.take (zs.length * c.size) ++ news ++ cur.toList.drop (zs.length * c.size + news.length)).toArray _ f hg
                       have hlt : (cur.toList.take (zs.length * c.size)).length = zs.length * c.size := by simp; omega
                       have htk : ((cur.toList.take (zs.length * c.size) ++ news ++ cur.toList.drop (zs.length * c.size + news.length))).take ((zs.length + ys.length) * c.size) = cur.toList.take (zs.length * c.size) ++ news := by
                        rw [List.take_left' (by simp only [List.length_append, hlt, hnl]; rw [Nat.add_mul])]
                       have holds2 : cur.toList.take (zs.length * c.size) = olds := by
                        have h1 := hf w (Same.refl w)
                        have h2 := run_firstCells_some (P := P) w c.size zs.length ⟨g, 0, none⟩ zs.length cap (cur.toList.take (zs.length * c.size)) hlt (fun j u hj => by
                         rw [add_at]
                         simp only [World.cell?, hg, Nat.zero_add]
                         rw [List.getElem?_take] at hj
                         split at hj
                         · simpa using hj
                         · cases hj)
                        rw [h1] at h2
                        simp at h2
                        exact h2.symm
                       refine ⟨.slice (some ⟨g, 0, none⟩) (zs.length + ys.length) cap, _, _, setLab ρ lab (.slice (some ⟨g, 0, none⟩) (zs.length + ys.length) cap), .inl (by rw [Sem.run_bind, hrun]; rfl), hH, hle0 _, I2.label hN ⟨.slice (some ⟨g, 0, none⟩) (zs.length + ys.length) cap, zs.length + ys.length, olds ++ news, by simp [setLab], ⟨by rw [List.length_append, hol, hnl, Nat.add_mul], .inr ⟨g, cap, _, f, rfl, ?_, hself, hfit, hcm, ?_, ?_⟩⟩, ?_⟩ ?_, ?_⟩
                       · have es : (cur.toList.take (zs.length * c.size) ++ news ++ cur.toList.drop (zs.length * c.size + news.length)).toArray.size = cur.size := by simp; omega
                         rw [es]; exact hfar
                       · simp; omega
                       · rw [htk, holds2]
                       · intro g' hg' o ho
                         simp [Value.ownBlock] at hg'
                         subst hg'
                         unfold extH
                         rw [if_neg (by omega)]
                         exact hsp o (Nat.le_trans (Nat.mul_le_mul_right _ (by omega)) ho)
                       · intro b hb
                         simp [blk] at hb
                         subst hb
                         exact ⟨hfr, hfree⟩
                       · refine ⟨by simp [setLab], ⟨by simp [LIM]; unfold ROOM at hroom'; omega, .inr ⟨g, 0, cap, olds ++ news, by simp, by simpa using hfit, rowRel_append.2 ⟨olds, news, rfl, rowRel_mono (eltRel_mono hH c) hold, rowRel_mono (eltRel_mono hH c) hrow⟩, ?_⟩⟩, ?_⟩
                         · refine cellsIn_ext (by rw [List.length_append, hol, hnl, Nat.add_mul]; exact Nat.le_refl _) (fun i hi => ?_)
                           have h2 := congrArg (fun l => l[i]?) htk
                           simp only [List.getElem?_take] at h2
                           rw [if_pos (by simp only [List.length_append, hol, hnl, ← Nat.add_mul] at hi; exact hi), holds2] at h2
                           rw [holds2]; exact h2
                         · intro ad n' c' e'
                           simp at e'
                           rw [← e'.1]
                 · obtain ⟨v', w', H', ρ', hrun, h1, h2, h3, h4⟩ := append_new (ty := ty) Ik hN hu hc hsmall hS hrow hold hf (by omega) hroom'
                   exact ⟨v', w', H', ρ', .inl (by simp [hrun]), h1, h2, h3, h4⟩
               · simp at h
           · simp at h
         · simp at h
 · simp at h

end Go.Vse
