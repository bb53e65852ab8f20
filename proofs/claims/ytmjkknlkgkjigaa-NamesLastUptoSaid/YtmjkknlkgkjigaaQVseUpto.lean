/- A law's function, where its slices are not long: for statements of the second form. -/
import Derived.Test.YtmjkknlkgkjigaaQVseClose
namespace Go.Vse
open Go.ChangeShapes Go.WideShapes Go.ChangeAt Go.RowKit
variable {P : Program} {H : Type} {enc : TypeId × Value → H}

/-- how many elements a datum has -/
def elemsD : DataW H → Nat
  | .slice e _ => e.length
  | _ => 0
/-- slices among the arguments have as many elements as are read -/
def lensD : (ts : List T) → dens ts → List (DataW H) → Prop
  | .slc _ :: r, x, d :: ds => x.1.length ≤ elemsD d ∧ lensD r x.2 ds
  | .u8 :: r, x, _ :: ds => lensD r x.2 ds
  | .u16 :: r, x, _ :: ds => lensD r x.2 ds
  | .u32 :: r, x, _ :: ds => lensD r x.2 ds
  | .u64 :: r, x, _ :: ds => lensD r x.2 ds
  | .i64 :: r, x, _ :: ds => lensD r x.2 ds
  | .bool :: r, x, _ :: ds => lensD r x.2 ds
  | .str :: r, x, _ :: ds => lensD r x.2 ds
  | .unit :: r, x, _ :: ds => lensD r x.2 ds
  | .arr _ _ :: r, x, _ :: ds => lensD r x.2 ds
  | .pair _ _ :: r, x, _ :: ds => lensD r x.2 ds
  | [], _, _ => True
  | _ :: _, _, [] => False
theorem elems_trod {W : World} {t : TypeId} {a : Addr} {n cap fuel : Nat} {d : DataW H} {ps : List MemPlace} (h : DataW.trod enc P W 0 (fun _ => true) true fuel t [.slice (some a) n cap] = some (d, ps)) (hs : ∃ e, P.underlying t = some (.slice e)) : elemsD d = n := by
  obtain ⟨e, hu⟩ := hs
  cases fuel with
  | zero => simp [DataW.trod] at h
  | succ fuel =>
    simp only [DataW.trod, hu] at h
    split at h
    · simp only [Option.bind_eq_some_iff, Option.map_eq_some_iff, Prod.mk.injEq] at h
      obtain ⟨elems, hel, rest, _, hd, _⟩ := h
      rw [← hd]
      have := mapM_some_length hel
      simp only [elemsD, List.length_map]
      simpa using this
    · cases h
theorem arg_len {t : TypeId} {u : T} {W : World} {xs : List u.den} {v : Value} {d : DataW H} {ps : List MemPlace} (hs : shapeB P t (.slc u) = true) (hsl : ∀ n a cap, v = .slice (some a) n cap → ∃ e, P.underlying t = some (.slice e))
    (ht : DataW.Trod enc P W 0 (fun _ => true) true t v d ps) (hx : svRel (memOf W) (fun _ => none) (svOfT (.slc u) xs) v) : xs.length ≤ elemsD d := by
  obtain ⟨_, h⟩ := hx
  rcases h with ⟨h, _⟩ | ⟨b, off, cap, cs, rfl, _⟩
  · rw [h]; exact Nat.zero_le _
  · obtain ⟨fuel, hf⟩ := ht
    have hc : (Value.slice (some ⟨b, off, none⟩) xs.length cap).cells.toList = [.slice (some ⟨b, off, none⟩) xs.length cap] := rfl
    rw [hc] at hf
    exact Nat.le_of_eq (elems_trod hf (hsl _ _ _ rfl)).symm
theorem slice_under {t : TypeId} {n cap fuel : Nat} {a : Addr} {W : World} {x : DataW H × List MemPlace} (h : DataW.trod enc P W 0 (fun _ => true) true fuel t [.slice (some a) n cap] = some x) (hn : ∀ fs, P.underlying t ≠ some (.struct fs)) (ha : ∀ k e, P.underlying t ≠ some (.array k e)) : ∃ e, P.underlying t = some (.slice e) := by
  cases fuel with
  | zero => simp [DataW.trod] at h
  | succ fuel =>
    unfold DataW.trod at h
    split at h <;> first | (rename_i h1 h2; cases h2) | skip
    all_goals first
      | (cases h; done)
      | exact absurd (by assumption) (hn _)
      | exact absurd (by assumption) (ha _ _)
      | exact ⟨_, by assumption⟩
theorem param_len {t : TypeId} {u : T} {W : World} {xs : List u.den} {v : Value} {d : DataW H} {ps : List MemPlace} (h1 : ParamAs P t (.slc u)) (ht : DataW.Trod enc P W 0 (fun _ => true) true t v d ps) (hx : svRel (memOf W) (fun _ => none) (svOfT (.slc u) xs) v) : xs.length ≤ elemsD d := by
  obtain ⟨_, _, _, _, hs⟩ := h1
  refine arg_len hs (fun n a cap e => ?_) ht hx
  subst e
  obtain ⟨fuel, hf⟩ := ht
  refine slice_under (fuel := fuel) hf (fun fs e => ?_) (fun k e' e => ?_)
  · unfold shapeB at hs; rw [e] at hs; simp [aggT] at hs
  · unfold shapeB at hs; rw [e] at hs; simp [aggT] at hs
theorem args_relU {W : World} {base : Nat} : ∀ {ts : List TypeId} {cs : List T}, ParamsAs P ts cs → ∀ {vs : List Value} {ds : List (DataW H)} {ps : List MemPlace},
    (∀ (j : Nat) t v, ts[j]? = some t → vs[j]? = some v → Value.okWide P W .any base t v) → DataW.TrodAll enc P W 0 (fun _ => true) true ts vs ds ps → ∃ x : dens cs, datsRel (memOf W) (svsOf cs x) vs ∧ lensD cs x ds
  | [], [], _, vs, ds, ps, _, h => by
    cases vs with
    | nil => exact ⟨(), rfl, trivial⟩
    | cons v r => cases ds <;> exact absurd h (by simp [DataW.TrodAll])
  | t :: ts, c :: cs, ⟨h1, h2⟩, vs, ds, ps, hv, h => by
    cases vs with
    | nil => cases ds <;> exact absurd h (by simp [DataW.TrodAll])
    | cons v r =>
      cases ds with
      | nil => exact absurd h (by simp [DataW.TrodAll])
      | cons d ds =>
        obtain ⟨p, q, h3, h4, _⟩ := h
        obtain ⟨x, hx⟩ := arg_rel h1 (hv 0 t v rfl rfl) h3
        obtain ⟨y, hy, hl⟩ := args_relU h2 (fun j t v ht hv' => hv (j + 1) t v ht hv') h4
        refine ⟨(x, y), ⟨v, r, rfl, hx, hy⟩, ?_⟩
        cases c <;> first | exact hl | exact ⟨param_len h1 h3 (hx _), hl⟩
  | [], _ :: _, h, _, _, _, _, _ => h.elim
  | _ :: _, [], h, _, _, _, _, _ => h.elim

theorem law_callsU {f : FuncId} {fn : Func} {ts : List T} {Q : dens ts → Prop} (spec : Spec P f (D ts [.bool] (fun x => some (Q x)) (fun _ => (true, ())))) (hp : ParamsAs P fn.params.toList ts)
    {tb : TypeId} (hr : fn.resultTypes.toList = [tb]) (hb : P.underlying tb = some .bool)
    (k1 : laidOutB P = true) (k2 : mapsRowed P = true) (k3 : ((List.range P.types.size).all fun t => match P.underlying t with | some (.slice e) => decide (0 < P.cellsOf e) | _ => true) = true)
    (hu : ∀ c ∈ ts, c ≠ .unit) (hlt : (fn.params.toList.all fun t => decide (t < P.types.size)) = true)
    {s : ChangeSpec} (hv : s.vars = []) (hs : ∀ ds : List (DataW H), ds.length = fn.params.toList.length → s.fn H ds = { results := [.lit (.bool true)], args := ds })
    {W : World} {base : Nat} {args : Array Value} {ds gs : List (DataW H)} {before : List MemPlace}
    (hval : ∀ (j : Nat) t v, fn.params[j]? = some t → args[j]? = some v → Value.okWide P W .any base t v)
    (hW : DataW.Whole enc P fn.params.toList s.vars false W args.toList ds gs before) (hQ : ∀ x, lensD ts x ds → Q x) :
    Calls P f args W fun e W' => ∃ v, e = .returned v ∧ s.post enc P fn false true false false W args v W' := by
  have hW' := hW
  obtain ⟨p, q, hA, hV, rfl, hfz, hnd⟩ := hW
  rw [hv] at hV
  obtain ⟨rfl, rfl⟩ := trodVars_none hV
  obtain ⟨x, hx, hlen0⟩ := args_relU (base := base) hp (fun j t v h1 h2 => hval j t v (by simpa using h1) (by simpa using h2)) hA
  have hdec : (D ts [.bool] (fun x => some (Q x)) (fun _ => (true, ()))).ct (svsOf ts x) = some ⟨some (Q x), .sv (.dv (.bool true)), none, none⟩ := by
    have : decs ts (svsOf ts x) = some x := decs_of ts hu x
    simp only [D, cFn, this]
    rfl
  have hans := spec.does (memOf W) W (svsOf ts x) args.toList none _ hdec (hQ x hlen0) ⟨rfl, hx⟩ (memOf_ok W)
  unfold Answers at hans
  have hlen : ds.length = fn.params.toList.length := (trodAll_length hA).2
  rw [show args.toList.toArray = args from by simp] at hans
  refine hans.mono fun e W' ⟨v, H', u, he, _, hsame, _, _, _, _, hout⟩ => ⟨v, he, ?_⟩
  have hv1 : v = .bool true := hout (fun _ => u) #[] rfl
  subst hv1
  have hpl : ∀ y ∈ p, y.block < W.heap.size := fun y hy => hW'.lt y (by simp [hy])
  have hA2 : DataW.TrodAll enc P W' 0 (fun b => decide (b < W.heap.size)) true fn.params.toList args.toList ds p :=
    trodAll_carry (DataW.TrodAll.respare (kids_rows k1 k2) (slices_full_of P k3) (fun t ht => by simpa using List.all_eq_true.1 hlt t ht) hA (fun y hy => by simpa using hpl y hy)) fun y hy => same_at hsame (hpl y hy)
  have hsz : fn.resultTypes.size = 1 := by rw [← Array.length_toList, hr]; rfl
  refine ⟨ds, [], p ++ [], [], p, [], hW', ?_, ?_, ?_, kept_of hsame, fun h => by cases h⟩
  · rw [show ds ++ [] = ds from List.append_nil _, hs ds hlen, hsz, hr]
    exact trodAll_cons_mk (p := []) (p' := []) ⟨1, by simp [DataW.trod, Value.cells, hb]⟩ trodAll_mk0
  · rw [show ds ++ [] = ds from List.append_nil _, hs ds hlen]; exact hA2
  · rw [show ds ++ [] = ds from List.append_nil _, hs ds hlen, hv]; rfl

end Go.Vse
