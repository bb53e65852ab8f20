/- The laws of chapter 20 on messages. -/
import Derived.Test.YtogjeflhlnnbdaaQCShip2
set_option maxRecDepth 100000
namespace Go.Sal
open Go.Vse Go.Sal.Nm

def cutB (b : Bytes) : Bytes := b.take 6000
def fewD (l : List DigP) : List DigP := l.take 200
def lightV (m : Msg) : Msg := (m.1, m.2.1, m.2.2.1, m.2.2.2.1, m.2.2.2.2.1, fewD m.2.2.2.2.2.1, cutB m.2.2.2.2.2.2)

def c_cut20 : PC := D [.slc .u8] [.slc .u8] (fun _ => none) (fun x => (cutB x.1, ()))
def c_few20 : PC := D [.slc T_Dig] [.slc T_Dig] (fun _ => none) (fun x => (fewD x.1, ()))
def c_light : PC := D [T_Msg] [T_Msg] (fun _ => none) (fun x => (lightV x.1, ()))
def c_true20 : PC := D [] [.bool] (fun _ => none) (fun _ => (true, ()))
def c_law20 (ts : List T) : PC := D ts [.bool] (fun _ => none) (fun _ => (true, ()))

theorem law20_cut_vc (b : Bytes) :
    (decide (6000 < ofN (List.length b)) = true → (ofN 0 ≤ 6000 ∧ 6000 ≤ ofN (List.length b)) ∧ List.drop 0 (List.take (Int.toNat 6000) b) = cutB b) ∧
      (decide (6000 < ofN (List.length b)) = false → b = cutB b) := by
  unfold cutB ofN
  refine ⟨fun g => ?_, fun g => ?_⟩
  · simp only [decide_eq_true_eq] at g
    exact ⟨by omega, rfl⟩
  · simp only [decide_eq_false_iff_not] at g
    rw [List.take_of_length_le (by omega)]

theorem law20_few_vc (l : List DigP) :
    (decide (200 < ofN (List.length l)) = true → (ofN 0 ≤ 200 ∧ 200 ≤ ofN (List.length l)) ∧ List.drop 0 (List.take (Int.toNat 200) l) = fewD l) ∧ (decide (200 < ofN (List.length l)) = false → l = fewD l) := by
  unfold fewD ofN
  refine ⟨fun g => ?_, fun g => ?_⟩
  · simp only [decide_eq_true_eq] at g
    exact ⟨by omega, rfl⟩
  · simp only [decide_eq_false_iff_not] at g
    rw [List.take_of_length_le (by omega)]

theorem law20_light_vc (m : Msg) :
    m.1 = (lightV m).1 ∧
      m.2.1.1 = (lightV m).2.1.1 ∧
        m.2.1.2.1 = (lightV m).2.1.2.1 ∧
          m.2.1.2.2 = (lightV m).2.1.2.2 ∧
            m.2.2.1 = (lightV m).2.2.1 ∧
              m.2.2.2.1 = (lightV m).2.2.2.1 ∧
                m.2.2.2.2.1.1 = (lightV m).2.2.2.2.1.1 ∧
                  m.2.2.2.2.1.2.1 = (lightV m).2.2.2.2.1.2.1 ∧
                    m.2.2.2.2.1.2.2.1 = (lightV m).2.2.2.2.1.2.2.1 ∧
                      m.2.2.2.2.1.2.2.2.1 = (lightV m).2.2.2.2.1.2.2.2.1 ∧
                        m.2.2.2.2.1.2.2.2.2.1 = (lightV m).2.2.2.2.1.2.2.2.2.1 ∧
                          m.2.2.2.2.1.2.2.2.2.2.1 = (lightV m).2.2.2.2.1.2.2.2.2.2.1 ∧
                            m.2.2.2.2.1.2.2.2.2.2.2 = (lightV m).2.2.2.2.1.2.2.2.2.2.2 ∧ fewD m.2.2.2.2.2.1 = (lightV m).2.2.2.2.2.1 ∧ cutB m.2.2.2.2.2.2 = (lightV m).2.2.2.2.2.2 := by
  exact ⟨rfl, rfl, rfl, rfl, rfl, rfl, rfl, rfl, rfl, rfl, rfl, rfl, rfl, rfl, rfl⟩

theorem law20_awake_vc :
    List.length
          (bytesM
              (2, (0, 0, List.replicate 32 0#8), 300, List.replicate 32 0#8, (0, 0, List.replicate 32 0#8, 0, 0, nilOf (BitVec 8), nilOf (List (BitVec 8) × Int)), nilOf (List (BitVec 8)),
                nilOf (BitVec 8))).1 ≤
        1000000 ∧
      (true = true →
          within 1
            (List.length
              (bytesM
                  (2, (0, 0, List.replicate 32 0#8), 300, List.replicate 32 0#8, (0, 0, List.replicate 32 0#8, 0, 0, nilOf (BitVec 8), nilOf (List (BitVec 8) × Int)), nilOf (List (BitVec 8)),
                    nilOf (BitVec 8))).1)) ∧
        true = true := by
  exact ⟨by decide +kernel, fun _ => by unfold within; decide +kernel, rfl⟩

theorem law20_ShipForms_vc (s t : Msg) (hs : okM s) :
    List.length (lightV s).2.2.2.2.2.1 ≤ 1000000 ∧
      (((bytesM (lightV s)).1 == (bytesM (lightV s)).1 && (bytesM (lightV s)).2 == (bytesM (lightV s)).2) = true → List.length (lightV s).2.2.2.2.2.1 ≤ 1000000) ∧
        ((bytesM (lightV s)).1 == (bytesM (lightV s)).1 && (bytesM (lightV s)).2 == (bytesM (lightV s)).2 && checkM (lightV s) == checkM (lightV s) &&
                sameM (lightV s) (lightV t) == sameM (lightV s) (lightV t) &&
              sameM (lightV s) (lightV s) &&
            true) =
          true := by
  have hl : (lightV s).2.2.2.2.2.1.length ≤ 1000000 := by
    show (fewD s.2.2.2.2.2.1).length ≤ 1000000
    unfold fewD
    rw [List.length_take]; omega
  refine ⟨hl, fun _ => hl, ?_⟩
  rw [sameM_self]
  simp

theorem law20_ShipReads_vc (b : Bytes) :
    List.length (cutB b) ≤ 1000000 ∧ List.length (cutB b) ≤ 1000000 ∧ (sameM (parseMs (cutB b)).1 (parseMR (cutB b)).1 && (parseMs (cutB b)).2 == (parseMR (cutB b)).2 && true) = true := by
  have hl : (cutB b).length ≤ 6000 := by unfold cutB; rw [List.length_take]; omega
  refine ⟨by omega, by omega, ?_⟩
  rw [parseM_same _ (by omega), sameM_self]
  simp

theorem encM_len {m : Msg} (ho : okM m) (h : checkM m = 0) : (encM m).length ≤ 1000000 := by
  obtain ⟨hok, _⟩ := checkM_ok h
  obtain ⟨o1, o2, o3, o4, o5⟩ := ho
  have hlen : (encM m).length = (tailM m).length + 1 := rfl
  rw [hlen]
  have fl := flat_length _ o5
  rcases kinds hok with hk | hk | hk | hk | hk | hk | hk | hk | hk | hk
  all_goals have h1 := okMsg_at hk
  all_goals have h2 := tailM_at hk
  · rw [sel_1] at h1 h2
    obtain ⟨⟨b1, b2⟩, b3, b4⟩ := isHead_nat (h1.symm.trans hok)
    have := (vint64 b1 b2).2
    have := (vint64 b3 b4).2
    rw [h2, List.length_append, List.length_append]; omega
  · rw [sel_9] at h1 h2
    obtain ⟨⟨b1, b2⟩, b3, b4⟩ := isHead_nat (h1.symm.trans hok)
    have := (vint64 b1 b2).2
    have := (vint64 b3 b4).2
    rw [h2, List.length_append, List.length_append]; omega
  · rw [sel_2] at h1 h2
    obtain ⟨b1, b2⟩ := seqV_nat (by decide) (h1.symm.trans hok)
    have := (vint64 b1 b2).2
    rw [h2]; omega
  · rw [sel_3] at h1 h2
    obtain ⟨b1, b2⟩ := seqV_nat (by decide) (h1.symm.trans hok)
    have := (vint64 b1 b2).2
    rw [h2, List.length_append]; omega
  · rw [sel_4] at h1 h2
    have hc := h1.symm.trans hok
    unfold cutOk at hc
    rw [Bool.and_eq_true] at hc
    obtain ⟨b1, b2⟩ := seqV_nat (by decide) hc.1
    have := (vint64 b1 b2).2
    rw [h2, List.length_append]; omega
  · rw [sel_5] at h1 h2
    have hc : checkV m.2.2.2.2.1 = 0 := by simpa using h1.symm.trans hok
    have := recBytes_len hc o3 o4
    rw [bytesV_ok hc] at h2
    rw [h2]; exact Nat.le_trans (Nat.succ_le_succ this) (by decide)
  · rw [sel_6] at h1 h2
    have hr := h1.symm.trans hok
    unfold rowV at hr
    simp only [Bool.and_eq_true, decide_eq_true_eq] at hr
    rw [h2, List.length_cons, fl]; omega
  · rw [sel_10] at h1 h2
    have hr := h1.symm.trans hok
    unfold rowV at hr
    simp only [Bool.and_eq_true, decide_eq_true_eq] at hr
    rw [h2, List.length_cons, fl]; omega
  · rw [sel_7] at h1 h2
    have hc := h1.symm.trans hok
    unfold chunkV at hc
    simp only [Bool.and_eq_true, decide_eq_true_eq] at hc
    rw [h2]; omega
  · rw [sel_8] at h2
    rw [h2]; omega

theorem law20_ShipBack_vc (s : Msg) (b : Bytes) (hs : okM s) :
    (false = true → false = true) ∧
      (false = false →
        (((bytesM (lightV s)).2 == 0) = true →
            List.length (bytesM (lightV s)).1 ≤ 1000000 ∧
              (((parseMs (bytesM (lightV s)).1).2 != 0 || !sameM (lightV s) (parseMs (bytesM (lightV s)).1).1) = true → false = true) ∧
                (((parseMs (bytesM (lightV s)).1).2 != 0 || !sameM (lightV s) (parseMs (bytesM (lightV s)).1).1) = false →
                  List.length (cutB b) ≤ 1000000 ∧
                    (((parseMs (cutB b)).2 != 0) = true →
                        sameM (parseMs (cutB b)).1
                            (0, (0, 0, List.replicate 32 0#8), 0, List.replicate 32 0#8, (0, 0, List.replicate 32 0#8, 0, 0, nilOf (BitVec 8), nilOf (List (BitVec 8) × Int)), nilOf (List (BitVec 8)),
                              nilOf (BitVec 8)) =
                          true) ∧
                      (((parseMs (cutB b)).2 != 0) = false → ((bytesM (parseMs (cutB b)).1).2 == 0 && (bytesM (parseMs (cutB b)).1).1 == cutB b) = true))) ∧
          (((bytesM (lightV s)).2 == 0) = false →
            List.length (cutB b) ≤ 1000000 ∧
              (((parseMs (cutB b)).2 != 0) = true →
                  sameM (parseMs (cutB b)).1
                      (0, (0, 0, List.replicate 32 0#8), 0, List.replicate 32 0#8, (0, 0, List.replicate 32 0#8, 0, 0, nilOf (BitVec 8), nilOf (List (BitVec 8) × Int)), nilOf (List (BitVec 8)),
                        nilOf (BitVec 8)) =
                    true) ∧
                (((parseMs (cutB b)).2 != 0) = false → ((bytesM (parseMs (cutB b)).1).2 == 0 && (bytesM (parseMs (cutB b)).1).1 == cutB b) = true))) := by
  have ho : okM (lightV s) := ⟨hs.1, hs.2.1, hs.2.2.1, hs.2.2.2.1, fun d hd => hs.2.2.2.2 d (List.mem_of_mem_take hd)⟩
  have hl : (cutB b).length ≤ 1000000 := by unfold cutB; rw [List.length_take]; omega
  have hb : ((!decide ((parseMs (cutB b)).2 = 0)) = true → sameM (parseMs (cutB b)).1 msg0 = true) ∧ ((!decide ((parseMs (cutB b)).2 = 0)) = false → ((bytesM (parseMs (cutB b)).1).2 == 0 && (bytesM (parseMs (cutB b)).1).1 == cutB b) = true) := by
    rcases parseM_cases (cutB b) with h | ⟨h1, h2⟩
    · rw [h]
      exact ⟨fun _ => sameM_self _, fun g => absurd g (by decide)⟩
    · rw [h1]
      refine ⟨fun g => by simp at g, fun _ => ?_⟩
      simp only [h2]
      simp
  have hb' : (((parseMs (cutB b)).2 != 0) = true → sameM (parseMs (cutB b)).1 msg0 = true) ∧ (((parseMs (cutB b)).2 != 0) = false → ((bytesM (parseMs (cutB b)).1).2 == 0 && (bytesM (parseMs (cutB b)).1).1 == cutB b) = true) :=
    ⟨fun g => hb.1 (by simpa using g), fun g => hb.2 (by simpa using g)⟩
  refine ⟨fun g => g, fun _ => ⟨fun g => ?_, fun _ => ⟨hl, hb'⟩⟩⟩
  have hc : checkM (lightV s) = 0 := by
    unfold bytesM at g
    split at g
    · assumption
    · exact absurd g (by decide)
  have hbl := encM_len ho hc
  rw [bytesM_of hc]
  refine ⟨hbl, fun q => ?_, fun _ => ⟨hl, hb'⟩⟩
  simp only [parseM_back ho hc, sameM_self] at q
  exact absurd q (by decide)

theorem law20_cut_spec : Vse.Spec P f_law20_cut c_cut20 :=
  spec_fn (l := []) trivial h_law20_cut rfl rfl fun x _ _ => body_ok an_none (law20_cut_vc x.1) (by kernel_rfl)

theorem law20_few_spec : Vse.Spec P f_law20_few c_few20 :=
  spec_fn (l := []) trivial h_law20_few rfl rfl fun x _ _ => body_ok an_none (law20_few_vc x.1) (by kernel_rfl)

theorem law20_light_spec : Vse.Spec P f_law20_light c_light :=
  spec_fn (l := [(f_law20_cut, c_cut20), (f_law20_few, c_few20)]) ⟨law20_cut_spec, law20_few_spec, trivial⟩ h_law20_light rfl rfl fun x _ _ => body_ok an_none (law20_light_vc x.1) (by kernel_rfl)

theorem law20_awake_spec : Vse.Spec P f_law20_awake c_true20 :=
  spec_fn (l := [(f_ship_Bytes, c_BytesM), (f_ship_Parse, c_ParseM)]) ⟨ship_Bytes_spec, ship_Parse_spec, trivial⟩ h_law20_awake rfl rfl fun _ _ _ => body_ok an_none law20_awake_vc (by kernel_rfl)

theorem law20_ShipForms_spec : Vse.Spec P f_law20_ShipForms (c_law20 [T_Msg, T_Msg]) :=
  spec_fn (l := [(f_law20_light, c_light), (f_ship_Bytes, c_BytesM), (f_ref20_Bytes, c_rBytesM), (f_ship_Check, c_CheckM), (f_ref20_Check, c_rCheckM), (f_ship_Same, c_SameM), (f_ref20_Same, c_SameM), (f_law20_awake, c_true20)])
    ⟨law20_light_spec, ship_Bytes_spec, ref20_Bytes_spec, ship_Check_spec, ref20_Check_spec, ship_Same_spec, ref20_Same_spec, law20_awake_spec, trivial⟩ h_law20_ShipForms rfl rfl
    fun x _ ok => body_ok an_none (law20_ShipForms_vc x.1 x.2.1 (okM_of ok.1)) (by kernel_rfl)

theorem law20_ShipReads_spec : Vse.Spec P f_law20_ShipReads (c_law20 [.slc .u8]) :=
  spec_fn (l := [(f_law20_cut, c_cut20), (f_ship_Parse, c_ParseM), (f_ref20_Parse, c_ParseMR), (f_ref20_Same, c_SameM), (f_law20_awake, c_true20)])
    ⟨law20_cut_spec, ship_Parse_spec, ref20_Parse_spec, ref20_Same_spec, law20_awake_spec, trivial⟩ h_law20_ShipReads rfl rfl fun x _ _ => body_ok an_none (law20_ShipReads_vc x.1) (by kernel_rfl)

theorem law20_ShipBack_spec : Vse.Spec P f_law20_ShipBack (c_law20 [T_Msg, .slc .u8]) :=
  spec_fn (l := [(f_law20_awake, c_true20), (f_law20_light, c_light), (f_law20_cut, c_cut20), (f_ship_Bytes, c_BytesM), (f_ship_Parse, c_ParseM), (f_ref20_Same, c_SameM)])
    ⟨law20_awake_spec, law20_light_spec, law20_cut_spec, ship_Bytes_spec, ship_Parse_spec, ref20_Same_spec, trivial⟩ h_law20_ShipBack rfl rfl fun x _ ok => body_ok an_none (law20_ShipBack_vc x.1 x.2.1 (okM_of ok.1)) (by kernel_rfl)

end Go.Sal
