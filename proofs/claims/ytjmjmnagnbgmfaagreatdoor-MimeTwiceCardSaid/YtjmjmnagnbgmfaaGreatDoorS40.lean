import Derived.Test.YtjmjmnagnbgmfaaGreatDoorS39
import Derived.Deep.RegionWith
import Derived.Lib.AtoiErrMem
/-! The reference's Valid and Quotable. -/
namespace Go.Proofs.YtjmjmnagnbgmfaaGreatDoor
open Go.RowKit Go.Shelf Go.Lib

theorem at8_string {w : World} {K o : Nat} {l : List UInt8} (h : At8 w K o l) (cap : Nat) : (convert 34 9 (.slice (some ⟨K, o, none⟩) l.length cap)).run Tryz.prog w = .ok (.string (sOf l)) w := by
  rw [← strOfNums_nat8]
  exact run_convert_bytes_arg w 34 5 Tryz.underlying34 Tryz.underlying5 K o l.length cap _ (by simp) (fun i hi => by
    rw [h i hi]
    simp [List.getD_eq_getElem?_getD, hi]) 9 Tryz.underlying9
theorem At8.drew {w : World} {K o : Nat} {l : List UInt8} (h : At8 w K o l) : At8 w.drew K o l := fun j hj => h j hj
theorem undrew {w w' : World} (h : Below w.drew.heap.size w.drew w') : Below w.heap.size w w' := ⟨h.os, h.tape, h.output, h.size, h.block⟩
theorem goodR_range {r : Int} (h : goodR r = true) : 0 ≤ r ∧ r ≤ 255 := by
  simp only [goodR, Bool.or_eq_true, Bool.and_eq_true, decide_eq_true_eq, Bool.not_eq_true', decide_eq_false_iff_not] at h
  omega

set_option maxHeartbeats 8000000 in
set_option maxRecDepth 1000000 in
theorem rvalid_calls (K o cap : Nat) (l : List UInt8) (w : World) (hl : l.length ≤ 1000000) (hcap : l.length ≤ cap) (h : At8 w K o l) (hq : quotB l = true) :
    Calls Tryz.prog 61 #[.slice (some ⟨K, o, none⟩) l.length cap] w fun e w' => e = .returned (.bool true) ∧ Below w.heap.size w w' := by
  have HD := Lib.hid (decode_calls K o cap l w.drew hl hcap h.drew)
  have HA := Lib.hid h
  have HQ := Lib.hid hq
  have hb0 := at8_string h.drew cap
  clear h hq
  go_enter Tryz.func61, Tryz.ntmps61
  go_wp2
  go_region_with (first
    | (go_at_call 60; refine Calls.mono HD.out ?_; rintro e w1 ⟨v, rs, rfl, hd⟩
       have HDD := Lib.hid hd
       have hall : rs.all goodR = true := by
         have := hd.good
         rw [HQ.out, show quotB [] = true from rfl, Bool.and_true] at this
         exact this
       have HENC : Hid (encR rs = l) := by
         have := hd.enc hall
         rw [List.append_nil] at this
         exact this
       have hb1 := at8_string (HA.out.drew.below hd.below) cap
       have HE := Lib.hid (encode_calls v rs _ w1 hd.own (fun r hr => goodR_range (List.all_eq_true.1 hall r hr)) (by have := hd.few; simp at this; omega))
       clear hd hall)
    | (go_at_call 80; refine Calls.mono HE.out ?_; rintro e w2 ⟨v2, rfl, hown2, hbe⟩
       have HB2 : Hid (Below w.heap.size w w2) := undrew (HDD.out.below.trans (hbe.mono HDD.out.below.size))
       have hs2 := own_string hown2
       rw [HENC.out] at hs2
       have hb2 := at8_string (HA.out.below HB2.out) cap
       clear hown2 hbe))
  all_goals
    go_wp2
    go_ret
    exact ⟨rfl, HB2.out⟩

set_option maxHeartbeats 8000000 in
set_option maxRecDepth 1000000 in
theorem rquot_calls (l : List UInt8) (w : World) (hl : l.length ≤ 1000000) :
    Calls Tryz.prog 36 #[.string (sOf l)] w fun e w' => e = .returned (.bool (quotB l)) ∧ Below w.heap.size w w' := by
  have hsz : (sOf l).size = l.length := size_sOf l
  have kb := Lib.run_convert_string_bytes (P := Tryz.prog) w 9 34 5 (sOf l) Tryz.underlying9 Tryz.underlying34 Tryz.underlying5
  have hgc := grownCap_ge w l.length 0 5
  rw [hsz] at kb
  have hat : At8 (Lib.bytesWorld w 5 (sOf l)) w.heap.size 0 l := by
    intro j hj
    have h := rowB_new w (sOf l) j (by rw [data_sOf]; exact hj)
    rw [data_sOf] at h
    rw [Nat.zero_add]
    exact h.1
  have hbw := bytesWorld_below w 5 (sOf l)
  have HD := Lib.hid (decode_calls w.heap.size 0 (grownCap w l.length 0 5) l _ hl hgc hat)
  have HBW := Lib.hid hbw
  clear hat hbw
  generalize Lib.bytesWorld w 5 (sOf l) = w1 at *
  generalize grownCap w l.length 0 5 = cap1 at *
  go_enter Tryz.func36, Tryz.ntmps36
  go_wp2_with fail
  refine Calls.mono HD.out ?_
  rintro e w2 ⟨v, rs, rfl, hd⟩
  have HDD := Lib.hid hd
  obtain ⟨A, cap, rfl⟩ := valsI_len hd.own
  have hfew := hd.few
  clear hd HD kb
  simp only [List.length_nil, Nat.add_zero] at hfew
  go_wp2_with fail
  go_loopg [10] rs.length (fun g i wr => ∃ k : Nat, rs.length - k = g ∧ k ≤ rs.length ∧ i = .int .i64 k ∧ wr = w2 ∧ Hid ((rs.take k).all goodR = true))
  case atStart => exact ⟨0, by omega, by omega, rfl, rfl, rfl⟩
  case round =>
    obtain ⟨k, rfl, hk, rfl, rfl, HG⟩ := hrel
    by_cases hlt : k < rs.length
    · have hki : (k : Int) < (rs.length : Int) := by omega
      obtain ⟨g, cap', hv, hgl, hcell, hcap⟩ := valsI_at HDD.out.own k hlt
      injection hv with hA _ hC
      subst hA hC
      obtain ⟨r, hr⟩ : ∃ r, rs[k]'hlt = r := ⟨_, rfl⟩
      rw [hr] at hcell
      have HS : Hid ((rs.take (k + 1)).all goodR = goodR r) := by
        show _ = _
        rw [List.take_succ_eq_append_getElem hlt, hr, List.all_append, HG.out]
        simp
      have HBAD : Hid (goodR r = false → quotB l = false) := by
        intro hb
        have h := HDD.out.good
        rw [show quotB [] = true from rfl, Bool.and_true] at h
        rw [← h, ← Bool.not_eq_true, List.all_eq_true]
        intro hall
        rw [hall r (by rw [← hr]; exact List.getElem_mem hlt)] at hb
        cases hb
      clear hr
      by_cases u9 : r = 9
      · have HF : Hid ((rs.take (k + 1)).all goodR = true) := by
          show _ = _
          rw [HS.out, u9]
          rfl
        subst u9
        go_wp2
        go_roundg (rs.length - (k + 1))
        case measure => omega
        case rel => exact ⟨k + 1, rfl, by omega, by go_num, rfl, HF⟩
      · have u9b : (r == 9) = false := by simpa using u9
        by_cases u1 : r < 32
        · have HF : Hid (quotB l = false) := HBAD.out (by unfold goodR; rw [decide_eq_false u9, decide_eq_false (show ¬ 32 ≤ r by omega)]; rfl)
          go_wp2
          go_ret
          exact ⟨by rw [HF.out]; rfl, HBW.out.trans (HDD.out.below.mono HBW.out.size)⟩
        · by_cases u2 : r = 127
          · have HF : Hid (quotB l = false) := HBAD.out (by rw [u2]; rfl)
            subst u2
            go_wp2
            go_ret
            exact ⟨by rw [HF.out]; rfl, HBW.out.trans (HDD.out.below.mono HBW.out.size)⟩
          · have u2b : (r == 127) = false := by simpa using u2
            by_cases u3' : 255 < r
            · have HF : Hid (quotB l = false) := HBAD.out (by unfold goodR; rw [decide_eq_false u9, decide_eq_false (show ¬ r ≤ 255 by omega)]; simp)
              go_wp2
              go_ret
              exact ⟨by rw [HF.out]; rfl, HBW.out.trans (HDD.out.below.mono HBW.out.size)⟩
            · have HF : Hid ((rs.take (k + 1)).all goodR = true) := by
                show _ = _
                rw [HS.out]
                unfold goodR
                rw [decide_eq_false u9, decide_eq_true (show 32 ≤ r by omega), decide_eq_true (show r ≤ 255 by omega), decide_eq_false u2]
                rfl
              go_wp2
              go_roundg (rs.length - (k + 1))
              case measure => omega
              case rel => exact ⟨k + 1, rfl, by omega, by go_num, rfl, HF⟩
    · obtain rfl : k = rs.length := by omega
      have hki : ¬ ((rs.length : Int) < (rs.length : Int)) := by omega
      have HQ : Hid (quotB l = true) := by
        have h := HDD.out.good
        have h2 := HG.out
        rw [List.take_of_length_le (Nat.le_refl _)] at h2
        rw [h2, show quotB [] = true from rfl] at h
        exact h.symm
      have kb2 := Lib.run_convert_string_bytes (P := Tryz.prog) wr 9 34 5 (sOf l) Tryz.underlying9 Tryz.underlying34 Tryz.underlying5
      have hgc2 := grownCap_ge wr l.length 0 5
      rw [hsz] at kb2
      have hat2 : At8 (Lib.bytesWorld wr 5 (sOf l)) wr.heap.size 0 l := by
        intro j hj
        have h := rowB_new wr (sOf l) j (by rw [data_sOf]; exact hj)
        rw [data_sOf] at h
        rw [Nat.zero_add]
        exact h.1
      have HBW2 := Lib.hid (bytesWorld_below wr 5 (sOf l))
      have HV := Lib.hid (rvalid_calls wr.heap.size 0 (grownCap wr l.length 0 5) l _ hl hgc2 hat2 HQ.out)
      clear hat2
      generalize Lib.bytesWorld wr 5 (sOf l) = w4 at *
      generalize grownCap wr l.length 0 5 = cap2 at *
      go_wp2_with fail
      refine Calls.mono HV.out ?_
      rintro e w5 ⟨rfl, hb5⟩
      have HB5 := Lib.hid hb5
      clear hb5
      go_wp2_with fail
      go_ret
      refine ⟨by rw [HQ.out]; rfl, ?_⟩
      have h1 := HBW.out.trans (HDD.out.below.mono HBW.out.size)
      have h2 := HBW2.out.trans (HB5.out.mono HBW2.out.size)
      exact h1.trans (h2.mono h1.size)
end Go.Proofs.YtjmjmnagnbgmfaaGreatDoor
