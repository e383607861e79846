import Derived.Test.YtjmjmnagnbgmfaaGreatDoorS42
import Derived.Deep.RegionHeld3
import Derived.BigGuard
/-! MimeSame. -/
namespace Go.Proofs.YtjmjmnagnbgmfaaGreatDoor
open Go.RowKit Go.Shelf Go.Lib

set_option maxHeartbeats 16000000 in
set_option maxRecDepth 1000000 in
theorem law5_calls (a b a' b' : List UInt8) (A A' : Option Addr) (c c' : Nat) (ps qs : List Pm) (w : World) (ha : a.length ≤ 140737488351232) (hb : b.length ≤ 140737488351232) (hm2 : Mod2 ps) (hc : ps.length ≤ c) (hr : PRd w A ps)
    (ha' : a'.length ≤ 140737488351232) (hb' : b'.length ≤ 140737488351232) (hm2' : Mod2 qs) (hc' : qs.length ≤ c') (hr' : PRd w A' qs) (hT : Tabs w) :
    Calls Tryz.prog 5 #[.agg #[.string (sOf a), .string (sOf b), .slice A ps.length c], .agg #[.string (sOf a'), .string (sOf b'), .slice A' qs.length c']] w fun e w' => e = .returned (.bool true) ∧ Below w.heap.size w w' := by
  have HPA := Lib.hid hr
  have HPB := Lib.hid hr'
  have HT := Lib.hid hT
  have HM2 := Lib.hid hm2
  have HM2' := Lib.hid hm2'
  clear hr hr' hT hm2 hm2'
  have HA0 : Hid (MS w ((w.alloc (.cells #[.string (sOf a), .string (sOf b), .slice A ps.length c] 25)).alloc (.cells #[.string (sOf a'), .string (sOf b'), .slice A' qs.length c'] 25)) w.heap.size (.string (sOf a)) (.string (sOf b)) (.slice A ps.length c)) :=
    MS.step ⟨(Below.refl _ w).alloc (Nat.le_refl _) _, Nat.le_refl _, heap_alloc_new w _⟩ ((Below.refl _ _).alloc (Nat.le_refl _) _)
  have HB0 : Hid (MS w ((w.alloc (.cells #[.string (sOf a), .string (sOf b), .slice A ps.length c] 25)).alloc (.cells #[.string (sOf a'), .string (sOf b'), .slice A' qs.length c'] 25)) (w.heap.size + 1) (.string (sOf a')) (.string (sOf b')) (.slice A' qs.length c')) := by
    have h := heap_alloc_new (w.alloc (.cells #[.string (sOf a), .string (sOf b), .slice A ps.length c] 25)) (.cells #[.string (sOf a'), .string (sOf b'), .slice A' qs.length c'] 25)
    rw [show (w.alloc (.cells #[.string (sOf a), .string (sOf b), .slice A ps.length c] 25)).heap.size = w.heap.size + 1 by simp] at h
    exact ⟨HA0.out.below, by omega, h⟩
  go_enter Tryz.func5, Tryz.ntmps5
  go_wp2_with fail
  refine (awake_calls _ (HT.out.below HA0.out.below)).mono ?_
  rintro e w1 ⟨rfl, hb1⟩
  have HA1 := Lib.hid (HA0.out.step hb1)
  have HB1 := Lib.hid (HB0.out.step hb1)
  clear hb1 HA0 HB0
  have g0 := HA1.out.c0
  have g1 := HA1.out.c1
  have g2 := HA1.out.c2
  have k0 := HB1.out.c0
  have k1 := HB1.out.c1
  have k2 := HB1.out.c2
  go_wp2_with fail
  refine (few_calls a b A c ps w1 (HPA.out.below HA1.out.below) ha hb HM2.out).mono ?_
  rintro e w2 ⟨rfl, hb2⟩
  have HA2 := Lib.hid (HA1.out.step hb2)
  have HB2 := Lib.hid (HB1.out.step hb2)
  clear hb2 HA1 HB1 g0 g1 g2 k0 k1 k2
  have g0 := HA2.out.c0
  have g1 := HA2.out.c1
  have g2 := HA2.out.c2
  have k0 := HB2.out.c0
  have k1 := HB2.out.c1
  have k2 := HB2.out.c2
  cases hf : fewB (a, b, ps) with
  | false =>
    clear hf
    go_wp2_with fail
    refine (awake_calls _ (HT.out.below HA2.out.below)).mono ?_
    rintro e w3 ⟨rfl, hb3⟩
    have HA3 := Lib.hid (HA2.out.step hb3)
    clear hb3
    go_wp2_with fail
    go_ret
    exact ⟨rfl, HA3.out.below⟩
  | true =>
    obtain ⟨f1, f2, _⟩ := few_mod hf
    have HMOD := Lib.hid (few_Mod hf)
    clear hf
    go_wp2_with fail
    refine (few_calls a' b' A' c' qs w2 (HPB.out.below HA2.out.below) ha' hb' HM2'.out).mono ?_
    rintro e w3 ⟨rfl, hb3⟩
    have HA3 := Lib.hid (HA2.out.step hb3)
    have HB3 := Lib.hid (HB2.out.step hb3)
    clear hb3 HA2 HB2 g0 g1 g2 k0 k1 k2
    have g0 := HA3.out.c0
    have g1 := HA3.out.c1
    have g2 := HA3.out.c2
    have k0 := HB3.out.c0
    have k1 := HB3.out.c1
    have k2 := HB3.out.c2
    cases hf' : fewB (a', b', qs) with
    | false =>
      clear hf'
      go_wp2_with fail
      refine (awake_calls _ (HT.out.below HA3.out.below)).mono ?_
      rintro e w4 ⟨rfl, hb4⟩
      have HA4 := Lib.hid (HA3.out.step hb4)
      clear hb4
      go_wp2_with fail
      go_ret
      exact ⟨rfl, HA4.out.below⟩
    | true =>
      obtain ⟨f1', f2', _⟩ := few_mod hf'
      have HMOD' := Lib.hid (few_Mod hf')
      clear hf'
      have CR := Lib.hid (rsame_calls (a, b, ps) (a', b', qs) A A' c c' w3 (HPA.out.below HA3.out.below) (HPB.out.below HA3.out.below))
      obtain ⟨D, hD⟩ : ∃ D, D = decide ((a, b, ps) = (a', b', qs)) := ⟨_, rfl⟩
      rw [← hD] at CR
      have HD := Lib.hid hD
      clear hD
      go_wp2_with fail
      refine Calls.mono CR.out ?_
      rintro e w4 ⟨rfl, hb4⟩
      have HA4 := Lib.hid (HA3.out.step hb4)
      have HB4 := Lib.hid (HB3.out.step hb4)
      clear hb4 HA3 HB3 g0 g1 g2 k0 k1 k2 CR
      have g0 := HA4.out.c0
      have g1 := HA4.out.c1
      have g2 := HA4.out.c2
      have k0 := HB4.out.c0
      have k1 := HB4.out.c1
      have k2 := HB4.out.c2
      have CS := Lib.hid (same_calls (a, b, ps) (a', b', qs) A A' c c' w4 (HPA.out.below HA4.out.below) hc (HPB.out.below HA4.out.below) hc')
      rw [← HD.out] at CS
      go_wp2_with fail
      refine Calls.mono CS.out ?_
      rintro e w5 ⟨rfl, hb5⟩
      have HA5 := Lib.hid (HA4.out.step hb5)
      have HB5 := Lib.hid (HB4.out.step hb5)
      clear hb5 HA4 HB4 g0 g1 g2 k0 k1 k2 CS
      have g0 := HA5.out.c0
      have g1 := HA5.out.c1
      have g2 := HA5.out.c2
      have k0 := HB5.out.c0
      have k1 := HB5.out.c1
      have k2 := HB5.out.c2
      have hDD : (D != D) = false := by cases D <;> rfl
      have HA6 : Hid (MS w w5.drew w.heap.size (.string (sOf a)) (.string (sOf b)) (.slice A ps.length c)) := HA5.out.step ⟨rfl, rfl, rfl, Nat.le_refl _, fun _ _ => rfl⟩
      have HB6 : Hid (MS w w5.drew (w.heap.size + 1) (.string (sOf a')) (.string (sOf b')) (.slice A' qs.length c')) := HB5.out.step ⟨rfl, rfl, rfl, Nat.le_refl _, fun _ _ => rfl⟩
      have CA := Lib.hid (fun (W : World) (hW : PRd W A ps) => rright_calls a b A c ps W (by omega) (by omega) HMOD.out hc hW (by omega))
      have CB := Lib.hid (fun (W : World) (hW : PRd W A' qs) => rright_calls a' b' A' c' qs W (by omega) (by omega) HMOD'.out hc' hW (by omega))
      have PA := Lib.hid (fun (W : World) (hW : PRd W A ps) => print_calls a b A c ps W (by omega) (by omega) HMOD.out hW (by omega))
      have PB := Lib.hid (fun (W : World) (hW : PRd W A' qs) => print_calls a' b' A' c' qs W (by omega) (by omega) HMOD'.out hW (by omega))
      clear g0 g1 g2 k0 k1 k2
      cases hRa : rightB (a, b, ps) with
      | false =>
        rw [hRa] at CA
        clear hRa CB PA PB
        go_wp2
        have g06 := HA6.out.c0
        have g16 := HA6.out.c1
        have g26 := HA6.out.c2
        first | go_region_with (first | (go_at_call_of 15 (sOf a); refine Calls.mono (CA.out _ (HPA.out.below HA6.out.below)) ?_; rintro e w7 ⟨rfl, hb7⟩; have HA7 := Lib.hid (HA6.out.step hb7); have HB7 := Lib.hid (HB6.out.step hb7); clear hb7; have g07 := HA7.out.c0; have g17 := HA7.out.c1; have g27 := HA7.out.c2; have k07 := HB7.out.c0; have k17 := HB7.out.c1; have k27 := HB7.out.c2)) | fail
        all_goals
          go_wp2
          go_ret
          exact ⟨rfl, HA7.out.below⟩
      | true =>
        rw [hRa] at CA
        cases hRb : rightB (a', b', qs) with
        | false =>
          rw [hRb] at CB
          clear hRa hRb PA PB
          go_wp2
          have g06 := HA6.out.c0
          have g16 := HA6.out.c1
          have g26 := HA6.out.c2
          first | go_region_with (first | (go_at_call_of 15 (sOf a); refine Calls.mono (CA.out _ (HPA.out.below HA6.out.below)) ?_; rintro e w7 ⟨rfl, hb7⟩; have HA7 := Lib.hid (HA6.out.step hb7); have HB7 := Lib.hid (HB6.out.step hb7); clear hb7; have g07 := HA7.out.c0; have g17 := HA7.out.c1; have g27 := HA7.out.c2; have k07 := HB7.out.c0; have k17 := HB7.out.c1; have k27 := HB7.out.c2) | (go_at_call_of 15 (sOf a'); refine Calls.mono (CB.out _ (HPB.out.below HB7.out.below)) ?_; rintro e w8 ⟨rfl, hb8⟩; have HA8 := Lib.hid (HA7.out.step hb8); have HB8 := Lib.hid (HB7.out.step hb8); clear hb8; have g08 := HA8.out.c0; have g18 := HA8.out.c1; have g28 := HA8.out.c2; have k08 := HB8.out.c0; have k18 := HB8.out.c1; have k28 := HB8.out.c2)) | fail
          all_goals
            go_wp2
            go_ret
            exact ⟨rfl, HA8.out.below⟩
        | true =>
          rw [hRb] at CB
          have HEQ : Hid (((sOf (printB (a, b, ps))).toList == (sOf (printB (a', b', qs))).toList) = D) := by
            show _ = _
            rw [toList_sOf, toList_sOf, HD.out]
            by_cases he : (a, b, ps) = (a', b', qs)
            · rw [he]; simp
            · have : ¬ printB (a, b, ps) = printB (a', b', qs) := fun h => he (print_inj hRa hRb h)
              simp [he, this]
          clear hRa hRb
          generalize sOf (printB (a, b, ps)) = E1 at *
          generalize sOf (printB (a', b', qs)) = E2 at *
          have heq := HEQ.out
          cases D with
          | true =>
            have heq2 : E1.toList = E2.toList := by simpa using heq
            go_wp2
            first | go_region_held3 (fun W => W.cell? ⟨w.heap.size, 0, none⟩ = some (.string (sOf a)) ∧ W.cell? ⟨w.heap.size, 1, none⟩ = some (.string (sOf b)) ∧ W.cell? ⟨w.heap.size, 2, none⟩ = some (.slice A ps.length c) ∧ W.cell? ⟨w.heap.size + 1, 0, none⟩ = some (.string (sOf a')) ∧ W.cell? ⟨w.heap.size + 1, 1, none⟩ = some (.string (sOf b')) ∧ W.cell? ⟨w.heap.size + 1, 2, none⟩ = some (.slice A' qs.length c')) (first | exact ⟨HA6.out.c0, HA6.out.c1, HA6.out.c2, HB6.out.c0, HB6.out.c1, HB6.out.c2⟩ | exact ⟨HA7.out.c0, HA7.out.c1, HA7.out.c2, HB7.out.c0, HB7.out.c1, HB7.out.c2⟩ | exact ⟨HA8.out.c0, HA8.out.c1, HA8.out.c2, HB8.out.c0, HB8.out.c1, HB8.out.c2⟩ | exact ⟨HA9.out.c0, HA9.out.c1, HA9.out.c2, HB9.out.c0, HB9.out.c1, HB9.out.c2⟩ | exact ⟨HA10.out.c0, HA10.out.c1, HA10.out.c2, HB10.out.c0, HB10.out.c1, HB10.out.c2⟩) (first | (go_at_call_of 15 (sOf a); refine Calls.mono (CA.out _ (HPA.out.below HA6.out.below)) ?_; rintro e w7 ⟨rfl, hb7⟩; have HA7 := Lib.hid (HA6.out.step hb7); have HB7 := Lib.hid (HB6.out.step hb7); clear hb7) | (go_at_call_of 15 (sOf a'); refine Calls.mono (CB.out _ (HPB.out.below HB7.out.below)) ?_; rintro e w8 ⟨rfl, hb8⟩; have HA8 := Lib.hid (HA7.out.step hb8); have HB8 := Lib.hid (HB7.out.step hb8); clear hb8) | (go_at_call_of 16 (sOf a); refine Calls.mono (PA.out _ (HPA.out.below HA8.out.below)) ?_; rintro e w9 ⟨rfl, hb9⟩; have HA9 := Lib.hid (HA8.out.step hb9); have HB9 := Lib.hid (HB8.out.step hb9); clear hb9) | (go_at_call_of 16 (sOf a'); refine Calls.mono (PB.out _ (HPB.out.below HB9.out.below)) ?_; rintro e w10 ⟨rfl, hb10⟩; have HA10 := Lib.hid (HA9.out.step hb10); have HB10 := Lib.hid (HB9.out.step hb10); clear hb10)) | fail
            all_goals
              go_wp2
              go_ret
              exact ⟨rfl, HA10.out.below⟩
          | false =>
            have heq2 : ¬ E1.toList = E2.toList := by simpa using heq
            go_wp2
            first | go_region_held3 (fun W => W.cell? ⟨w.heap.size, 0, none⟩ = some (.string (sOf a)) ∧ W.cell? ⟨w.heap.size, 1, none⟩ = some (.string (sOf b)) ∧ W.cell? ⟨w.heap.size, 2, none⟩ = some (.slice A ps.length c) ∧ W.cell? ⟨w.heap.size + 1, 0, none⟩ = some (.string (sOf a')) ∧ W.cell? ⟨w.heap.size + 1, 1, none⟩ = some (.string (sOf b')) ∧ W.cell? ⟨w.heap.size + 1, 2, none⟩ = some (.slice A' qs.length c')) (first | exact ⟨HA6.out.c0, HA6.out.c1, HA6.out.c2, HB6.out.c0, HB6.out.c1, HB6.out.c2⟩ | exact ⟨HA7.out.c0, HA7.out.c1, HA7.out.c2, HB7.out.c0, HB7.out.c1, HB7.out.c2⟩ | exact ⟨HA8.out.c0, HA8.out.c1, HA8.out.c2, HB8.out.c0, HB8.out.c1, HB8.out.c2⟩ | exact ⟨HA9.out.c0, HA9.out.c1, HA9.out.c2, HB9.out.c0, HB9.out.c1, HB9.out.c2⟩ | exact ⟨HA10.out.c0, HA10.out.c1, HA10.out.c2, HB10.out.c0, HB10.out.c1, HB10.out.c2⟩) (first | (go_at_call_of 15 (sOf a); refine Calls.mono (CA.out _ (HPA.out.below HA6.out.below)) ?_; rintro e w7 ⟨rfl, hb7⟩; have HA7 := Lib.hid (HA6.out.step hb7); have HB7 := Lib.hid (HB6.out.step hb7); clear hb7) | (go_at_call_of 15 (sOf a'); refine Calls.mono (CB.out _ (HPB.out.below HB7.out.below)) ?_; rintro e w8 ⟨rfl, hb8⟩; have HA8 := Lib.hid (HA7.out.step hb8); have HB8 := Lib.hid (HB7.out.step hb8); clear hb8) | (go_at_call_of 16 (sOf a); refine Calls.mono (PA.out _ (HPA.out.below HA8.out.below)) ?_; rintro e w9 ⟨rfl, hb9⟩; have HA9 := Lib.hid (HA8.out.step hb9); have HB9 := Lib.hid (HB8.out.step hb9); clear hb9) | (go_at_call_of 16 (sOf a'); refine Calls.mono (PB.out _ (HPB.out.below HB9.out.below)) ?_; rintro e w10 ⟨rfl, hb10⟩; have HA10 := Lib.hid (HA9.out.step hb10); have HB10 := Lib.hid (HB9.out.step hb10); clear hb10)) | fail
            all_goals
              go_wp2
              go_ret
              exact ⟨rfl, HA10.out.below⟩
end Go.Proofs.YtjmjmnagnbgmfaaGreatDoor
