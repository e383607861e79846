import Derived.Test.YtjmjmnagnbgmfaaGreatDoorS52
import Derived.Test.YtjmjmnagnbgmfaaGreatDoorS42
import Derived.Deep.RegionHeld3
import Derived.BigGuard
/-! MimeTells. -/
namespace Go.Proofs.YtjmjmnagnbgmfaaGreatDoor
open Go.RowKit Go.Shelf Go.Lib

set_option maxHeartbeats 16000000 in
set_option maxRecDepth 1000000 in
theorem law8_calls (a b : List UInt8) (A : Option Addr) (c : Nat) (ps : List Pm) (nm : List UInt8) (w : World) (ha : a.length ≤ 140737488351232) (hb : b.length ≤ 140737488351232) (hm2 : Mod2 ps) (hc : ps.length ≤ c) (hr : PRd w A ps) (hT : Tabs w) :
    Calls Tryz.prog 8 #[.agg #[.string (sOf a), .string (sOf b), .slice A ps.length c], .string (sOf nm)] w fun e w' => e = .returned (.bool true) ∧ Below w.heap.size w w' := by
  have HP := Lib.hid hr
  have HT := Lib.hid hT
  have HM2 := Lib.hid hm2
  clear hr hT hm2
  have hsz : (sOf nm).size = nm.length := size_sOf nm
  have HS0 : Hid (MS w (w.alloc (.cells #[.string (sOf a), .string (sOf b), .slice A ps.length c] 25)) w.heap.size (.string (sOf a)) (.string (sOf b)) (.slice A ps.length c)) :=
    ⟨(Below.refl _ w).alloc (Nat.le_refl _) _, Nat.le_refl _, heap_alloc_new w _⟩
  go_enter Tryz.func8, Tryz.ntmps8
  go_wp2_with fail
  refine (awake_calls _ (HT.out.below HS0.out.below)).mono ?_
  rintro e w1 ⟨rfl, hb1⟩
  have HS1 := Lib.hid (HS0.out.step hb1)
  clear hb1 HS0
  have c0 := HS1.out.c0
  have c1 := HS1.out.c1
  have c2 := HS1.out.c2
  go_wp2_with fail
  refine (few_calls a b A c ps w1 (HP.out.below HS1.out.below) ha hb HM2.out).mono ?_
  rintro e w2 ⟨rfl, hb2⟩
  have HS2 := Lib.hid (HS1.out.step hb2)
  clear hb2 HS1 c0 c1 c2
  have c0 := HS2.out.c0
  have c1 := HS2.out.c1
  have c2 := HS2.out.c2
  cases hf : fewB (a, b, ps) with
  | false =>
    clear hf
    go_wp2_with fail
    refine (awake_calls _ (HT.out.below HS2.out.below)).mono ?_
    rintro e w3 ⟨rfl, hb3⟩
    have HS3 := Lib.hid (HS2.out.step hb3)
    clear hb3
    go_wp2_with fail
    go_ret
    exact ⟨rfl, HS3.out.below⟩
  | true =>
    obtain ⟨f1, f2, _⟩ := few_mod hf
    have HMOD := Lib.hid (few_Mod hf)
    clear hf
    by_cases h200 : nm.length ≤ 200
    · have h5' : ¬ ((200 : Int) < (nm.length : Int)) := by omega
      go_wp2_with fail
      refine (get_calls (.string (sOf a)) (.string (sOf b)) A c ps nm w2 ⟨_, rfl⟩ ⟨_, rfl⟩ (HP.out.below HS2.out.below)).mono ?_
      rintro e w3 ⟨rfl, hb3⟩
      have HS3 := Lib.hid (HS2.out.step hb3)
      clear hb3 HS2 c0 c1 c2
      have c0 := HS3.out.c0
      have c1 := HS3.out.c1
      have c2 := HS3.out.c2
      have CG := Lib.hid (rget_calls A c ps nm w3 (HP.out.below HS3.out.below))
      generalize sOf (getB ps nm).1 = gv at *
      generalize (getB ps nm).2 = gb at *
      go_wp2_with fail
      refine Calls.mono CG.out ?_
      rintro e w' ⟨rfl, rfl⟩
      clear CG
      have HA6 : Hid (MS w w3.drew w.heap.size (.string (sOf a)) (.string (sOf b)) (.slice A ps.length c)) := HS3.out.step ⟨rfl, rfl, rfl, Nat.le_refl _, fun _ _ => rfl⟩
      have CR := Lib.hid (fun (W : World) (hW : PRd W A ps) (hT : Tabs W) => right13_calls a b A c ps W (by omega) (by omega) HMOD.out hc hW (by omega) hT)
      have CRR := Lib.hid (fun (W : World) (hW : PRd W A ps) => rright_calls a b A c ps W (by omega) (by omega) HMOD.out hc hW (by omega))
      have CP := Lib.hid (fun (W : World) (hW : PRd W A ps) => print_calls a b A c ps W (by omega) (by omega) HMOD.out hW (by omega))
      have CPP := Lib.hid (fun (W : World) (hW : PRd W A ps) => rprint_calls a b A c ps W (by omega) (by omega) HMOD.out hW (by omega))
      have CE := Lib.hid (fun (W : World) => essence_calls a b (.slice A ps.length c) W (by omega) (by omega))
      rw [show sOf (a ++ [47] ++ b) = sOf a ++ ⟨#[47]⟩ ++ sOf b by rw [← sOf_app, ← sOf_app]; rfl] at CE
      have e1 : (sOf a).size = a.length := size_sOf a
      have e2 : (sOf b).size = b.length := size_sOf b
      have g1 : ¬ 9223372036854775807 < (sOf a).size + 1 := by omega
      have g2 : ¬ 9223372036854775807 < (sOf a).size + 1 + (sOf b).size := by omega
      have g3 : ¬ 9223372036854775807 < a.length + 1 := by omega
      have g4 : ¬ 9223372036854775807 < a.length + 1 + b.length := by omega
      clear e1 e2
      generalize rightB (a, b, ps) = D at *
      generalize sOf (printB (a, b, ps)) = E at *
      clear HS3 c0 c1 c2
      go_wp2
      first | go_region_held3 (fun W => W.cell? ⟨w.heap.size, 0, none⟩ = some (.string (sOf a)) ∧ W.cell? ⟨w.heap.size, 1, none⟩ = some (.string (sOf b)) ∧ W.cell? ⟨w.heap.size, 2, none⟩ = some (.slice A ps.length c)) (first | exact ⟨HA6.out.c0, HA6.out.c1, HA6.out.c2⟩ | exact ⟨HA7.out.c0, HA7.out.c1, HA7.out.c2⟩ | exact ⟨HA8.out.c0, HA8.out.c1, HA8.out.c2⟩ | exact ⟨HA9.out.c0, HA9.out.c1, HA9.out.c2⟩ | exact ⟨HA10.out.c0, HA10.out.c1, HA10.out.c2⟩ | exact ⟨HA11.out.c0, HA11.out.c1, HA11.out.c2⟩) (first | (go_at_call 13; refine Calls.mono (CR.out _ (HP.out.below HA6.out.below) (HT.out.below HA6.out.below)) ?_; rintro e w7 ⟨rfl, hb7⟩; have HA7 := Lib.hid (HA6.out.step hb7); clear hb7) | (go_at_call 15; refine Calls.mono (CRR.out _ (HP.out.below HA7.out.below)) ?_; rintro e w8 ⟨rfl, hb8⟩; have HA8 := Lib.hid (HA7.out.step hb8); clear hb8) | (go_at_call 16; refine Calls.mono (CP.out _ (HP.out.below HA8.out.below)) ?_; rintro e w9 ⟨rfl, hb9⟩; have HA9 := Lib.hid (HA8.out.step hb9); clear hb9) | (go_at_call 20; refine Calls.mono (CPP.out _ (HP.out.below HA9.out.below)) ?_; rintro e w10 ⟨rfl, hb10⟩; have HA10 := Lib.hid (HA9.out.step hb10); clear hb10) | (go_at_call 21; refine Calls.mono (CE.out _) ?_; rintro e w11 ⟨rfl, hb11⟩; have HA11 := Lib.hid (HA10.out.step hb11); clear hb11)) | fail
      all_goals
        go_wp2
        go_ret
        exact ⟨rfl, HA11.out.below⟩
    · have h5' : (200 : Int) < (nm.length : Int) := by omega
      go_wp2_with fail
      refine (awake_calls _ (HT.out.below HS2.out.below)).mono ?_
      rintro e w3 ⟨rfl, hb3⟩
      have HS3 := Lib.hid (HS2.out.step hb3)
      clear hb3
      go_wp2_with fail
      go_ret
      exact ⟨rfl, HS3.out.below⟩
end Go.Proofs.YtjmjmnagnbgmfaaGreatDoor
