import Derived.Test.YtjmjmnagnbgmfaaGreatDoorS41
import Derived.Test.YtjmjmnagnbgmfaaGreatDoorS30
import Derived.Test.YtjmjmnagnbgmfaaGreatDoorS24
/-! MimeBack. -/
namespace Go.Proofs.YtjmjmnagnbgmfaaGreatDoor
open Go.RowKit Go.Shelf Go.Lib

theorem few_mod {a b : List UInt8} {ps : List Pm} (h : fewB (a, b, ps) = true) : a.length + b.length ≤ 200 ∧ ps.length ≤ 20 ∧ (∀ p ∈ ps, p.1.length + p.2.length ≤ 200) := by
  simp only [fewB, Bool.and_eq_true, List.all_eq_true, decide_eq_true_eq] at h
  exact ⟨h.2.2, h.2.1, h.1⟩
theorem few_Mod {a b : List UInt8} {ps : List Pm} (h : fewB (a, b, ps) = true) : Mod ps := fun p hp => by
  have := (few_mod h).2.2 p hp
  omega
theorem all_few : ∀ (ps : List Pm), (∀ p ∈ ps, p.1.length + p.2.length ≤ 200) → (allPrint ps).length ≤ 1000 * ps.length
  | [], _ => by simp [allPrint]
  | p :: t, h => by
    have h1 := all_few t (fun q hq => h q (List.mem_cons_of_mem _ hq))
    have h2 := h p (List.mem_cons_self ..)
    have h3 := quoteB_len p.2
    have h4 : (onePrint p).length ≤ 1000 := by
      simp only [onePrint, List.length_append, List.length_singleton]
      split <;> omega
    simp only [allPrint, List.length_append, List.length_cons]
    omega
theorem print_few {a b : List UInt8} {ps : List Pm} (h : fewB (a, b, ps) = true) : (printB (a, b, ps)).length ≤ 30000 := by
  obtain ⟨h1, h2, h3⟩ := few_mod h
  have h4 := all_few ps h3
  rw [printB_eq]
  simp only [List.length_append, List.length_cons]
  omega

set_option maxHeartbeats 8000000 in
set_option maxRecDepth 1000000 in
theorem law4_calls (a b : List UInt8) (A : Option Addr) (c : Nat) (ps : List Pm) (w : World) (ha : a.length ≤ 140737488351232) (hb : b.length ≤ 140737488351232) (hm2 : Mod2 ps) (hc : ps.length ≤ c) (hr : PRd w A ps) (hT : Tabs w) :
    Calls Tryz.prog 4 #[.agg #[.string (sOf a), .string (sOf b), .slice A ps.length c]] w fun e w' => e = .returned (.bool true) ∧ Below w.heap.size w w' := by
  have HP := Lib.hid hr
  have HT := Lib.hid hT
  have HM2 := Lib.hid hm2
  clear hr hT hm2
  have HS0 : Hid (MS w (w.alloc (.cells #[.string (sOf a), .string (sOf b), .slice A ps.length c] 25)) w.heap.size (.string (sOf a)) (.string (sOf b)) (.slice A ps.length c)) :=
    ⟨(Below.refl _ w).alloc (Nat.le_refl _) _, Nat.le_refl _, heap_alloc_new w _⟩
  go_enter Tryz.func4, Tryz.ntmps4
  go_wp2_with fail
  refine (awake_calls _ (HT.out.below HS0.out.below)).mono ?_
  rintro e w1 ⟨rfl, hb1⟩
  have HS1 := Lib.hid (HS0.out.step hb1)
  clear hb1 HS0
  have c0 := HS1.out.c0
  have c1 := HS1.out.c1
  have c2 := HS1.out.c2
  go_wp2_with fail
  refine (few_calls a b A c ps w1 (HP.out.below HS1.out.below) ha hb HM2.out).mono ?_
  rintro e w2 ⟨rfl, hb2⟩
  have HS2 := Lib.hid (HS1.out.step hb2)
  clear hb2 HS1 c0 c1 c2
  have c0 := HS2.out.c0
  have c1 := HS2.out.c1
  have c2 := HS2.out.c2
  cases hf : fewB (a, b, ps) with
  | false =>
    clear hf
    go_wp2_with fail
    refine (awake_calls _ (HT.out.below HS2.out.below)).mono ?_
    rintro e w3 ⟨rfl, hb3⟩
    have HS3 := Lib.hid (HS2.out.step hb3)
    clear hb3
    go_wp2_with fail
    go_ret
    exact ⟨rfl, HS3.out.below⟩
  | true =>
    obtain ⟨f1, f2, f3⟩ := few_mod hf
    have HMOD := Lib.hid (few_Mod hf)
    have HPL := Lib.hid (print_few hf)
    clear hf f3
    go_wp2_with fail
    refine (rright_calls a b A c ps w2 (by omega) (by omega) HMOD.out hc (HP.out.below HS2.out.below) (by omega)).mono ?_
    rintro e w3 ⟨rfl, hb3⟩
    have HS3 := Lib.hid (HS2.out.step hb3)
    clear hb3 HS2 c0 c1 c2
    have c0 := HS3.out.c0
    have c1 := HS3.out.c1
    have c2 := HS3.out.c2
    cases hR : rightB (a, b, ps) with
    | false =>
      clear hR
      go_wp2_with fail
      refine (awake_calls _ (HT.out.below HS3.out.below)).mono ?_
      rintro e w4 ⟨rfl, hb4⟩
      have HS4 := Lib.hid (HS3.out.step hb4)
      clear hb4
      go_wp2_with fail
      go_ret
      exact ⟨rfl, HS4.out.below⟩
    | true =>
      have HPP := Lib.hid (parse_print (a, b, ps) hR)
      clear hR
      go_wp2_with fail
      refine (print_calls a b A c ps w3 (by omega) (by omega) HMOD.out (HP.out.below HS3.out.below) (by omega)).mono ?_
      rintro e w4 ⟨rfl, hb4⟩
      have HS4 := Lib.hid (HS3.out.step hb4)
      clear hb4 HS3 c0 c1 c2
      have CP := parse_calls (printB (a, b, ps)) w4 (by have := HPL.out; omega) (HT.out.below HS4.out.below)
      rw [HPP.out] at CP
      have HCP := Lib.hid CP
      clear CP
      generalize sOf (printB (a, b, ps)) = E at *
      go_wp2_with fail
      refine Calls.mono HCP.out ?_
      rintro e w5 ⟨v5, rfl, hown5, hb5⟩
      obtain ⟨A5, c5, rfl, hc5, hrd5⟩ := prd_of_own hown5
      have HE := Lib.hid (twoA (c5 := c5) HS4.out (HP.out.below HS4.out.below) (show Below w4.drew.heap.size w4.drew w5 from ⟨hb5.os, hb5.tape, hb5.output, hb5.size, hb5.block⟩) hrd5)
      clear hown5 hb5 hrd5 HS4 HCP
      simp only at *
      have g0 := HE.out.m.c0
      have g1 := HE.out.m.c1
      have g2 := HE.out.m.c2
      have k0 := HE.out.n.c0
      have k1 := HE.out.n.c1
      have k2 := HE.out.n.c2
      have CS := Lib.hid (same_calls (a, b, ps) (a, b, ps) A5 A c5 c _ HE.out.rn hc5 HE.out.rm hc)
      rw [decide_eq_true rfl] at CS
      go_wp2_with fail
      refine Calls.mono CS.out ?_
      rintro e w6 ⟨rfl, hb6⟩
      have HM6 := Lib.hid (HE.out.m.step hb6)
      have HN6 := Lib.hid (HE.out.n.step hb6)
      have HR6 := Lib.hid (HE.out.rm.below hb6)
      have HR7 := Lib.hid (HE.out.rn.below hb6)
      clear hb6 HE g0 g1 g2 k0 k1 k2 CS
      have g0 := HM6.out.c0
      have g1 := HM6.out.c1
      have g2 := HM6.out.c2
      have k0 := HN6.out.c0
      have k1 := HN6.out.c1
      have k2 := HN6.out.c2
      have CR := Lib.hid (rsame_calls (a, b, ps) (a, b, ps) A5 A c5 c w6 HR7.out HR6.out)
      rw [decide_eq_true rfl] at CR
      go_wp2_with fail
      refine Calls.mono CR.out ?_
      rintro e w7 ⟨rfl, hb7⟩
      have HM7 := Lib.hid (HM6.out.step hb7)
      clear hb7
      go_wp2_with fail
      go_ret
      exact ⟨rfl, HM7.out.below⟩
end Go.Proofs.YtjmjmnagnbgmfaaGreatDoor
