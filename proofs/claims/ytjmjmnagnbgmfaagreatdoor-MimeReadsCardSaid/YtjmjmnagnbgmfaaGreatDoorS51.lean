import Derived.Test.YtjmjmnagnbgmfaaGreatDoorS50
import Derived.Test.YtjmjmnagnbgmfaaGreatDoorS24
/-! MimeReads. -/
namespace Go.Proofs.YtjmjmnagnbgmfaaGreatDoor
open Go.RowKit Go.Shelf Go.Lib

/-- What is read is no longer than the text. -/
theorem params_small (n : Nat) : ∀ (k : Nat) (out : List Pm) (l : List UInt8), l.length ≤ n → (∀ p ∈ out, p.1.length ≤ n ∧ p.2.length ≤ n) → (∀ p ∈ paramsB k out l, p.1.length ≤ n ∧ p.2.length ≤ n) ∧ (paramsB k out l).length ≤ out.length + l.length
  | 0, out, l, hl, ho => by cases l <;> exact ⟨ho, by simp [paramsB]⟩
  | k + 1, out, [], hl, ho => by rw [paramsB_nil]; exact ⟨ho, by simp⟩
  | k + 1, out, c0 :: t, hl, ho => by
    rw [paramsB_cons]
    have h1 := trimLeft_len t blanks
    have h2 := cutA_len (Lib.trimLeftS t blanks) [59, 61]
    generalize (cutA (Lib.trimLeftS t blanks) [59, 61]).2 = r0 at h2
    generalize (cutA (Lib.trimLeftS t blanks) [59, 61]).1 = n0 at h2
    simp only [List.length_cons] at hl ⊢
    cases r0 with
    | nil => exact ⟨ho, by simp [stepP]⟩
    | cons c r =>
      simp only [List.length_cons] at h2
      by_cases h61 : c.toNat = 61
      · rw [stepP_eq _ _ _ _ _ h61]
        have h3 := valueB_len r
        have hlen : (if ((valueB r).2.2 && !out.any fun x => x.1 == low n0) && isTok (low n0) && quotB (valueB r).1 then out ++ [(low n0, (valueB r).1)] else out).length ≤ out.length + 1 := by
          split
          · simp
          · omega
        have h4 := params_small n k (if ((valueB r).2.2 && !out.any fun x => x.1 == low n0) && isTok (low n0) && quotB (valueB r).1 then out ++ [(low n0, (valueB r).1)] else out) (valueB r).2.1 (by omega) (by
          split
          · intro p hp
            rcases List.mem_append.1 hp with hp | hp
            · exact ho p hp
            · rw [List.mem_singleton] at hp
              subst hp
              have := low_len n0
              exact ⟨by simp only; omega, by simp only; omega⟩
          · exact ho)
        exact ⟨h4.1, by omega⟩
      · rw [stepP_ne _ _ _ _ (by rintro ⟨t', c', e, h'⟩; injection e with e1 e2; subst e1; exact h61 h')]
        have h4 := params_small n k out (c :: r) (by simp; omega) ho
        refine ⟨h4.1, ?_⟩
        have := h4.2
        simp only [List.length_cons] at this
        omega
theorem parse_small (l : List UInt8) : (parseB l).1.1.length ≤ l.length ∧ (parseB l).1.2.1.length ≤ l.length ∧ (∀ p ∈ (parseB l).1.2.2, p.1.length ≤ l.length ∧ p.2.length ≤ l.length) ∧ (parseB l).1.2.2.length ≤ l.length := by
  unfold parseB
  generalize hn : namesB l = o
  cases o with
  | none => simp
  | some x =>
    obtain ⟨a, b, r⟩ := x
    unfold namesB at hn
    simp only at hn
    have h1 := trimS_len l blanks
    have h2 := cutB_len (Lib.trimS l blanks) 47
    have h3 := cutA_len (cutB (Lib.trimS l blanks) 47).2.1 [59]
    have h4 := trimRight_len (cutA (cutB (Lib.trimS l blanks) 47).2.1 [59]).1 blanks
    split at hn
    · simp only [Option.some.injEq, Prod.mk.injEq] at hn
      obtain ⟨e1, e2, e3⟩ := hn
      rw [e1] at h2
      rw [e2] at h4
      rw [e3] at h3
      have h5 := params_small l.length r.length [] r (by omega) (by simp)
      simp only [List.length_nil, Nat.zero_add] at h5
      have := low_len a
      have := low_len b
      exact ⟨by simp only; omega, by simp only; omega, h5.1, by simp only; omega⟩
    · cases hn

set_option maxHeartbeats 8000000 in
set_option maxRecDepth 1000000 in
theorem law3_calls (l : List UInt8) (w : World) (hT : Tabs w) :
    Calls Tryz.prog 3 #[.string (sOf l)] w fun e w' => e = .returned (.bool true) ∧ Below w.heap.size w w' := by
  have HT := Lib.hid hT
  have hsz : (sOf l).size = l.length := size_sOf l
  by_cases h5 : l.length ≤ 1000
  · have h5' : ¬ ((1000 : Int) < (l.length : Int)) := by omega
    have hl : l.length ≤ 1000000 := by omega
    have hsm := parse_small l
    have hrt := parse_right l
    have CP := Lib.hid (fun w hT => parse_calls l w hl hT)
    have CQ := Lib.hid (fun w => rparse_calls l w hl)
    generalize parseB l = M at *
    obtain ⟨⟨a, b, ps⟩, ok⟩ := M
    simp only at *
    obtain ⟨ha, hb, hmod, hn⟩ := hsm
    have HMOD : Hid (Mod ps) := fun p hp => by
      have := hmod p hp
      omega
    have HRT := Lib.hid hrt
    clear hmod hrt
    go_enter Tryz.func3, Tryz.ntmps3
    go_wp2_with fail
    refine (awake_calls w HT.out).mono ?_
    rintro e w1 ⟨rfl, hb1⟩
    have HB1 := Lib.hid hb1
    clear hb1
    go_wp2_with fail
    refine (CP.out _ (HT.out.below HB1.out)).mono ?_
    rintro e w2 ⟨v, rfl, hown, hb2⟩
    obtain ⟨A, c, rfl, hc, hrd⟩ := prd_of_own hown
    have hA : Below w2.heap.size w2 (w2.alloc (.cells #[.string (sOf a), .string (sOf b), .slice A ps.length c] 25)) := (Below.refl _ w2).alloc (Nat.le_refl _) _
    have HB2 : Hid (Below w.heap.size w w2) := HB1.out.trans (hb2.mono HB1.out.size)
    have HM1 : Hid (MS w (w2.alloc (.cells #[.string (sOf a), .string (sOf b), .slice A ps.length c] 25)) w2.heap.size (.string (sOf a)) (.string (sOf b)) (.slice A ps.length c)) := ⟨HB2.out.alloc HB2.out.size _, HB2.out.size, heap_alloc_new w2 _⟩
    have HR1 := Lib.hid (hrd.below hA)
    clear hown hrd hb2 hA HB2 HB1 CP
    go_wp2_with fail
    refine (CQ.out _).mono ?_
    rintro e w3 ⟨v', rfl, hown', hb3⟩
    obtain ⟨A', c', rfl, hc', hrd'⟩ := prd_of_own hown'
    have hA2 : Below w3.heap.size w3 (w3.alloc (.cells #[.string (sOf a), .string (sOf b), .slice A' ps.length c'] 25)) := (Below.refl _ w3).alloc (Nat.le_refl _) _
    have HM2 := HM1.out.step hb3
    have HM3 := Lib.hid (HM2.step hA2)
    have HN3 : Hid (MS w (w3.alloc (.cells #[.string (sOf a), .string (sOf b), .slice A' ps.length c'] 25)) w3.heap.size (.string (sOf a)) (.string (sOf b)) (.slice A' ps.length c')) := ⟨HM3.out.below, HM2.below.size, heap_alloc_new w3 _⟩
    have HR3 := Lib.hid ((HR1.out.below hb3).below hA2)
    have HR4 := Lib.hid (hrd'.below hA2)
    clear hown' hrd' hb3 hA2 HM2 HM1 HR1 CQ
    have g0 := HM3.out.c0
    have g1 := HM3.out.c1
    have g2 := HM3.out.c2
    have k0 := HN3.out.c0
    have k1 := HN3.out.c1
    have k2 := HN3.out.c2
    have CS := Lib.hid (rsame_calls (a, b, ps) (a, b, ps) A A' c c' _ HR3.out HR4.out)
    rw [decide_eq_true rfl] at CS
    cases ok with
    | false =>
      go_wp2_with fail
      refine Calls.mono CS.out ?_
      rintro e w5 ⟨rfl, hb5⟩
      have HM5 := Lib.hid (HM3.out.step hb5)
      clear hb5
      go_wp2_with fail
      go_ret
      exact ⟨rfl, HM5.out.below⟩
    | true =>
      go_wp2_with fail
      refine Calls.mono CS.out ?_
      rintro e w5 ⟨rfl, hb5⟩
      have HM5 := Lib.hid (HM3.out.step hb5)
      have HR5 := Lib.hid (HR3.out.below hb5)
      clear hb5 g0 g1 g2 k0 k1 k2 CS
      have g0 := HM5.out.c0
      have g1 := HM5.out.c1
      have g2 := HM5.out.c2
      have CR := Lib.hid (right13_calls a b A c ps w5 (by omega) (by omega) HMOD.out hc HR5.out (by omega) (HT.out.below HM5.out.below))
      rw [HRT.out (by trivial)] at CR
      go_wp2_with fail
      refine Calls.mono CR.out ?_
      rintro e w6 ⟨rfl, hb6⟩
      have HM6 := Lib.hid (HM5.out.step hb6)
      clear hb6
      go_wp2_with fail
      go_ret
      exact ⟨rfl, HM6.out.below⟩
  · have h5' : (1000 : Int) < (l.length : Int) := by omega
    go_enter Tryz.func3, Tryz.ntmps3
    go_wp2_with fail
    refine (awake_calls w HT.out).mono ?_
    rintro e w1 ⟨rfl, hb1⟩
    have HB1 := Lib.hid hb1
    clear hb1
    go_wp2_with fail
    refine (awake_calls w1 (HT.out.below HB1.out)).mono ?_
    rintro e w2 ⟨rfl, hb2⟩
    have HB2 := Lib.hid (HB1.out.trans (hb2.mono HB1.out.size))
    clear hb2
    go_wp2_with fail
    go_ret
    exact ⟨rfl, HB2.out⟩
end Go.Proofs.YtjmjmnagnbgmfaaGreatDoor
