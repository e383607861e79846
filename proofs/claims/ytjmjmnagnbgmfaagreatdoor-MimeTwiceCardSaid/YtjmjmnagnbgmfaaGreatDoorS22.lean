import Derived.Test.YtjmjmnagnbgmfaaGreatDoorS12
import Derived.Laws.StructEq
import Derived.BigQuiet
/-! slices.Equal of parameters, mime.Same, mime.Get. -/
namespace Go.Proofs.YtjmjmnagnbgmfaaGreatDoor
open Go.RowKit Go.Shelf Go.Lib

theorem eq36 (a b a' b' : ByteArray) (W : World) : (Op.equalIn 10000 36 (.agg #[.string a, .string b]) (.agg #[.string a', .string b'])).run Tryz.prog W = .ok (a.toList == a'.toList && b.toList == b'.toList) W := by
  have hf : Tryz.prog.fieldsOf 36 = #[{ name := "Name", type := 9, offset := 0, embedded := false, tag := "", pkgPath := "", byteOffset := 0 }, { name := "Value", type := 9, offset := 1, embedded := false, tag := "", pkgPath := "", byteOffset := 16 }] := by kernel_rfl
  rw [run_equalIn_struct (P := Tryz.prog) W 9999 36 _ _ (by rw [hf]; exact Tryz.underlying36) (by kernel_rfl), hf]
  have s1 := fun x y => run_equalIn_string (P := Tryz.prog) W 9998 9 x y Tryz.underlying9
  have z9 := Tryz.sizeOf9
  have a9 := Tryz.isAgg9
  simp [Op.eqFields, part, s1, Result.andThen, go_sem]
  by_cases h1 : a.toList = a'.toList
  · by_cases h2 : b.toList = b'.toList
    · simp [h1, h2]
    · simp [h1, h2]
  · simp [h1]
theorem neq36 (p q : Pm) (W : World) : (binOp .neq 36 (.agg #[.string (sOf p.1), .string (sOf p.2)]) (.agg #[.string (sOf q.1), .string (sOf q.2)])).run Tryz.prog W = .ok (.bool (!decide (p = q))) W := by
  rw [run_neq_struct, eq36, toList_sOf, toList_sOf, toList_sOf, toList_sOf]
  show Result.ok (Value.bool (!(p.1 == q.1 && p.2 == q.2))) W = _
  congr 3
  by_cases h1 : p.1 = q.1
  · by_cases h2 : p.2 = q.2
    · have : p = q := Prod.ext h1 h2
      subst this
      simp
    · have : p ≠ q := fun e => h2 (by rw [e])
      simp [h1, h2, this]
  · have : p ≠ q := fun e => h1 (by rw [e])
    simp [h1, this]

set_option maxHeartbeats 8000000 in
set_option maxRecDepth 1000000 in
theorem equal_calls (A A' : Option Addr) (c c' : Nat) (ps qs : List Pm) (w : World) (hr : PRd w A ps) (hc : ps.length ≤ c) (hr' : PRd w A' qs) (hc' : qs.length ≤ c') :
    Calls Tryz.prog 45 #[.slice A ps.length c, .slice A' qs.length c'] w fun e w' => e = .returned (.bool (decide (ps = qs))) ∧ Below w.heap.size w w' := by
  have HP := Lib.hid hr
  have HQ := Lib.hid hr'
  have hm := hr.1
  clear hr hr'
  by_cases hl : ps.length = qs.length
  · obtain ⟨N, hN⟩ : ∃ N, ps.length = N := ⟨_, rfl⟩
    have hN' : qs.length = N := by omega
    rw [hN] at hc hm ⊢
    rw [hN'] at hc' ⊢
    go_enter Tryz.func45, Tryz.ntmps45
    clear hl
    have HN := Lib.hid hN
    have HN' := Lib.hid hN'
    clear hN hN'
    go_wp2
    go_loopg [13] N (fun g i wr => ∃ k : Nat, N - k = g ∧ k ≤ N ∧ i = .int .i64 k ∧ (∃ n, wr = w.drewN n) ∧ Hid (ps.take k = qs.take k))
    case atStart => exact ⟨0, by omega, by omega, rfl, ⟨0, rfl⟩, rfl⟩
    case round =>
      obtain ⟨k, rfl, hk, rfl, ⟨n, rfl⟩, HT⟩ := hrel
      by_cases hltN : k < N
      · have hki : (k : Int) < (N : Int) := by omega
        have hk2 : decide ((k : Int) < (N : Int)) = true := by simp; omega
        have hlt : k < ps.length := by rw [HN.out]; exact hltN
        have hk0 : decide ((0 : Int) ≤ (k : Int)) = true := by simp
        have hlt' : k < qs.length := by rw [HN'.out]; exact hltN
        obtain ⟨pn, pv, hp⟩ : ∃ nm v, ps[k]'hlt = (nm, v) := ⟨_, _, rfl⟩
        obtain ⟨qn, qv, hq⟩ : ∃ nm v, qs[k]'hlt' = (nm, v) := ⟨_, _, rfl⟩
        have hpk : ps[k]? = some (pn, pv) := by rw [List.getElem?_eq_getElem hlt, hp]
        have hqk : qs[k]? = some (qn, qv) := by rw [List.getElem?_eq_getElem hlt', hq]
        obtain ⟨bl, off, rfl, hbl, hcells⟩ := HP.out.2 (by rw [HN.out]; omega)
        obtain ⟨bl', off', rfl, hbl', hcells'⟩ := HQ.out.2 (by rw [HN'.out]; omega)
        have d0 := hcells k (pn, pv) hpk 0 _ rfl
        have d1 := hcells k (pn, pv) hpk 1 _ rfl
        have f0 := hcells' k (qn, qv) hqk 0 _ rfl
        have f1 := hcells' k (qn, qv) hqk 1 _ rfl
        rw [Nat.add_zero] at d0 f0
        have hne := neq36 (pn, pv) (qn, qv)
        have HT2 : Hid ((ps.take (k + 1) = qs.take (k + 1)) ↔ (pn, pv) = (qn, qv)) := by
          show _ ↔ _
          have HT' : ps.take k = qs.take k := HT.out
          rw [List.take_succ_eq_append_getElem hlt, List.take_succ_eq_append_getElem hlt', hp, hq, HT']
          simp
        clear hcells hcells' hp hq hpk hqk hlt hlt'
        by_cases he : (pn, pv) = (qn, qv)
        · rw [decide_eq_true he] at hne
          go_wp2
          go_quiet (fail)
          go_wp2
          go_roundg (N - (k + 1))
          case measure => omega
          case rel => exact ⟨k + 1, rfl, by omega, by go_num, ⟨_, rfl⟩, HT2.out.2 he⟩
        · rw [decide_eq_false he] at hne
          have hF : Hid (decide (ps = qs) = false) := by
            refine decide_eq_false fun e => he (HT2.out.1 ?_)
            rw [e]
          go_wp2
          go_quiet (fail)
          go_wp2
          go_ret
          exact ⟨by rw [hF.out]; rfl, ⟨rfl, rfl, rfl, Nat.le_refl _, fun _ _ => rfl⟩⟩
      · obtain rfl : k = N := by omega
        have hF : Hid (decide (ps = qs) = true) := by
          refine decide_eq_true ?_
          have h := HT.out
          rw [List.take_of_length_le (by rw [HN.out]; exact Nat.le_refl _), List.take_of_length_le (by rw [HN'.out]; exact Nat.le_refl _)] at h
          exact h
        have hki : ¬ ((k : Int) < (k : Int)) := by omega
        go_wp2
        go_ret
        exact ⟨by rw [hF.out]; rfl, ⟨rfl, rfl, rfl, Nat.le_refl _, fun _ _ => rfl⟩⟩
  · have hF : Hid (decide (ps = qs) = false) := decide_eq_false fun e => hl (by rw [e])
    have hne : ¬ ((ps.length : Int) = (qs.length : Int)) := by omega
    have hne2 : ((ps.length : Int) != (qs.length : Int)) = true := by simp; omega
    go_enter Tryz.func45, Tryz.ntmps45
    go_wp2
    go_ret
    exact ⟨by rw [hF.out]; rfl, Below.refl _ w⟩

set_option maxHeartbeats 8000000 in
set_option maxRecDepth 1000000 in
theorem same_calls (m n : Mm) (A A' : Option Addr) (c c' : Nat) (w : World) (hr : PRd w A m.2.2) (hc : m.2.2.length ≤ c) (hr' : PRd w A' n.2.2) (hc' : n.2.2.length ≤ c') :
    Calls Tryz.prog 17 #[.agg #[.string (sOf m.1), .string (sOf m.2.1), .slice A m.2.2.length c], .agg #[.string (sOf n.1), .string (sOf n.2.1), .slice A' n.2.2.length c']] w fun e w' => e = .returned (.bool (decide (m = n))) ∧ Below w.heap.size w w' := by
  obtain ⟨a, b, ps⟩ := m
  obtain ⟨a', b', qs⟩ := n
  simp only at *
  have HP := Lib.hid hr
  have HQ := Lib.hid hr'
  clear hr hr'
  have hW : Below w.heap.size w ((w.alloc (.cells #[.string (sOf a), .string (sOf b), .slice A ps.length c] 25)).alloc (.cells #[.string (sOf a'), .string (sOf b'), .slice A' qs.length c'] 25)) := ((Below.refl _ w).alloc (Nat.le_refl _) _).alloc (by simp) _
  have CE := Lib.hid (equal_calls A A' c c' ps qs _ (HP.out.below hW) hc (HQ.out.below hW) hc')
  have HW := Lib.hid hW
  clear hW
  by_cases h1 : a = a'
  · have e1 : ((sOf a).toList == (sOf a').toList) = true := by rw [toList_sOf, toList_sOf]; simp [h1]
    have e1' : (sOf a).toList = (sOf a').toList := by rw [toList_sOf, toList_sOf]; exact h1
    by_cases h2 : b = b'
    · have e2 : ((sOf b).toList == (sOf b').toList) = true := by rw [toList_sOf, toList_sOf]; simp [h2]
      have e2' : (sOf b).toList = (sOf b').toList := by rw [toList_sOf, toList_sOf]; exact h2
      have hF : Hid (decide ((a, b, ps) = (a', b', qs)) = decide (ps = qs)) := by
        show _ = _
        rw [h1, h2]
        by_cases h3 : ps = qs <;> simp [h3]
      clear h1 h2
      go_enter Tryz.func17, Tryz.ntmps17
      go_wp2_with fail
      refine Calls.mono CE.out ?_
      rintro e w3 ⟨rfl, hb3⟩
      have HB3 := Lib.hid (HW.out.trans (hb3.mono (by simp; omega)))
      clear hb3
      have HD := Lib.hid hF.out
      generalize decide (ps = qs) = D at *
      go_wp2_with fail
      go_ret
      exact ⟨by rw [hF.out]; rfl, HB3.out⟩
    · have e2 : ((sOf b).toList == (sOf b').toList) = false := by rw [toList_sOf, toList_sOf]; simp [h2]
      have e2' : ¬ (sOf b).toList = (sOf b').toList := by rw [toList_sOf, toList_sOf]; exact h2
      have hF : Hid (decide ((a, b, ps) = (a', b', qs)) = false) := decide_eq_false (fun e => h2 (by simp only [Prod.mk.injEq] at e; exact e.2.1))
      clear h1 h2
      go_enter Tryz.func17, Tryz.ntmps17
      go_wp2_with fail
      go_ret
      exact ⟨by rw [hF.out]; rfl, HW.out⟩
  · have e1 : ((sOf a).toList == (sOf a').toList) = false := by rw [toList_sOf, toList_sOf]; simp [h1]
    have e1' : ¬ (sOf a).toList = (sOf a').toList := by rw [toList_sOf, toList_sOf]; exact h1
    have hF : Hid (decide ((a, b, ps) = (a', b', qs)) = false) := decide_eq_false (fun e => h1 (by simp only [Prod.mk.injEq] at e; exact e.1))
    clear h1
    go_enter Tryz.func17, Tryz.ntmps17
    go_wp2_with fail
    go_ret
    exact ⟨by rw [hF.out]; rfl, HW.out⟩
end Go.Proofs.YtjmjmnagnbgmfaaGreatDoor
