import Derived.Test.YtjmjmnagnbgmfaaGreatDoorS22
import Derived.Test.YtjmjmnagnbgmfaaGreatDoorS32
/-! The reference's Get, Few, Same. -/
namespace Go.Proofs.YtjmjmnagnbgmfaaGreatDoor
open Go.RowKit Go.Shelf Go.Lib

/-- The value of the first parameter of a name. -/
def getB : List Pm → List UInt8 → List UInt8 × Bool
  | [], _ => ([], false)
  | p :: t, nm => if p.1 = nm then (p.2, true) else getB t nm
theorem getB_any (ps : List Pm) (nm : List UInt8) : (getB ps nm).2 = ps.any (fun x => x.1 == nm) := by
  induction ps with
  | nil => rfl
  | cons p t ih =>
    unfold getB
    by_cases h : p.1 = nm
    · simp [h]
    · simp [h, ih]

set_option maxHeartbeats 4000000 in
set_option maxRecDepth 100000 in
theorem rget_calls (A : Option Addr) (c : Nat) (ps : List Pm) (nm : List UInt8) (w : World) (hr : PRd w A ps) :
    Calls Tryz.prog 19 #[.slice A ps.length c, .string (sOf nm)] w fun e w' => e = .returned (.tuple #[.string (sOf (getB ps nm).1), .bool (getB ps nm).2]) ∧ w = w' := by
  have HP := Lib.hid hr
  have hm := hr.1
  clear hr
  obtain ⟨R, hR⟩ : ∃ R, R = getB ps nm := ⟨_, rfl⟩
  rw [← hR]
  have HR := Lib.hid hR
  clear hR
  go_enter Tryz.func19, Tryz.ntmps19
  go_wp2
  go_loopg [9] ps.length (fun g i wr => ∃ k : Nat, ps.length - k = g ∧ k ≤ ps.length ∧ i = .int .i64 k ∧ w = wr ∧ Hid (getB (ps.drop k) nm = R))
  case atStart => exact ⟨0, by omega, by omega, rfl, rfl, HR.out.symm⟩
  case round =>
    obtain ⟨k, rfl, hk, rfl, rfl, HG⟩ := hrel
    by_cases hlt : k < ps.length
    · have hki : (k : Int) < (ps.length : Int) := by omega
      obtain ⟨pn, pv, hp⟩ : ∃ nm v, ps[k]'hlt = (nm, v) := ⟨_, _, rfl⟩
      have hpk : ps[k]? = some (pn, pv) := by rw [List.getElem?_eq_getElem hlt, hp]
      obtain ⟨bl, off, rfl, hbl, hcells⟩ := HP.out.2 (by omega)
      have d0 := hcells k (pn, pv) hpk 0 _ rfl
      have d1 := hcells k (pn, pv) hpk 1 _ rfl
      rw [Nat.add_zero] at d0
      have HD : Hid (R = if pn = nm then (pv, true) else getB (ps.drop (k + 1)) nm) := by
        show _ = _
        rw [← HG.out, List.drop_eq_getElem_cons hlt, hp]
        rfl
      have he : ((sOf pn).toList == (sOf nm).toList) = decide (pn = nm) := by
        rw [toList_sOf, toList_sOf]
        by_cases h : pn = nm
        · simp [h]
        · simp [h]
      have he2 : ((sOf pn).toList = (sOf nm).toList) = (pn = nm) := by rw [toList_sOf, toList_sOf]
      clear hcells hp hpk
      by_cases h : pn = nm
      · have HF : Hid (R = (pv, true)) := by
          show _ = _
          rw [HD.out, if_pos h]
        rw [decide_eq_true h] at he
        have he3 : (sOf pn).toList = (sOf nm).toList := by rw [he2]; exact h
        clear he2 h
        go_wp2
        go_ret2
        exact ⟨by rw [HF.out]; rfl, rfl⟩
      · have HF : Hid (getB (ps.drop (k + 1)) nm = R) := by
          show _ = _
          rw [HD.out, if_neg h]
        rw [decide_eq_false h] at he
        have he3 : ¬ (sOf pn).toList = (sOf nm).toList := by rw [he2]; exact h
        clear he2 h
        go_wp2
        go_roundg (ps.length - (k + 1))
        case measure => omega
        case rel => exact ⟨k + 1, rfl, by omega, by go_num, rfl, HF⟩
    · obtain rfl : k = ps.length := by omega
      have hki : ¬ ((ps.length : Int) < (ps.length : Int)) := by omega
      have HF : Hid (R = ([], false)) := by
        show _ = _
        rw [← HG.out, List.drop_eq_nil_of_le (Nat.le_refl _)]
        rfl
      go_wp2
      go_ret2
      exact ⟨by rw [HF.out]; rfl, rfl⟩

/-- Few parameters, with short texts. -/
def fewB (m : Mm) : Bool := m.2.2.all (fun p => decide (p.1.length + p.2.length ≤ 200)) && (decide (m.2.2.length ≤ 20) && decide (m.1.length + m.2.1.length ≤ 200))
/-- All names and values of at most so many bytes. -/
def Mod2 (ps : List Pm) : Prop := ∀ p ∈ ps, p.1.length ≤ 140737488351232 ∧ p.2.length ≤ 140737488351232

set_option maxHeartbeats 4000000 in
set_option maxRecDepth 100000 in
theorem few_calls (a b : List UInt8) (A : Option Addr) (c : Nat) (ps : List Pm) (w : World) (hr : PRd w A ps) (ha : a.length ≤ 140737488351232) (hb : b.length ≤ 140737488351232) (hm2 : Mod2 ps) :
    Calls Tryz.prog 14 #[.agg #[.string (sOf a), .string (sOf b), .slice A ps.length c]] w fun e w' => e = .returned (.bool (fewB (a, b, ps))) ∧ Below w.heap.size w w' := by
  have HP := Lib.hid hr
  have HM := Lib.hid hm2
  have hm := hr.1
  clear hr hm2
  obtain ⟨R, hR⟩ : ∃ R, R = fewB (a, b, ps) := ⟨_, rfl⟩
  rw [← hR]
  have HR := Lib.hid hR
  clear hR
  have sa : (sOf a).size = a.length := size_sOf a
  have sb : (sOf b).size = b.length := size_sOf b
  have HS0 : Hid (MS w (w.alloc (.cells #[.string (sOf a), .string (sOf b), .slice A ps.length c] 25)) w.heap.size (.string (sOf a)) (.string (sOf b)) (.slice A ps.length c)) :=
    ⟨(Below.refl _ w).alloc (Nat.le_refl _) _, Nat.le_refl _, heap_alloc_new w _⟩
  go_enter Tryz.func14, Tryz.ntmps14
  go_wp2
  go_loopg [7] ps.length (fun g i wr => ∃ k : Nat, ps.length - k = g ∧ k ≤ ps.length ∧ i = .int .i64 k ∧ Hid (MS w wr w.heap.size (.string (sOf a)) (.string (sOf b)) (.slice A ps.length c)) ∧ Hid ((ps.take k).all (fun p => decide (p.1.length + p.2.length ≤ 200)) = true))
  case atStart => exact ⟨0, by omega, by omega, rfl, HS0, rfl⟩
  case round =>
    obtain ⟨k, rfl, hk, rfl, HS, HG⟩ := hrel
    clear HS0
    have c0 := HS.out.c0
    have c1 := HS.out.c1
    have c2 := HS.out.c2
    by_cases hlt : k < ps.length
    · have hki : (k : Int) < (ps.length : Int) := by omega
      have hk2 : decide ((k : Int) < (ps.length : Int)) = true := by simp; omega
      have hk0 : decide ((0 : Int) ≤ (k : Int)) = true := by simp
      obtain ⟨pn, pv, hp⟩ : ∃ nm v, ps[k]'hlt = (nm, v) := ⟨_, _, rfl⟩
      have hpk : ps[k]? = some (pn, pv) := by rw [List.getElem?_eq_getElem hlt, hp]
      obtain ⟨bl, off, rfl, hbl, hcells⟩ := (HP.out.below HS.out.below).2 (by omega)
      have d0 := hcells k (pn, pv) hpk 0 _ rfl
      have d1 := hcells k (pn, pv) hpk 1 _ rfl
      rw [Nat.add_zero] at d0
      have hmod := HM.out (pn, pv) (List.mem_of_getElem? hpk)
      simp only at hmod
      have hmem : (pn, pv) ∈ ps := List.mem_of_getElem? hpk
      have sn : (sOf pn).size = pn.length := size_sOf pn
      have sv : (sOf pv).size = pv.length := size_sOf pv
      have HT : Hid ((ps.take (k + 1)).all (fun p => decide (p.1.length + p.2.length ≤ 200)) = decide (pn.length + pv.length ≤ 200)) := by
        show _ = _
        rw [List.take_succ_eq_append_getElem hlt, hp, List.all_append, HG.out]
        simp
      clear hcells hp hpk
      by_cases h : pn.length + pv.length ≤ 200
      · have HF : Hid ((ps.take (k + 1)).all (fun p => decide (p.1.length + p.2.length ≤ 200)) = true) := by
          show _ = _
          rw [HT.out]; exact decide_eq_true h
        have h1 : ¬ ((200 : Int) < (pn.length : Int) + (pv.length : Int)) := by omega
        clear hmem
        go_wp2
        go_quiet (fail)
        go_wp2
        go_roundg (ps.length - (k + 1))
        case measure => omega
        case rel => exact ⟨k + 1, rfl, by omega, by go_num, HS.out.step ⟨rfl, rfl, rfl, Nat.le_refl _, fun _ _ => rfl⟩, HF⟩
      · have HF : Hid (R = false) := by
          show _ = _
          rw [HR.out, fewB]
          have : ps.all (fun p => decide (p.1.length + p.2.length ≤ 200)) = false := by
            rw [← Bool.not_eq_true, List.all_eq_true]
            intro hall
            have := hall _ hmem
            simp at this
            omega
          rw [this, Bool.false_and]
        have h1 : (200 : Int) < (pn.length : Int) + (pv.length : Int) := by omega
        clear hmem
        go_wp2
        go_quiet (fail)
        go_wp2
        go_ret
        exact ⟨by rw [HF.out]; rfl, HS.out.below.trans ⟨rfl, rfl, rfl, Nat.le_refl _, fun _ _ => rfl⟩⟩
    · obtain rfl : k = ps.length := by omega
      have hki : ¬ ((ps.length : Int) < (ps.length : Int)) := by omega
      have HF : Hid (R = (decide (ps.length ≤ 20) && decide (a.length + b.length ≤ 200))) := by
        show _ = _
        have h := HG.out
        rw [List.take_of_length_le (Nat.le_refl _)] at h
        rw [HR.out, fewB, h, Bool.true_and]
      by_cases h1 : ps.length ≤ 20
      · have g1 : (ps.length : Int) ≤ 20 := by omega
        by_cases h2 : a.length + b.length ≤ 200
        · have g2 : (a.length : Int) + (b.length : Int) ≤ 200 := by omega
          rw [decide_eq_true h1, decide_eq_true h2] at HF
          go_wp2
          go_ret
          exact ⟨by rw [HF.out]; rfl, HS.out.below⟩
        · have g2 : ¬ (a.length : Int) + (b.length : Int) ≤ 200 := by omega
          rw [decide_eq_true h1, decide_eq_false h2] at HF
          go_wp2
          go_ret
          exact ⟨by rw [HF.out]; rfl, HS.out.below⟩
      · have g1 : ¬ (ps.length : Int) ≤ 20 := by omega
        rw [decide_eq_false h1] at HF
        go_wp2
        go_ret
        exact ⟨by rw [HF.out]; rfl, HS.out.below⟩
end Go.Proofs.YtjmjmnagnbgmfaaGreatDoor
/-! The reference's Same. -/
namespace Go.Proofs.YtjmjmnagnbgmfaaGreatDoor
open Go.RowKit Go.Shelf Go.Lib

theorem MS.same {w wr w1 : World} {M : Nat} {a b c : Value} (h : MS w wr M a b c) (hb : Below wr.heap.size wr w1) : MS w w1 M a b c := h.step hb

set_option maxHeartbeats 8000000 in
set_option maxRecDepth 1000000 in
theorem rsame_calls (m n : Mm) (A A' : Option Addr) (c c' : Nat) (w : World) (hr : PRd w A m.2.2) (hr' : PRd w A' n.2.2) :
    Calls Tryz.prog 12 #[.agg #[.string (sOf m.1), .string (sOf m.2.1), .slice A m.2.2.length c], .agg #[.string (sOf n.1), .string (sOf n.2.1), .slice A' n.2.2.length c']] w fun e w' => e = .returned (.bool (decide (m = n))) ∧ Below w.heap.size w w' := by
  obtain ⟨a, b, ps⟩ := m
  obtain ⟨a', b', qs⟩ := n
  simp only at *
  have HP := Lib.hid hr
  have HQ := Lib.hid hr'
  have hm := hr.1
  clear hr hr'
  have HS0 : Hid (MS w ((w.alloc (.cells #[.string (sOf a), .string (sOf b), .slice A ps.length c] 25)).alloc (.cells #[.string (sOf a'), .string (sOf b'), .slice A' qs.length c'] 25)) w.heap.size (.string (sOf a)) (.string (sOf b)) (.slice A ps.length c)) :=
    MS.step ⟨(Below.refl _ w).alloc (Nat.le_refl _) _, Nat.le_refl _, heap_alloc_new w _⟩ ((Below.refl _ _).alloc (Nat.le_refl _) _)
  have HS1 : Hid (MS w ((w.alloc (.cells #[.string (sOf a), .string (sOf b), .slice A ps.length c] 25)).alloc (.cells #[.string (sOf a'), .string (sOf b'), .slice A' qs.length c'] 25)) (w.heap.size + 1) (.string (sOf a')) (.string (sOf b')) (.slice A' qs.length c')) := by
    have h := heap_alloc_new (w.alloc (.cells #[.string (sOf a), .string (sOf b), .slice A ps.length c] 25)) (.cells #[.string (sOf a'), .string (sOf b'), .slice A' qs.length c'] 25)
    rw [show (w.alloc (.cells #[.string (sOf a), .string (sOf b), .slice A ps.length c] 25)).heap.size = w.heap.size + 1 by simp] at h
    exact ⟨HS0.out.below, by omega, h⟩
  by_cases h1 : a = a'
  · have e1 : ((sOf a).toList == (sOf a').toList) = true := by rw [toList_sOf, toList_sOf]; simp [h1]
    have e1' : (sOf a).toList = (sOf a').toList := by rw [toList_sOf, toList_sOf]; exact h1
    by_cases h2 : b = b'
    · have e2 : ((sOf b).toList == (sOf b').toList) = true := by rw [toList_sOf, toList_sOf]; simp [h2]
      have e2' : (sOf b).toList = (sOf b').toList := by rw [toList_sOf, toList_sOf]; exact h2
      have hF : Hid (decide ((a, b, ps) = (a', b', qs)) = decide (ps = qs)) := by
        show _ = _
        rw [h1, h2]
        by_cases h3 : ps = qs <;> simp [h3]
      clear h1 h2
      rw [hF.out]
      by_cases hl : ps.length = qs.length
      · obtain ⟨N, hN⟩ : ∃ N, ps.length = N := ⟨_, rfl⟩
        have hN' : qs.length = N := by omega
        rw [hN] at hm HS0 HS1 ⊢
        rw [hN'] at HS0 HS1 ⊢
        clear hl
        have HN := Lib.hid hN
        have HN' := Lib.hid hN'
        clear hN hN'
        go_enter Tryz.func12, Tryz.ntmps12
        go_wp2
        go_loopg [30] N (fun g i wr => ∃ k : Nat, N - k = g ∧ k ≤ N ∧ i = .int .i64 k ∧ Hid (MS w wr w.heap.size (.string (sOf a)) (.string (sOf b)) (.slice A N c)) ∧ Hid (MS w wr (w.heap.size + 1) (.string (sOf a')) (.string (sOf b')) (.slice A' N c')) ∧ Hid (ps.take k = qs.take k))
        case atStart => exact ⟨0, by omega, by omega, rfl, HS0, HS1, rfl⟩
        case round =>
          obtain ⟨k, rfl, hk, rfl, HA, HB, HT⟩ := hrel
          clear HS0 HS1
          have c2 := HA.out.c2
          have c5 := HB.out.c2
          by_cases hltN : k < N
          · have hki : (k : Int) < (N : Int) := by omega
            have hk2 : decide ((k : Int) < (N : Int)) = true := by simp; omega
            have hk0 : decide ((0 : Int) ≤ (k : Int)) = true := by simp
            have hlt : k < ps.length := by rw [HN.out]; exact hltN
            have hlt' : k < qs.length := by rw [HN'.out]; exact hltN
            obtain ⟨pn, pv, hp⟩ : ∃ nm v, ps[k]'hlt = (nm, v) := ⟨_, _, rfl⟩
            obtain ⟨qn, qv, hq⟩ : ∃ nm v, qs[k]'hlt' = (nm, v) := ⟨_, _, rfl⟩
            have hpk : ps[k]? = some (pn, pv) := by rw [List.getElem?_eq_getElem hlt, hp]
            have hqk : qs[k]? = some (qn, qv) := by rw [List.getElem?_eq_getElem hlt', hq]
            obtain ⟨bl, off, rfl, hbl, hcells⟩ := (HP.out.below HA.out.below).2 (by rw [HN.out]; omega)
            obtain ⟨bl', off', rfl, hbl', hcells'⟩ := (HQ.out.below HA.out.below).2 (by rw [HN'.out]; omega)
            have d0 := hcells k (pn, pv) hpk 0 _ rfl
            have d1 := hcells k (pn, pv) hpk 1 _ rfl
            have f0 := hcells' k (qn, qv) hqk 0 _ rfl
            have f1 := hcells' k (qn, qv) hqk 1 _ rfl
            rw [Nat.add_zero] at d0 f0
            have hne := neq36 (pn, pv) (qn, qv)
            have HT2 : Hid ((ps.take (k + 1) = qs.take (k + 1)) ↔ (pn, pv) = (qn, qv)) := by
              show _ ↔ _
              have HT' : ps.take k = qs.take k := HT.out
              rw [List.take_succ_eq_append_getElem hlt, List.take_succ_eq_append_getElem hlt', hp, hq, HT']
              simp
            clear hcells hcells' hp hq hpk hqk hlt hlt'
            by_cases he : (pn, pv) = (qn, qv)
            · rw [decide_eq_true he] at hne
              go_wp2
              go_quiet (fail)
              go_wp2
              go_roundg (N - (k + 1))
              case measure => omega
              case rel => exact ⟨k + 1, rfl, by omega, by go_num, HA.out.step ⟨rfl, rfl, rfl, Nat.le_refl _, fun _ _ => rfl⟩, HB.out.step ⟨rfl, rfl, rfl, Nat.le_refl _, fun _ _ => rfl⟩, HT2.out.2 he⟩
            · rw [decide_eq_false he] at hne
              have hG : Hid (decide (ps = qs) = false) := by
                refine decide_eq_false fun e => he (HT2.out.1 ?_)
                rw [e]
              go_wp2
              go_quiet (fail)
              go_wp2
              go_ret
              exact ⟨by rw [hG.out]; rfl, HA.out.below.trans ⟨rfl, rfl, rfl, Nat.le_refl _, fun _ _ => rfl⟩⟩
          · obtain rfl : k = N := by omega
            have hG : Hid (decide (ps = qs) = true) := by
              refine decide_eq_true ?_
              have h := HT.out
              rw [List.take_of_length_le (by rw [HN.out]; exact Nat.le_refl _), List.take_of_length_le (by rw [HN'.out]; exact Nat.le_refl _)] at h
              exact h
            have hki : ¬ ((k : Int) < (k : Int)) := by omega
            go_wp2
            go_ret
            exact ⟨by rw [hG.out]; rfl, HA.out.below⟩
      · have hG : Hid (decide (ps = qs) = false) := decide_eq_false fun e => hl (by rw [e])
        have hne : ¬ ((ps.length : Int) = (qs.length : Int)) := by omega
        have hne2 : ((ps.length : Int) != (qs.length : Int)) = true := by simp; omega
        go_enter Tryz.func12, Tryz.ntmps12
        go_wp2
        go_ret
        exact ⟨by rw [hG.out]; rfl, HS0.out.below⟩
    · have e2 : ((sOf b).toList == (sOf b').toList) = false := by rw [toList_sOf, toList_sOf]; simp [h2]
      have e2' : ¬ (sOf b).toList = (sOf b').toList := by rw [toList_sOf, toList_sOf]; exact h2
      have hF : Hid (decide ((a, b, ps) = (a', b', qs)) = false) := decide_eq_false (fun e => h2 (by simp only [Prod.mk.injEq] at e; exact e.2.1))
      clear h1 h2
      go_enter Tryz.func12, Tryz.ntmps12
      go_wp2
      go_ret
      exact ⟨by rw [hF.out]; rfl, HS0.out.below⟩
  · have e1 : ((sOf a).toList == (sOf a').toList) = false := by rw [toList_sOf, toList_sOf]; simp [h1]
    have e1' : ¬ (sOf a).toList = (sOf a').toList := by rw [toList_sOf, toList_sOf]; exact h1
    have hF : Hid (decide ((a, b, ps) = (a', b', qs)) = false) := decide_eq_false (fun e => h1 (by simp only [Prod.mk.injEq] at e; exact e.1))
    clear h1
    go_enter Tryz.func12, Tryz.ntmps12
    go_wp2
    go_ret
    exact ⟨by rw [hF.out]; rfl, HS0.out.below⟩
end Go.Proofs.YtjmjmnagnbgmfaaGreatDoor
