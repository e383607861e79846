import Derived.Test.YtjmjmnagnbgmfaaGreatDoorS40
import Derived.Test.YtjmjmnagnbgmfaaGreatDoorS34
/-! The reference's Right. -/
namespace Go.Proofs.YtjmjmnagnbgmfaaGreatDoor
open Go.RowKit Go.Shelf Go.Lib

set_option maxHeartbeats 8000000 in
set_option maxRecDepth 1000000 in
theorem rright_calls (a b : List UInt8) (A : Option Addr) (c : Nat) (ps : List Pm) (w : World) (ha : a.length ≤ 1000000) (hb : b.length ≤ 1000000) (hm : Mod ps) (hc : ps.length ≤ c) (hr : PRd w A ps) (hn : ps.length ≤ 140737488351232) :
    Calls Tryz.prog 15 #[.agg #[.string (sOf a), .string (sOf b), .slice A ps.length c]] w fun e w' => e = .returned (.bool (rightB (a, b, ps))) ∧ Below w.heap.size w w' := by
  obtain ⟨R, hR⟩ : ∃ R, R = rightB (a, b, ps) := ⟨_, rfl⟩
  rw [← hR]
  have HR := Lib.hid hR
  have HM := Lib.hid hm
  have HP := Lib.hid hr
  clear hR hm hr
  have HS0 : Hid (MS w (w.alloc (.cells #[.string (sOf a), .string (sOf b), .slice A ps.length c] 25)) w.heap.size (.string (sOf a)) (.string (sOf b)) (.slice A ps.length c)) :=
    ⟨(Below.refl _ w).alloc (Nat.le_refl _) _, Nat.le_refl _, heap_alloc_new w _⟩
  go_enter Tryz.func15, Tryz.ntmps15
  go_wp2
  go_loopg [9] ps.length (fun g i wr => ∃ k : Nat, ps.length - k = g ∧ k ≤ ps.length ∧ i = .int .i64 k ∧ Hid (MS w wr w.heap.size (.string (sOf a)) (.string (sOf b)) (.slice A ps.length c)) ∧ Hid (goodP (ps.take k) (ps.drop k) = goodP [] ps))
  case atStart => exact ⟨0, by omega, by omega, rfl, HS0, rfl⟩
  case round =>
    obtain ⟨k, rfl, hk, rfl, HS, HG⟩ := hrel
    clear HS0
    have c0 := HS.out.c0
    have c1 := HS.out.c1
    have c2 := HS.out.c2
    by_cases hlt : k < ps.length
    · have hki : (k : Int) < (ps.length : Int) := by omega
      have hk2 : decide ((k : Int) < (ps.length : Int)) = true := by simp; omega
      have hk0 : decide ((0 : Int) ≤ (k : Int)) = true := by simp
      obtain ⟨nm, v, hp⟩ : ∃ nm v, ps[k]'hlt = (nm, v) := ⟨_, _, rfl⟩
      have hpk : ps[k]? = some (nm, v) := by rw [List.getElem?_eq_getElem hlt, hp]
      have hmod := HM.out (nm, v) (List.mem_of_getElem? hpk)
      simp only at hmod
      obtain ⟨bl, off, rfl, hbl, hcells⟩ := (HP.out.below HS.out.below).2 (by omega)
      have d0 := hcells k (nm, v) hpk 0 _ rfl
      have d1 := hcells k (nm, v) hpk 1 _ rfl
      rw [Nat.add_zero] at d0
      have HGS : Hid (goodP (ps.take k) (ps.drop k) = (!(ps.take k).any (·.1 == nm) && smallB nm && quotB v && goodP (ps.take (k + 1)) (ps.drop (k + 1)))) := by
        rw [List.drop_eq_getElem_cons hlt, hp, List.take_succ_eq_append_getElem hlt, hp]
        exact rfl
      have hsl := fun W => slice_to (some ⟨bl, off, none⟩) ps.length c k (by omega) W
      have HPT := Lib.hid ((HP.out.below HS.out.below).take k)
      have CG := Lib.hid (fun (W : World) (hW : PRd W (some ⟨bl, off, none⟩) (ps.take k)) => rget_calls (some ⟨bl, off, none⟩) c (ps.take k) nm W hW)
      rw [List.length_take_of_le hk] at CG
      have HGA := getB_any (ps.take k) nm
      clear hcells hp
      have CN := Lib.hid (fun w => rsmall_calls (sOf nm) w (by rw [size_sOf]; omega))
      have CQ := Lib.hid (fun w => rquot_calls v w hmod.2)
      rw [data_sOf] at CN
      have HRF : Hid (goodP [] ps = false → R = false) := fun h => by
        rw [HR.out]
        simp only [rightB, h, Bool.false_and]
      have hblk : bl < wr.heap.size := hbl
      cases ht : (ps.take k).any (fun x => x.1 == nm) with
      | true =>
        rw [ht] at HGA
        have HF : Hid (R = false) := HRF.out (by rw [← HG.out, HGS.out, ht]; exact rfl)
        obtain ⟨gv, gf, hgv⟩ : ∃ gv gf, getB (ps.take k) nm = (gv, gf) := ⟨_, _, rfl⟩
        rw [hgv] at CG HGA
        simp only at CG HGA
        subst HGA
        clear ht hgv
        go_wp2
        go_quiet (first | (go_at_call 19; refine Calls.quiet_of_same ((CG.out _ (by exact HPT.out)).mono fun e w' h => ⟨h.1, h.2.symm⟩)))
        go_wp2
        go_ret
        exact ⟨by rw [HF.out]; rfl, HS.out.below.trans ⟨rfl, rfl, rfl, Nat.le_refl _, fun _ _ => rfl⟩⟩
      | false =>
        rw [ht] at HGA
        obtain ⟨gv, gf, hgv⟩ : ∃ gv gf, getB (ps.take k) nm = (gv, gf) := ⟨_, _, rfl⟩
        rw [hgv] at CG HGA
        simp only at CG HGA
        subst HGA
        clear hgv
        cases hsm : smallB nm with
        | false =>
          have HF : Hid (R = false) := HRF.out (by rw [← HG.out, HGS.out, ht, hsm]; exact rfl)
          rw [hsm] at CN
          clear ht hsm
          go_wp2
          go_quiet (first | (go_at_call 19; refine Calls.quiet_of_same ((CG.out _ (by exact HPT.out)).mono fun e w' h => ⟨h.1, h.2.symm⟩)))
          have HS1 : Hid (MS w (wr.drewN nq) w.heap.size (.string (sOf a)) (.string (sOf b)) (.slice (some ⟨bl, off, none⟩) ps.length c)) := HS.out.step ⟨rfl, rfl, rfl, Nat.le_refl _, fun _ _ => rfl⟩
          go_wp2_with fail
          refine (CN.out _).mono ?_
          rintro e w3 ⟨rfl, hb3⟩
          have HS3 := Lib.hid (HS1.out.step hb3)
          clear hb3
          go_wp2_with fail
          go_ret
          exact ⟨by rw [HF.out]; rfl, HS3.out.below⟩
        | true =>
          rw [hsm] at CN
          cases hq : quotB v with
          | false =>
            have HF : Hid (R = false) := HRF.out (by rw [← HG.out, HGS.out, ht, hsm, hq]; exact rfl)
            rw [hq] at CQ
            clear ht hsm hq
            go_wp2
            go_quiet (first | (go_at_call 19; refine Calls.quiet_of_same ((CG.out _ (by exact HPT.out)).mono fun e w' h => ⟨h.1, h.2.symm⟩)))
            have HS1 : Hid (MS w (wr.drewN nq) w.heap.size (.string (sOf a)) (.string (sOf b)) (.slice (some ⟨bl, off, none⟩) ps.length c)) := HS.out.step ⟨rfl, rfl, rfl, Nat.le_refl _, fun _ _ => rfl⟩
            go_wp2_with fail
            refine (CN.out _).mono ?_
            rintro e w3 ⟨rfl, hb3⟩
            have HS3 := Lib.hid (HS1.out.step hb3)
            have g2 := HS3.out.c2
            have p1 : w3.cell? ⟨bl, off + k * 2 + 1, none⟩ = some (.string (sOf v)) := (hb3.cell (p := ⟨bl, off + k * 2 + 1, none⟩) hblk).trans d1
            clear hb3
            go_wp2_with fail
            refine (CQ.out _).mono ?_
            rintro e w4 ⟨rfl, hb4⟩
            have HS4 := Lib.hid (HS3.out.step hb4)
            clear hb4
            go_wp2_with fail
            go_ret
            exact ⟨by rw [HF.out]; rfl, HS4.out.below⟩
          | true =>
            have HG2 : Hid (goodP (ps.take (k + 1)) (ps.drop (k + 1)) = goodP [] ps) := by
              have e := HGS.out
              rw [ht, hsm, hq, HG.out] at e
              exact e.symm
            rw [hq] at CQ
            clear ht hsm hq HGS
            go_wp2
            go_quiet (first | (go_at_call 19; refine Calls.quiet_of_same ((CG.out _ (by exact HPT.out)).mono fun e w' h => ⟨h.1, h.2.symm⟩)))
            have HS1 : Hid (MS w (wr.drewN nq) w.heap.size (.string (sOf a)) (.string (sOf b)) (.slice (some ⟨bl, off, none⟩) ps.length c)) := HS.out.step ⟨rfl, rfl, rfl, Nat.le_refl _, fun _ _ => rfl⟩
            go_wp2_with fail
            refine (CN.out _).mono ?_
            rintro e w3 ⟨rfl, hb3⟩
            have HS3 := Lib.hid (HS1.out.step hb3)
            have g2 := HS3.out.c2
            have p1 : w3.cell? ⟨bl, off + k * 2 + 1, none⟩ = some (.string (sOf v)) := (hb3.cell (p := ⟨bl, off + k * 2 + 1, none⟩) hblk).trans d1
            clear hb3
            go_wp2_with fail
            refine (CQ.out _).mono ?_
            rintro e w4 ⟨rfl, hb4⟩
            have HS4 := Lib.hid (HS3.out.step hb4)
            clear hb4
            go_wp2_with fail
            go_roundg (ps.length - (k + 1))
            case measure => omega
            case rel => exact ⟨k + 1, rfl, by omega, by go_num, HS4, HG2⟩
    · obtain rfl : k = ps.length := by omega
      have hki : ¬ ((ps.length : Int) < (ps.length : Int)) := by omega
      have hgood : goodP [] ps = true := by
        rw [← HG.out, List.drop_eq_nil_of_le (Nat.le_refl _)]
        rfl
      have HF : Hid (R = (smallB a && smallB b)) := by
        have e : R = (goodP [] ps && smallB a && smallB b) := HR.out
        rw [hgood, Bool.true_and] at e
        exact e
      have CA := Lib.hid (fun w => rsmall_calls (sOf a) w (by rw [size_sOf]; omega))
      have CB := Lib.hid (fun w => rsmall_calls (sOf b) w (by rw [size_sOf]; omega))
      rw [data_sOf] at CA CB
      clear hgood
      cases h1 : smallB a with
      | false =>
        rw [h1] at CA HF
        clear h1
        go_wp2_with fail
        refine (CA.out _).mono ?_
        rintro e w3 ⟨rfl, hb3⟩
        have HS3 := Lib.hid (HS.out.step hb3)
        clear hb3
        go_wp2_with fail
        go_ret
        exact ⟨by rw [HF.out]; rfl, HS3.out.below⟩
      | true =>
        rw [h1] at CA HF
        clear h1
        go_wp2_with fail
        refine (CA.out _).mono ?_
        rintro e w3 ⟨rfl, hb3⟩
        have HS3 := Lib.hid (HS.out.step hb3)
        have c1' := HS3.out.c1
        clear hb3 HS c0 c1 c2
        go_wp2_with fail
        refine (CB.out _).mono ?_
        rintro e w4 ⟨rfl, hb4⟩
        have HS4 := Lib.hid (HS3.out.step hb4)
        clear hb4
        go_wp2_with fail
        go_ret
        exact ⟨by rw [HF.out]; rfl, HS4.out.below⟩
end Go.Proofs.YtjmjmnagnbgmfaaGreatDoor
