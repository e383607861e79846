/- mime.Right: whether a type may be read so. -/
import Derived.Test.YtjmjmnagnbgmfaaGreatDoorS11
namespace Go.Proofs.YtjmjmnagnbgmfaaGreatDoor
open Go.RowKit Go.Shelf Go.Lib Go.Proofs.YtjmjmnagnbgmfaaGreatDoorW.PrintWords PMimeReads

/-- Are these parameters right, behind those? -/
def goodP : List Pm → List Pm → Bool
  | _, [] => true
  | pre, p :: t => !pre.any (·.1 == p.1) && smallB p.1 && quotB p.2 && goodP (pre ++ [p]) t
/-- May a type be read so? -/
def rightB (m : Mm) : Bool := goodP [] m.2.2 && smallB m.1 && smallB m.2.1

/-- All names and values are of modest size. -/
def Mod (ps : List Pm) : Prop := ∀ p ∈ ps, p.1.length ≤ 1000000 ∧ p.2.length ≤ 1000000

theorem PRd.take {w : World} {A : Option Addr} {ps : List Pm} (h : PRd w A ps) (k : Nat) : PRd w A (ps.take k) := by
  have hl : (ps.take k).length ≤ ps.length := List.length_take_le' _ _
  refine ⟨by have := h.1; omega, fun hn => ?_⟩
  obtain ⟨b, off, rfl, hlt, hc⟩ := h.2 (by omega)
  refine ⟨b, off, rfl, hlt, fun j p hj i u hu => hc j p ?_ i u hu⟩
  rw [List.getElem?_take] at hj
  split at hj
  · exact hj
  · cases hj

theorem slice_to (A : Option Addr) (n c k : Nat) (hk : k ≤ c) (W : World) : (Instr.slice 23 (.slice A n c) none (some (.int .i64 k)) none).run Tryz.prog W = .ok (.slice A k c) W := by
  have he : Tryz.prog.elem 23 = 36 := by kernel_rfl
  rw [run_slice_h W 23 A n c (by rw [he]; exact Tryz.underlying23) .i64 k (by omega) (by omega), he, Tryz.sizeOf36]
  simp only [Result.andThen, sliced, Int.toNat_natCast, Nat.sub_zero, Nat.zero_mul]
  split
  · rfl
  · cases A with
    | none => rfl
    | some a => simp [Addr.add]

set_option maxHeartbeats 8000000 in
set_option maxRecDepth 1000000 in
theorem right13_calls (a b : List UInt8) (A : Option Addr) (c : Nat) (ps : List Pm) (w : World) (ha : a.length ≤ 1000000) (hb : b.length ≤ 1000000) (hm : Mod ps) (hc : ps.length ≤ c) (hr : PRd w A ps) (hn : ps.length ≤ 140737488351232) (hT : Tabs w) :
    Calls Tryz.prog 13 #[.agg #[.string (sOf a), .string (sOf b), .slice A ps.length c]] w fun e w' => e = .returned (.bool (rightB (a, b, ps))) ∧ Below w.heap.size w w' := by
  obtain ⟨R, hR⟩ : ∃ R, R = rightB (a, b, ps) := ⟨_, rfl⟩
  rw [← hR]
  have HR := Lib.hid hR
  have HT := Lib.hid hT
  have HM := Lib.hid hm
  have HP := Lib.hid hr
  clear hR hT hm hr
  have HS0 : Hid (MS w (w.alloc (.cells #[.string (sOf a), .string (sOf b), .slice A ps.length c] 25)) w.heap.size (.string (sOf a)) (.string (sOf b)) (.slice A ps.length c)) :=
    ⟨(Below.refl _ w).alloc (Nat.le_refl _) _, Nat.le_refl _, heap_alloc_new w _⟩
  go_enter Tryz.func13, Tryz.ntmps13
  go_wp2
  go_loopg [9] ps.length (fun g i wr => ∃ k : Nat, ps.length - k = g ∧ k ≤ ps.length ∧ i = .int .i64 k ∧ Hid (MS w wr w.heap.size (.string (sOf a)) (.string (sOf b)) (.slice A ps.length c)) ∧ Hid (goodP (ps.take k) (ps.drop k) = goodP [] ps))
  case atStart => exact ⟨0, by omega, by omega, rfl, HS0, rfl⟩
  case round =>
    obtain ⟨k, rfl, hk, rfl, HS, HG⟩ := hrel
    clear HS0
    have c0 := HS.out.c0
    have c1 := HS.out.c1
    have c2 := HS.out.c2
    by_cases hlt : k < ps.length
    · obtain ⟨nm, v, hp⟩ : ∃ nm v, ps[k]'hlt = (nm, v) := ⟨_, _, rfl⟩
      have hpk : ps[k]? = some (nm, v) := by rw [List.getElem?_eq_getElem hlt, hp]
      have hmod := HM.out (nm, v) (List.mem_of_getElem? hpk)
      simp only at hmod
      obtain ⟨bl, off, rfl, hbl, hcells⟩ := (HP.out.below HS.out.below).2 (by omega)
      have d0 := hcells k (nm, v) hpk 0 _ rfl
      have d1 := hcells k (nm, v) hpk 1 _ rfl
      rw [Nat.add_zero] at d0
      have HGS : Hid (goodP (ps.take k) (ps.drop k) = (!(ps.take k).any (·.1 == nm) && smallB nm && quotB v && goodP (ps.take (k + 1)) (ps.drop (k + 1)))) := by
        rw [List.drop_eq_getElem_cons hlt, hp, List.take_succ_eq_append_getElem hlt, hp]
        exact rfl
      have hsl := fun W => slice_to (some ⟨bl, off, none⟩) ps.length c k (by omega) W
      have hmf : ∀ (fn : Fn) (first cap : Array Value) (w : World), (Instr.makeFunc fn first cap).run Tryz.prog w = .ok (.func fn first cap) w := fun _ _ _ _ => rfl
      clear hcells hp
      have hMlt := HS.out.lt
      have e2 : ∀ O : Obj, (wr.alloc O).cell? ⟨w.heap.size, 2, none⟩ = some (.slice (some ⟨bl, off, none⟩) ps.length c) := fun O => (World.cell?_alloc_lt wr O _ hMlt).trans c2
      -- behind the parameter's own block
      have HS1 : Hid (MS w (wr.alloc (.cells #[.string (sOf nm), .string (sOf v)] 36)) w.heap.size (.string (sOf a)) (.string (sOf b)) (.slice (some ⟨bl, off, none⟩) ps.length c)) := HS.out.step ((Below.refl _ wr).alloc (Nat.le_refl _) _)
      have HBK : Hid ((wr.alloc (.cells #[.string (sOf nm), .string (sOf v)] 36)).heap[wr.heap.size]? = some (.cells #[.string (sOf nm), .string (sOf v)] 36 (0, 0))) := heap_alloc_new wr _
      have CC := Lib.hid (contains_calls (some ⟨bl, off, none⟩) c (ps.take k) _ ((HP.out.below HS1.out.below).take k) 38 (.inr rfl) #[.pointer (some ⟨wr.heap.size, 0, none⟩)] (fun x => x.1 == nm) (pred38 nm wr.heap.size _ (by simp) (by simp)))
      rw [List.length_take_of_le hk] at CC
      have CN := Lib.hid (fun w => small_calls (sOf nm) w (by rw [size_sOf]; omega))
      have CQ := Lib.hid (fun w hT => quotable_calls (sOf v) w (by rw [size_sOf]; omega) hT)
      rw [data_sOf] at CN CQ
      go_wp2_with fail
      refine Calls.mono CC.out ?_
      rintro e w2 ⟨rfl, hb2⟩
      have HS2 := Lib.hid (HS1.out.step hb2)
      have HBK2 : Hid (w2.heap[wr.heap.size]? = some (.cells #[.string (sOf nm), .string (sOf v)] 36 (0, 0))) := (hb2.block _ (by simp)).trans HBK.out
      clear hb2 HS1 HBK CC d0 d1 e2 hsl hmf c0 c1 c2 HS
      have p0 : w2.cell? ⟨wr.heap.size, 0, none⟩ = some (.string (sOf nm)) := by simp [World.cell?, HBK2.out]
      have p1 : w2.cell? ⟨wr.heap.size, 1, none⟩ = some (.string (sOf v)) := by simp [World.cell?, HBK2.out]
      have hpl : wr.heap.size < w2.heap.size := (Array.getElem?_eq_some_iff.1 HBK2.out).1
      have HRF : Hid (goodP [] ps = false → R = false) := fun h => by
        rw [HR.out]
        simp only [rightB, h, Bool.false_and]
      cases ht : (ps.take k).any (fun x => x.1 == nm) with
      | true =>
        have HF : Hid (R = false) := HRF.out (by rw [← HG.out, HGS.out, ht]; exact rfl)
        clear ht
        go_wp2_with fail
        go_ret
        exact ⟨by rw [HF.out]; rfl, HS2.out.below⟩
      | false =>
        cases hsm : smallB nm with
        | false =>
          have HF : Hid (R = false) := HRF.out (by rw [← HG.out, HGS.out, ht, hsm]; exact rfl)
          rw [hsm] at CN
          clear ht hsm
          go_wp2_with fail
          refine (CN.out _).mono ?_
          rintro e w3 ⟨rfl, hb3⟩
          have HS3 := Lib.hid (HS2.out.step hb3)
          clear hb3
          go_wp2_with fail
          go_ret
          exact ⟨by rw [HF.out]; rfl, HS3.out.below⟩
        | true =>
          rw [hsm] at CN
          cases hq : quotB v with
          | false =>
            have HF : Hid (R = false) := HRF.out (by rw [← HG.out, HGS.out, ht, hsm, hq]; exact rfl)
            rw [hq] at CQ
            clear ht hsm hq
            go_wp2_with fail
            refine (CN.out _).mono ?_
            rintro e w3 ⟨rfl, hb3⟩
            have HS3 := Lib.hid (HS2.out.step hb3)
            have p1' : w3.cell? ⟨wr.heap.size, 1, none⟩ = some (.string (sOf v)) := (hb3.cell (p := ⟨wr.heap.size, 1, none⟩) hpl).trans p1
            clear hb3 p0 p1
            go_wp2_with fail
            refine (CQ.out _ (HT.out.below HS3.out.below)).mono ?_
            rintro e w4 ⟨rfl, hb4⟩
            have HS4 := Lib.hid (HS3.out.step hb4)
            clear hb4
            go_wp2_with fail
            go_ret
            exact ⟨by rw [HF.out]; rfl, HS4.out.below⟩
          | true =>
            have HG2 : Hid (goodP (ps.take (k + 1)) (ps.drop (k + 1)) = goodP [] ps) := by
              have e := HGS.out
              rw [ht, hsm, hq, HG.out] at e
              exact e.symm
            rw [hq] at CQ
            clear ht hsm hq HGS
            go_wp2_with fail
            refine (CN.out _).mono ?_
            rintro e w3 ⟨rfl, hb3⟩
            have HS3 := Lib.hid (HS2.out.step hb3)
            have p1' : w3.cell? ⟨wr.heap.size, 1, none⟩ = some (.string (sOf v)) := (hb3.cell (p := ⟨wr.heap.size, 1, none⟩) hpl).trans p1
            clear hb3 p0 p1
            go_wp2_with fail
            refine (CQ.out _ (HT.out.below HS3.out.below)).mono ?_
            rintro e w4 ⟨rfl, hb4⟩
            have HS4 := Lib.hid (HS3.out.step hb4)
            clear hb4
            go_wp2_with fail
            go_roundg (ps.length - (k + 1))
            case measure => omega
            case rel => exact ⟨k + 1, rfl, by omega, by go_num, HS4, HG2⟩
    · obtain rfl : k = ps.length := by omega
      have hgood : goodP [] ps = true := by
        rw [← HG.out, List.drop_eq_nil_of_le (Nat.le_refl _)]
        rfl
      have HF : Hid (R = (smallB a && smallB b)) := by
        have e : R = (goodP [] ps && smallB a && smallB b) := HR.out
        rw [hgood, Bool.true_and] at e
        exact e
      have CA := Lib.hid (fun w => small_calls (sOf a) w (by rw [size_sOf]; omega))
      have CB := Lib.hid (fun w => small_calls (sOf b) w (by rw [size_sOf]; omega))
      rw [data_sOf] at CA CB
      clear hgood
      cases h1 : smallB a with
      | false =>
        rw [h1] at CA HF
        clear h1
        go_wp2_with fail
        refine (CA.out _).mono ?_
        rintro e w3 ⟨rfl, hb3⟩
        have HS3 := Lib.hid (HS.out.step hb3)
        clear hb3
        go_wp2_with fail
        go_ret
        exact ⟨by rw [HF.out]; rfl, HS3.out.below⟩
      | true =>
        rw [h1] at CA HF
        clear h1
        go_wp2_with fail
        refine (CA.out _).mono ?_
        rintro e w3 ⟨rfl, hb3⟩
        have HS3 := Lib.hid (HS.out.step hb3)
        have c1' := HS3.out.c1
        clear hb3 HS c0 c1 c2
        go_wp2_with fail
        refine (CB.out _).mono ?_
        rintro e w4 ⟨rfl, hb4⟩
        have HS4 := Lib.hid (HS3.out.step hb4)
        clear hb4
        go_wp2_with fail
        go_ret
        exact ⟨by rw [HF.out]; rfl, HS4.out.below⟩
end Go.Proofs.YtjmjmnagnbgmfaaGreatDoor
