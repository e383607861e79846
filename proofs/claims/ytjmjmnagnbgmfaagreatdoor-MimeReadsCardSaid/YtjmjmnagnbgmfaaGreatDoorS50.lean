import Derived.Test.YtjmjmnagnbgmfaaGreatDoorS49
/-! The reference's Parse. -/
namespace Go.Proofs.YtjmjmnagnbgmfaaGreatDoor
open Go.RowKit Go.Shelf Go.Lib Go.Proofs.YtjmjmnagnbgmfaaGreatDoorW.PrintWords PMimeReads

theorem RS.grownK {w wr w1 : World} {K : Nat} {a b v : Value} {ps : List Pm} (h : RS w wr K a b v ps) (hg : wr.grownBy w1 v.ownBlock) : w1.heap[K]? = some (.cells #[a, b, v] 25 (0, 0)) :=
  (hg.block K h.lt (fun e => (h.ne e.symm).1 rfl)).trans h.blk
theorem cut_facts {l cs n r : List UInt8} (h : cutA l cs = (n, r)) : findB l cs = n.length ∧ l = n ++ r ∧ n.length + r.length = l.length := by
  have h1 := cutA_app l cs
  rw [h] at h1
  refine ⟨by rw [findB, h], h1.symm, by rw [← h1]; simp⟩
theorem ext_to (n r : List UInt8) : (sOf (n ++ r)).extract 0 n.length = sOf n := by rw [sOf_ext]; simp
theorem ext_from (n r : List UInt8) : (sOf (n ++ r)).extract n.length (n ++ r).length = sOf r := by rw [sOf_ext]; simp

set_option maxHeartbeats 16000000 in
set_option maxRecDepth 1000000 in
theorem rparse_calls (l : List UInt8) (w : World) (hs : l.length ≤ 1000000) :
    Calls Tryz.prog 11 #[.string (sOf l)] w fun e w' => ∃ v, e = .returned (.tuple #[.agg #[.string (sOf (parseB l).1.1), .string (sOf (parseB l).1.2.1), v], .bool (parseB l).2]) ∧ w'.ownsRow w.heap.size 36 2 v (parseB l).1.2.2.length (cellsP (parseB l).1.2.2) ∧ Below w.heap.size w w' := by
  obtain ⟨R, hR⟩ : ∃ R, R = parseB l := ⟨_, rfl⟩
  rw [← hR]
  have HR := Lib.hid hR
  clear hR
  have hl1 := trimS_len l blanks
  have HS0 : Hid (MS w (w.alloc (.cells #[.string ⟨#[]⟩, .string ⟨#[]⟩, .slice none 0 0] 25)) w.heap.size (.string ⟨#[]⟩) (.string ⟨#[]⟩) (.slice none 0 0)) :=
    ⟨(Below.refl _ w).alloc (Nat.le_refl _) _, Nat.le_refl _, heap_alloc_new w _⟩
  have htrim : Hid (∀ w, Calls Tryz.prog 29 #[.string (sOf l), .string ⟨#[9, 10, 13, 32]⟩] w fun e w' => e = .returned (.string (sOf (Lib.trimS l blanks))) ∧ w = w') := fun w => rtrim_calls l blanks w hs (by decide)
  have HN : Hid (namesB l = (let c := cutB (Lib.trimS l blanks) 47; let d := cutA c.2.1 [59]; if c.2.2 && isTok c.1 && isTok (Lib.trimRightS d.1 blanks) then some (c.1, Lib.trimRightS d.1 blanks, d.2) else none)) := rfl
  generalize Lib.trimS l blanks = l1 at htrim HN hl1
  obtain ⟨k0, r0, hc⟩ : ∃ k0 r0, cutA l1 [47] = (k0, r0) := ⟨_, _, rfl⟩
  obtain ⟨hf, hl2, hlen⟩ := cut_facts hc
  have hfind : Hid (∀ w, Calls Tryz.prog 30 #[.string (sOf l1), .string ⟨#[47]⟩] w fun e w' => e = .returned (.int .i64 ((k0.length : Nat) : Int)) ∧ w = w') := fun w => by
    rw [← hf]
    exact rfind_calls l1 [47] w (by omega) (by decide)
  have HN2 : Hid (namesB l = (let d := cutA r0.tail [59]; if !r0.isEmpty && isTok k0 && isTok (Lib.trimRightS d.1 blanks) then some (k0, Lib.trimRightS d.1 blanks, d.2) else none)) := by
    have h := HN.out
    obtain ⟨e1, e2, e3⟩ := cutB_cutA l1 47
    rw [hc] at e1 e2 e3
    simp only at e1 e2 e3
    simp only [e1, e2, e3] at h
    exact h
  clear HN hf hc
  have hsz : (sOf l1).size = l1.length := size_sOf l1
  have hex0 : (sOf l1).extract 0 k0.length = sOf k0 := by rw [hl2]; exact ext_to _ _
  have hex1 : ∀ c t, r0 = c :: t → (sOf l1).extract (k0.length + 1) l1.length = sOf t := by
    intro c t h
    rw [hl2, h, sOf_ext]
    have e : (k0 ++ c :: t).length - (k0.length + 1) = t.length := by simp; omega
    rw [e]
    simp
  have HEX := Lib.hid hex1
  clear hl2 hex1
  go_enter Tryz.func11, Tryz.ntmps11
  go_wp2_with fail
  refine (htrim.out _).mono ?_
  rintro e w' ⟨rfl, rfl⟩
  clear htrim
  generalize w.alloc (.cells #[.string ⟨#[]⟩, .string ⟨#[]⟩, .slice none 0 0] 25) = w1 at HS0 ⊢
  go_wp2_with fail
  refine (hfind.out _).mono ?_
  rintro e w' ⟨rfl, rfl⟩
  clear hfind
  have z0 := HS0.out.c0
  have z1 := HS0.out.c1
  have z2 := HS0.out.c2
  have f0 := HS0.out.frozen 0
  have f1 := HS0.out.frozen 1
  have f2 := HS0.out.frozen 2
  obtain ⟨j, hj⟩ : ∃ j, k0.length = j := ⟨_, rfl⟩
  have CK := Lib.hid (fun w => ris_calls (sOf k0) w (by rw [size_sOf]; omega))
  rw [data_sOf] at CK
  rw [hj] at hlen hex0 HEX ⊢
  cases r0 with
  | nil =>
    have hjl : (j : Int) = (l1.length : Int) := by simp at hlen; omega
    have HF : Hid (R = (([], [], []), false)) := by
      rw [HR.out]
      unfold parseB
      rw [HN2.out]
      exact rfl
    clear CK HEX HN2 hex0
    go_wp2_with fail
    have S := HS0.out.set (.string ⟨#[]⟩) (.string ⟨#[]⟩) (.slice none 0 0)
    have y0 := S.c0
    have y1 := S.c1
    have y2 := S.c2
    refine bodyPost_ret (v := .tuple #[.agg #[.string ⟨#[]⟩, .string ⟨#[]⟩, .slice none 0 0], .bool false]) (by simp [results, Tryz.results11, go_sem, y0, y1, y2]) rfl ⟨.slice none 0 0, by rw [HF.out]; rfl, by rw [HF.out]; exact own_nil _ _ _ _, S.below⟩
  | cons c0 L =>
    have hjl : ¬ (j : Int) = (l1.length : Int) := by simp at hlen; omega
    cases hk : isTok k0 with
    | false =>
      have HF : Hid (R = (([], [], []), false)) := by
        rw [HR.out]
        unfold parseB
        rw [HN2.out, hk]
        exact rfl
      rw [hk] at CK
      clear hk HEX HN2
      go_wp2_with (go_at_call 31; refine (CK.out _).mono ?_; rintro e w' ⟨rfl, rfl⟩)
      have S := HS0.out.set (.string ⟨#[]⟩) (.string ⟨#[]⟩) (.slice none 0 0)
      have y0 := S.c0
      have y1 := S.c1
      have y2 := S.c2
      refine bodyPost_ret (v := .tuple #[.agg #[.string ⟨#[]⟩, .string ⟨#[]⟩, .slice none 0 0], .bool false]) (by simp [results, Tryz.results11, go_sem, y0, y1, y2]) rfl ⟨.slice none 0 0, by rw [HF.out]; rfl, by rw [HF.out]; exact own_nil _ _ _ _, S.below⟩
    | true =>
      rw [hk] at CK
      clear z0 z1 z2 f0 f1 f2
      have hex1 := HEX.out c0 L rfl
      obtain ⟨j1, hj1⟩ : ∃ j1, j + 1 = j1 := ⟨_, rfl⟩
      have hj1i : (j : Int) + 1 = (j1 : Int) := by omega
      rw [hj1] at hex1
      have LK := Lib.hid (fun w => rlower_calls (sOf k0) w (by rw [size_sOf]; omega))
      rw [data_sOf] at LK
      have hL : L.length ≤ 1000000 := by simp at hlen; omega
      obtain ⟨s0, r2, hc⟩ : ∃ s0 r2, cutA L [59] = (s0, r2) := ⟨_, _, rfl⟩
      obtain ⟨hf, hl2, hlen2⟩ := cut_facts hc
      have hfind : Hid (∀ w, Calls Tryz.prog 30 #[.string (sOf L), .string ⟨#[59]⟩] w fun e w' => e = .returned (.int .i64 ((s0.length : Nat) : Int)) ∧ w = w') := fun w => by
        rw [← hf]
        exact rfind_calls L [59] w hL (by decide)
      have hend : Hid (∀ w, Calls Tryz.prog 33 #[.string (sOf s0), .string ⟨#[9, 10, 13, 32]⟩] w fun e w' => e = .returned (.string (sOf (Lib.trimRightS s0 blanks))) ∧ w = w') := fun w => rend_calls s0 blanks w (by omega) (by decide)
      have HN3 : Hid (namesB l = if isTok (Lib.trimRightS s0 blanks) then some (k0, Lib.trimRightS s0 blanks, r2) else none) := by
        have h := HN2.out
        simp only [List.tail_cons, hc, hk, List.isEmpty_cons, Bool.not_false, Bool.true_and] at h
        exact h
      have hl4 := trimRight_len s0 blanks
      have hsz2 : (sOf L).size = L.length := size_sOf L
      have hex2 : (sOf L).extract 0 s0.length = sOf s0 := by rw [hl2]; exact ext_to _ _
      have HEX2 : Hid (L.drop s0.length = r2) := by rw [hl2, List.drop_left]; exact rfl
      generalize Lib.trimRightS s0 blanks = sub at hend HN3 hl4
      have CS := Lib.hid (fun w => ris_calls (sOf sub) w (by rw [size_sOf]; omega))
      have LS := Lib.hid (fun w => rlower_calls (sOf sub) w (by rw [size_sOf]; omega))
      rw [data_sOf] at CS LS
      clear hf hc HN2 HEX hl2 hk
      obtain ⟨k, hkk⟩ : ∃ k, s0.length = k := ⟨_, rfl⟩
      rw [hkk] at hlen2 hfind hex2 HEX2 hl4
      clear hkk
      go_wp2_with (go_at_call 31; refine (CK.out _).mono ?_; rintro e w' ⟨rfl, rfl⟩)
      refine (LK.out _).mono ?_
      rintro e w2 ⟨rfl, hb2⟩
      have HS2 := Lib.hid (HS0.out.step hb2)
      clear hb2 HS0 CK LK
      go_wp2_with fail
      have HK : Hid (RS w (w2.alloc (.cells #[.string (sOf (low k0)), .string ⟨#[]⟩, .slice none 0 0] 25)) w2.heap.size (.string (sOf (low k0))) (.string ⟨#[]⟩) (.slice none 0 0) []) :=
        have hA : Below w2.heap.size w2 (w2.alloc (.cells #[.string (sOf (low k0)), .string ⟨#[]⟩, .slice none 0 0] 25)) := (Below.refl _ w2).alloc (Nat.le_refl _) _
        { below := HS2.out.below.trans (hA.mono HS2.out.below.size), res := (HS2.out.step hA).blk, ge := HS2.out.lt, blk := heap_alloc_new w2 _, own := own_nil _ _ _ _ }
      generalize w2.alloc (.cells #[.string (sOf (low k0)), .string ⟨#[]⟩, .slice none 0 0] 25) = w3 at HK ⊢
      generalize w2.heap.size = K at HK ⊢
      clear HS2
      refine (hfind.out _).mono ?_
      rintro e w' ⟨rfl, rfl⟩
      go_wp2_with fail
      refine (hend.out _).mono ?_
      rintro e w' ⟨rfl, rfl⟩
      clear hfind hend
      cases hk : isTok sub with
      | false =>
        have HF : Hid (R = (([], [], []), false)) := by
          rw [HR.out]
          unfold parseB
          rw [HN3.out, hk]
          exact rfl
        rw [hk] at CS
        clear hk HN3 LS
        have z0 := HK.out.ms.c0
        have z1 := HK.out.ms.c1
        have z2 := HK.out.ms.c2
        have f0 := HK.out.ms.frozen 0
        have f1 := HK.out.ms.frozen 1
        have f2 := HK.out.ms.frozen 2
        go_wp2_with (go_at_call 31; refine (CS.out _).mono ?_; rintro e w' ⟨rfl, rfl⟩)
        have S := HK.out.ms.set (.string ⟨#[]⟩) (.string ⟨#[]⟩) (.slice none 0 0)
        have y0 := S.c0
        have y1 := S.c1
        have y2 := S.c2
        refine bodyPost_ret (v := .tuple #[.agg #[.string ⟨#[]⟩, .string ⟨#[]⟩, .slice none 0 0], .bool false]) (by simp [results, Tryz.results11, go_sem, y0, y1, y2]) rfl ⟨.slice none 0 0, by rw [HF.out]; rfl, by rw [HF.out]; exact own_nil _ _ _ _, S.below⟩
      | true =>
        have HF : Hid (R = ((low k0, low sub, paramsB r2.length [] r2), true)) := by
          rw [HR.out]
          unfold parseB
          rw [HN3.out, hk]
          exact rfl
        rw [hk] at CS
        clear hk HN3
        go_wp2_with (go_at_call 31; refine (CS.out _).mono ?_; rintro e w' ⟨rfl, rfl⟩)
        refine (LS.out _).mono ?_
        rintro e w4 ⟨rfl, hb4⟩
        have HK4 := Lib.hid (HK.out.step hb4)
        clear hb4 HK CS LS
        have z1 := HK4.out.c1
        have f1 := HK4.out.frozen 1
        go_wp2_with fail
        have HK5 := Lib.hid (HK4.out.sub (.string (sOf (low sub))))
        generalize w4.setCell ⟨K, 1, none⟩ (.string (sOf (low sub))) = w5 at HK5 ⊢
        clear z1 f1 HK4
        have HP0 : Hid ((L.drop k).length ≤ r2.length ∧ paramsB r2.length [] (L.drop k) = paramsB r2.length [] r2) := by
          have h := HEX2.out
          rw [h]
          exact ⟨Nat.le_refl _, rfl⟩
        have hk0 : k ≤ L.length := by omega
        generalize paramsB r2.length [] r2 = P at HF HP0
        generalize r2.length = G at HP0 hlen2
        clear HEX2 hlen2 hex0 hex1 hex2 hl4
        clear HR hj hjl hlen hj1 hj1i hsz hl1
        go_loopg [4] G (fun gg at_ wr => ∃ (k : Nat) (ps : List Pm) (v : Value), at_ = .int .i64 k ∧ k ≤ L.length ∧ Hid ((L.drop k).length ≤ gg ∧ paramsB gg ps (L.drop k) = P) ∧ Hid (RS w wr K (.string (sOf (low k0))) (.string (sOf (low sub))) v ps) ∧ ps.length ≤ k)
        case atStart => exact ⟨k, [], _, rfl, hk0, HP0.out, HK5.out, Nat.zero_le _⟩
        case round =>
          clear HP0 HK5 hk0
          obtain ⟨k, ps, v, rfl, hk, HP, HRS, hpk⟩ := hrel
          obtain ⟨A, cc, rfl, hcc, hprd⟩ := prd_of_own HRS.out.own
          have HPRD := Lib.hid hprd
          clear hprd
          by_cases hlt : k < L.length
          · have hki : (k : Int) < (L.length : Int) := by omega
            obtain ⟨c1, t, hct⟩ : ∃ c1 t, L.drop k = c1 :: t := ⟨_, _, List.drop_eq_getElem_cons hlt⟩
            have htd : L.drop (k + 1) = t := by rw [← List.drop_drop, hct]; rfl
            obtain ⟨g, rfl⟩ : ∃ g, gk = g + 1 := ⟨gk - 1, by have := HP.out.1; rw [hct] at this; simp at this; omega⟩
            have HCT := Lib.hid hct
            obtain ⟨k1, hk1⟩ : ∃ k1, k + 1 = k1 := ⟨_, rfl⟩
            have hk1i : (k : Int) + 1 = (k1 : Int) := by omega
            have HT0 : Hid (Lib.trimLeftS (L.drop k1) blanks = Lib.trimLeftS t blanks) := by
              show _ = _
              rw [← hk1, htd]
            have hk1l : k1 ≤ L.length := by omega
            obtain ⟨T, hT⟩ : ∃ T, Lib.trimLeftS t blanks = T := ⟨_, rfl⟩
            have HTT := Lib.hid hT
            rw [hT] at HT0
            clear hct htd hT
            go_wp2_with fail
            go_loopg [4] L.length (fun gg at_ wr' => ∃ q : Nat, L.length + k1 - q = gg ∧ k1 ≤ q ∧ q ≤ L.length ∧ at_ = .int .i64 q ∧ Hid (Lib.trimLeftS (L.drop q) blanks = T) ∧ wr = wr')
            case atStart => exact ⟨k1, by omega, Nat.le_refl _, hk1l, rfl, HT0.out, rfl⟩
            case round =>
              clear HT0
              obtain ⟨q, rfl, hkq, hq, rfl, HTq, rfl⟩ := hrel
              by_cases hltq : q < L.length
              · have hqi : (q : Int) < (L.length : Int) := by omega
                obtain ⟨b, hb⟩ : ∃ b, L[q]'hltq = b := ⟨_, rfl⟩
                have hbk : ∀ h, (sOf L)[q]'h = b := fun h => by rw [← hb]; rfl
                have hdr : L.drop q = b :: L.drop (q + 1) := by rw [List.drop_eq_getElem_cons hltq, hb]
                have CH : Hid (∀ w, Calls Tryz.prog 34 #[.string ⟨#[9, 10, 13, 32]⟩, .int .u8 b.toNat] w fun e w' => e = .returned (.bool (blanks.contains b)) ∧ w = w') := fun w => has_calls blanks b w (by decide)
                clear hb
                cases hbl : blanks.contains b with
                | true =>
                  have HT1 : Hid (Lib.trimLeftS (L.drop (q + 1)) blanks = T) := by
                    have h := HTq.out
                    rw [hdr] at h
                    simp only [Lib.trimLeftS, List.dropWhile_cons, hbl, if_true] at h
                    exact h
                  rw [hbl] at CH
                  clear hbl hdr HTq
                  go_wp2_with (go_at_call 34; refine (CH.out _).mono ?_; rintro e w' ⟨rfl, rfl⟩)
                  go_roundg (L.length + k1 - (q + 1))
                  case measure => omega
                  case rel => exact ⟨q + 1, rfl, by omega, by omega, by go_num, HT1.out, rfl⟩
                | false =>
                  have HLT : Hid (L.drop q = T) := by
                    have h := HTq.out
                    rw [hdr] at h
                    simp only [Lib.trimLeftS, List.dropWhile_cons, hbl, Bool.false_eq_true, if_false] at h
                    rw [← h, hdr]
                    try exact rfl
                  rw [hbl] at CH
                  clear hbl hdr HTq
                  obtain ⟨n0, r0, hc⟩ : ∃ n0 r0, cutA T [59, 61] = (n0, r0) := ⟨_, _, rfl⟩
                  obtain ⟨hf, hl3, hlen3⟩ := cut_facts hc
                  have hTl : T.length = L.length - q := by have := congrArg List.length HLT.out; simpa using this.symm
                  have hTm : T.length ≤ 1000000 := by omega
                  have hfind : Hid (∀ w, Calls Tryz.prog 30 #[.string (sOf T), .string ⟨#[59, 61]⟩] w fun e w' => e = .returned (.int .i64 ((n0.length : Nat) : Int)) ∧ w = w') := fun w => by
                    rw [← hf]
                    exact rfind_calls T [59, 61] w hTm (by decide)
                  have hexq : (sOf L).extract q L.length = sOf T := by
                    rw [sOf_ext, HLT.out, ← hTl, List.take_length]
                  obtain ⟨q3, hq3⟩ : ∃ q3, q + n0.length = q3 := ⟨_, rfl⟩
                  have hq3i : (q : Int) + (n0.length : Int) = (q3 : Int) := by omega
                  have hq3l : q3 ≤ L.length := by omega
                  have hq03 : q ≤ q3 := by omega
                  have hexn : (sOf L).extract q q3 = sOf n0 := by
                    rw [sOf_ext, HLT.out, hl3, ← hq3, Nat.add_sub_cancel_left, List.take_left]
                  have HR3 : Hid (L.drop q3 = r0) := by
                    show _ = _
                    rw [← hq3, ← List.drop_drop, HLT.out, hl3, List.drop_left]
                  have LN := Lib.hid (fun w => rlower_calls (sOf n0) w (by rw [size_sOf]; omega))
                  rw [data_sOf] at LN
                  have HQ : Hid (paramsB (g + 1) ps (L.drop k) = stepP g ps (low n0) r0) := by
                    have e := paramsB_cons g ps c1 t
                    rw [HTT.out, hc] at e
                    rw [HCT.out]
                    exact e
                  have hr0h : ∀ c r, r0 = c :: r → ([59, 61] : List UInt8).contains c = true := fun c r h => cutA_head (l := T) (t := r) (by rw [hc]; exact h)
                  have HR0H := Lib.hid hr0h
                  have hnl : (low n0).length ≤ 1000000 := by rw [low_len]; omega
                  clear hr0h hf hc hl3 HCT HTT HLT
                  go_wp2_with (go_at_call 34; refine (CH.out _).mono ?_; rintro e w' ⟨rfl, rfl⟩)
                  refine (hfind.out _).mono ?_
                  rintro e w' ⟨rfl, rfl⟩
                  clear hfind CH
                  go_wp2_with fail
                  refine (LN.out _).mono ?_
                  rintro e wa ⟨rfl, hba⟩
                  have HRSb := Lib.hid (HRS.out.step hba)
                  have HPRDb := Lib.hid (HPRD.out.below hba)
                  clear hba LN HRS HPRD
                  generalize low n0 = nm at HQ hnl ⊢
                  clear hexq hexn hq3i hbk
                  cases r0 with
                  | nil =>
                    have hq3L : (q3 : Int) = (L.length : Int) := by simp at hlen3; omega
                    obtain rfl : P = ps := by
                      have h := HQ.out
                      rw [HP.out.2] at h
                      exact h
                    have x0 := HRSb.out.c0
                    have x1 := HRSb.out.c1
                    have x2 := HRSb.out.c2
                    have z0 := HRSb.out.ms.c0
                    have z1 := HRSb.out.ms.c1
                    have z2 := HRSb.out.ms.c2
                    have f0 := HRSb.out.ms.frozen 0
                    have f1 := HRSb.out.ms.frozen 1
                    have f2 := HRSb.out.ms.frozen 2
                    go_wp2_with fail
                    have S := HRSb.out.ms.set (.string (sOf (low k0))) (.string (sOf (low sub))) (.slice A P.length cc)
                    have y0 := S.c0
                    have y1 := S.c1
                    have y2 := S.c2
                    refine bodyPost_ret (v := .tuple #[.agg #[.string (sOf (low k0)), .string (sOf (low sub)), .slice A P.length cc], .bool true]) (by simp [results, Tryz.results11, go_sem, y0, y1, y2]) rfl ⟨_, by rw [HF.out], ?_, S.below⟩
                    rw [HF.out]
                    exact HRSb.out.fin
                  | cons c r =>
                    have hlen3' : n0.length + (r.length + 1) = T.length := by simpa using hlen3
                    have hq3L : ¬ (q3 : Int) = (L.length : Int) := by omega
                    have hq3lt : q3 < L.length := by omega
                    have hbk : ∀ h, (sOf L)[q3]'h = c := fun h => by
                      have e1 : (sOf L)[q3]'h = L[q3]'hq3lt := rfl
                      have e2 := HR3.out
                      rw [List.drop_eq_getElem_cons hq3lt] at e2
                      exact e1.trans (List.cons.inj e2).1
                    by_cases h59 : c = 59
                    · subst h59
                      have HV4 : Hid (paramsB g ps (L.drop q3) = P) := by
                        show _ = _
                        rw [HR3.out, ← HP.out.2, HQ.out, stepP_ne _ _ _ _ (by rintro ⟨t', c', e, h'⟩; injection e with e1 e2; subst e1; exact absurd h' (by decide))]
                      have hkb : (L.drop q3).length ≤ g := by
                        have h := HP.out.1
                        simp only [List.length_drop] at h ⊢
                        omega
                      go_wp2_with fail
                      go_roundg g
                      case measure => omega
                      case rel => exact ⟨q3, ps, _, rfl, hq3l, ⟨hkb, HV4.out⟩, HRSb.out, by omega⟩
                    · have h61 : c.toNat = 61 := by
                        have h := HR0H.out c r rfl
                        simp only [List.contains_cons, List.contains_nil, Bool.or_false, Bool.or_eq_true, beq_iff_eq] at h
                        rcases h with h | h
                        · exact absurd h h59
                        · rw [h]; rfl
                      have hi59 : ¬ (c.toNat : Int) = 59 := by omega
                      obtain ⟨q4, hq4⟩ : ∃ q4, q3 + 1 = q4 := ⟨_, rfl⟩
                      have hq4i : (q3 : Int) + 1 = (q4 : Int) := by omega
                      have hq4l : q4 ≤ L.length := by omega
                      have HR4 : Hid (L.drop q4 = r) := by
                        show _ = _
                        rw [← hq4, ← List.drop_drop, HR3.out]
                        rfl
                      have hrl : r.length = L.length - q4 := by have := congrArg List.length HR4.out; simpa using this.symm
                      have hexr : (sOf L).extract q4 L.length = sOf r := by
                        rw [sOf_ext, HR4.out, ← hrl, List.take_length]
                      obtain ⟨qv, n, hqn⟩ : ∃ qv n, quotedB r = (qv, n) := ⟨_, _, rfl⟩
                      have hqle := quotedB_le r
                      rw [hqn] at hqle
                      simp only at hqle
                      have CQD := Lib.hid (fun w => rquoted_calls r w (by omega))
                      rw [hqn] at CQD
                      simp only at CQD
                      obtain ⟨v0, rest, hc⟩ : ∃ v0 rest, cutA (r.drop n) [59] = (v0, rest) := ⟨_, _, rfl⟩
                      obtain ⟨hf, hl3, hlen4⟩ := cut_facts hc
                      have hrd : (r.drop n).length = r.length - n := by simp
                      obtain ⟨q5, hq5⟩ : ∃ q5, q4 + n = q5 := ⟨_, rfl⟩
                      have hq5i : (q4 : Int) + (n : Int) = (q5 : Int) := by omega
                      have hq5l : q5 ≤ L.length := by omega
                      have HR5 : Hid (L.drop q5 = r.drop n) := by
                        show _ = _
                        rw [← hq5, ← List.drop_drop, HR4.out]
                      have hex5 : (sOf L).extract q5 L.length = sOf (r.drop n) := by
                        rw [sOf_ext, HR5.out, List.take_of_length_le (by omega)]
                      have hfind : Hid (∀ w, Calls Tryz.prog 30 #[.string (sOf (r.drop n)), .string ⟨#[59]⟩] w fun e w' => e = .returned (.int .i64 ((v0.length : Nat) : Int)) ∧ w = w') := fun w => by
                        rw [← hf]
                        exact rfind_calls (r.drop n) [59] w (by omega) (by decide)
                      obtain ⟨q6, hq6⟩ : ∃ q6, q5 + v0.length = q6 := ⟨_, rfl⟩
                      have hq6i : (q5 : Int) + (v0.length : Int) = (q6 : Int) := by omega
                      have hq6l : q6 ≤ L.length := by omega
                      have hq56 : q5 ≤ q6 := by omega
                      have hexv : (sOf L).extract q5 q6 = sOf v0 := by
                        rw [sOf_ext, HR5.out, hl3, ← hq6, Nat.add_sub_cancel_left, List.take_left]
                      have HR6 : Hid (L.drop q6 = rest) := by
                        show _ = _
                        rw [← hq6, ← List.drop_drop, HR5.out, hl3, List.drop_left]
                      have HVB : Hid (valueB r = if 0 < n then (qv, rest, true) else (Lib.trimRightS (cutA r [59]).1 blanks, (cutA r [59]).2, !(Lib.trimRightS (cutA r [59]).1 blanks).isEmpty)) := by
                        show _ = _
                        unfold valueB
                        rw [hqn]
                        simp only [hc]
                      have HC0 : Hid (n = 0 → cutA r [59] = (v0, rest)) := by
                        intro h
                        rw [h] at hc
                        simpa using hc
                      have HSP : Hid (stepP g ps nm (c :: r) = paramsB g (if (valueB r).2.2 && !ps.any (·.1 == nm) && isTok nm && quotB (valueB r).1 then ps ++ [(nm, (valueB r).1)] else ps) (valueB r).2.1) := stepP_eq g ps nm c r h61
                      have CR : Hid (∀ w, Calls Tryz.prog 33 #[.string (sOf v0), .string ⟨#[9, 10, 13, 32]⟩] w fun e w' => e = .returned (.string (sOf (Lib.trimRightS v0 blanks))) ∧ w = w') := fun w => rend_calls v0 blanks w (by omega) (by decide)
                      have hkb : (L.drop q6).length ≤ g := by
                        have h := HP.out.1
                        simp only [List.length_drop] at h ⊢
                        omega
                      have hkq6 : k + 1 ≤ q6 := by omega
                      have hv0l : v0.length ≤ 1000000 := by omega
                      have hqvl : qv.length ≤ 1000000 := by omega
                      clear hqn hf hc hl3 HR3 HR4 HR5 h59 h61 HR0H
                      generalize r.drop n = rr at hfind hex5 hrd hlen4
                      go_wp2_with fail
                      refine (CQD.out _).mono ?_
                      rintro e wb ⟨rfl, hbb⟩
                      have HRSa := Lib.hid (HRSb.out.step hbb)
                      have HPRDa := Lib.hid (HPRDb.out.below hbb)
                      clear hbb HRSb HPRDb CQD hbk hexr
                      go_wp2_with fail
                      refine (hfind.out _).mono ?_
                      rintro e w' ⟨rfl, rfl⟩
                      clear hfind hex5 hq5i hq4i
                      have x2 := HRSa.out.c2
                      have CG := Lib.hid (rget_calls A cc ps nm wb HPRDa.out)
                      have hgb := getB_any ps nm
                      generalize getB ps nm = gb at CG hgb
                      obtain ⟨gv, gt⟩ := gb
                      simp only at CG hgb
                      subst hgb
                      by_cases hn : n = 0
                      · have hni : (n : Int) = 0 := by omega
                        have hc0 := HC0.out hn
                        have HV0 : Hid (stepP g ps nm (c :: r) = paramsB g (if !(Lib.trimRightS v0 blanks).isEmpty && !ps.any (·.1 == nm) && isTok nm && quotB (Lib.trimRightS v0 blanks) then ps ++ [(nm, Lib.trimRightS v0 blanks)] else ps) rest) := by
                          have h := HSP.out
                          have e := HVB.out
                          rw [if_neg (by omega), hc0] at e
                          rw [e] at h
                          exact h
                        have hvl : (Lib.trimRightS v0 blanks).length ≤ 1000000 := Nat.le_trans (trimRight_len _ _) hv0l
                        clear HSP HVB HC0 hc0 hn
                        generalize Lib.trimRightS v0 blanks = val at HV0 CR hvl
                        by_cases hve : val = []
                        · subst hve
                          have hts : (sOf []).toList = [] := toList_sOf []
                          have HV : Hid (stepP g ps nm (c :: r) = paramsB g ps rest) := HV0.out
                          clear HV0
                          have HV4 : Hid (paramsB g ps (L.drop q6) = P) := by
                            show _ = _
                            rw [HR6.out, ← HP.out.2, HQ.out, HV.out]
                            try exact rfl
                          clear HQ HV
                          go_wp2_with (first | (go_at_call 33; refine (CR.out _).mono ?_; rintro e w' ⟨rfl, rfl⟩) | (go_at_call 19; refine Calls.mono CG.out ?_; rintro e w' ⟨rfl, rfl⟩))
                          go_roundg g
                          case measure => omega
                          case rel => exact ⟨q6, ps, _, rfl, hq6l, ⟨hkb, HV4.out⟩, HRSa.out, by omega⟩
                        · have hS3 : (sOf val).toList.isEmpty = false := by rw [toList_sOf]; simpa using hve
                          have hS4 : ¬ (sOf val).toList = [] := by rw [toList_sOf]; exact hve
                          have hie : val.isEmpty = false := by simpa using hve
                          have HV : Hid (stepP g ps nm (c :: r) = paramsB g (if !ps.any (·.1 == nm) && isTok nm && quotB val then ps ++ [(nm, val)] else ps) rest) := by
                            have h := HV0.out
                            rw [hie] at h
                            exact h
                          clear HV0 hie hve
                          have CI := Lib.hid (fun w => ris_calls (sOf nm) w (by rw [size_sOf]; omega))
                          have CQ := Lib.hid (fun w => rquot_calls val w (by omega))
                          rw [data_sOf] at CI
                          cases hth : ps.any (fun x => x.1 == nm) with
                          | true =>
                            have HV4 : Hid (paramsB g ps (L.drop q6) = P) := by
                              show _ = _
                              rw [HR6.out, ← HP.out.2, HQ.out, HV.out, hth]
                              try exact rfl
                            rw [hth] at CG
                            clear HQ HV hth CI CQ
                            go_wp2_with (first | (go_at_call 33; refine (CR.out _).mono ?_; rintro e w' ⟨rfl, rfl⟩) | (go_at_call 19; refine Calls.mono CG.out ?_; rintro e w' ⟨rfl, rfl⟩))
                            go_roundg g
                            case measure => omega
                            case rel => exact ⟨q6, ps, _, rfl, hq6l, ⟨hkb, HV4.out⟩, HRSa.out, by omega⟩
                          | false =>
                            rw [hth] at CG
                            cases htok : isTok nm with
                            | false =>
                              have HV4 : Hid (paramsB g ps (L.drop q6) = P) := by
                                show _ = _
                                rw [HR6.out, ← HP.out.2, HQ.out, HV.out, hth, htok]
                                try exact rfl
                              rw [htok] at CI
                              clear HQ HV hth htok CQ
                              go_wp2_with (first | (go_at_call 33; refine (CR.out _).mono ?_; rintro e w' ⟨rfl, rfl⟩) | (go_at_call 19; refine Calls.mono CG.out ?_; rintro e w' ⟨rfl, rfl⟩) | (go_at_call 31; refine (CI.out _).mono ?_; rintro e w' ⟨rfl, rfl⟩))
                              go_roundg g
                              case measure => omega
                              case rel => exact ⟨q6, ps, _, rfl, hq6l, ⟨hkb, HV4.out⟩, HRSa.out, by omega⟩
                            | true =>
                              rw [htok] at CI
                              cases hq : quotB val with
                              | false =>
                                have HV4 : Hid (paramsB g ps (L.drop q6) = P) := by
                                  show _ = _
                                  rw [HR6.out, ← HP.out.2, HQ.out, HV.out, hth, htok, hq]
                                  try exact rfl
                                rw [hq] at CQ
                                clear HQ HV hth htok hq
                                go_wp2_with (first | (go_at_call 33; refine (CR.out _).mono ?_; rintro e w' ⟨rfl, rfl⟩) | (go_at_call 19; refine Calls.mono CG.out ?_; rintro e w' ⟨rfl, rfl⟩) | (go_at_call 31; refine (CI.out _).mono ?_; rintro e w' ⟨rfl, rfl⟩))
                                refine (CQ.out _).mono ?_
                                rintro e w9 ⟨rfl, hb9⟩
                                have HRS9 := Lib.hid (HRSa.out.step hb9)
                                clear hb9
                                go_wp2_with fail
                                go_roundg g
                                case measure => omega
                                case rel => exact ⟨q6, ps, _, rfl, hq6l, ⟨hkb, HV4.out⟩, HRS9.out, by omega⟩
                              | true =>
                                have HV4 : Hid (paramsB g (ps ++ [(nm, val)]) (L.drop q6) = P) := by
                                  show _ = _
                                  rw [HR6.out, ← HP.out.2, HQ.out, HV.out, hth, htok, hq]
                                  try exact rfl
                                rw [hq] at CQ
                                clear HQ HV hth htok hq
                                go_wp2_with (first | (go_at_call 33; refine (CR.out _).mono ?_; rintro e w' ⟨rfl, rfl⟩) | (go_at_call 19; refine Calls.mono CG.out ?_; rintro e w' ⟨rfl, rfl⟩) | (go_at_call 31; refine (CI.out _).mono ?_; rintro e w' ⟨rfl, rfl⟩))
                                refine (CQ.out _).mono ?_
                                rintro e w9 ⟨rfl, hb9⟩
                                have HRS9 := Lib.hid (HRSa.out.step hb9)
                                clear hb9 HRSa x2
                                have x2 := HRS9.out.c2
                                obtain ⟨i0, hi, hz0, hz1, hz2⟩ := info_parts info36
                                go_wp2_with (at_builtin; refine wpList_append_own _ rfl (.tmp 141) (.tmp 145) _ rfl w.heap.size 36 i0 _ 2 32 Tryz.underlying23 hi hz0 hz1 hz2 rfl (by omega) _ ps.length (cellsP ps) rfl (HRS9.out.own.alloc _) ⟨w9.heap.size, 0, none⟩ 1 1 (encP (nm, val)) rfl rfl ?c1 ?c2 ?c3 ?c4 ?c5 ?_)
                                case c1 =>
                                  intro j u hj
                                  match j, hj with
                                  | 0, hj => simp [encP] at hj; subst hj; simp [Addr.add]
                                  | 1, hj => simp [encP] at hj; subst hj; simp [Addr.add]
                                case c2 =>
                                  intro u hu
                                  simp [encP] at hu
                                  rcases hu with rfl | rfl <;> rfl
                                case c3 => unfold maxLen; omega
                                case c4 => omega
                                case c5 => have := HRS9.out.below.size; simp; omega
                                · intro v' w10 hown hg _
                                  have hown2 : w10.ownsRow w.heap.size 36 2 v' (ps ++ [(nm, val)]).length (cellsP (ps ++ [(nm, val)])) := by
                                    rw [cellsP_snoc, List.length_append]
                                    exact hown
                                  obtain ⟨A', cc', hv', _, _⟩ := prd_of_own hown2
                                  have hv2 : v' = .slice A' (ps.length + 1) cc' := by rw [hv', List.length_append]; rfl
                                  clear hv' hown2
                                  subst hv2
                                  have HRSx := HRS9.out.step (w1 := w9.alloc (.cells #[.string (sOf nm), .string (sOf val)] 36)) ((Below.refl _ w9).alloc (Nat.le_refl _) _)
                                  have hz := HRSx.grownK hg
                                  have HRSf := Lib.hid (HRSx.push (p := (nm, val)) hown hg)
                                  have z2 : w10.cell? ⟨K, 2, none⟩ = some (.slice A ps.length cc) := by simp [World.cell?, hz]
                                  have f2 : w10.frozen? ⟨K, 2, none⟩ = false := by simp [World.frozen?, hz]
                                  clear hown hg HRS9 HRSx x2 hz hz0 hz1 hz2 hi
                                  go_wp2_with fail
                                  go_roundg g
                                  case measure => omega
                                  case rel => exact ⟨q6, ps ++ [(nm, val)], _, rfl, hq6l, ⟨hkb, HV4.out⟩, HRSf.out, by rw [List.length_append]; simp; omega⟩
                      · have hn0 : 0 < n := by omega
                        have hni : ¬ (n : Int) = 0 := by omega
                        have hnp : (0 : Int) < (n : Int) := by omega
                        have HV : Hid (stepP g ps nm (c :: r) = paramsB g (if !ps.any (·.1 == nm) && isTok nm && quotB qv then ps ++ [(nm, qv)] else ps) rest) := by
                          have h := HSP.out
                          have e := HVB.out
                          rw [if_pos hn0] at e
                          rw [e] at h
                          exact h
                        clear HSP HVB HC0 hn hn0 CR
                        obtain ⟨val, hval⟩ : ∃ val, val = qv := ⟨_, rfl⟩
                        rw [← hval] at HV hqvl ⊢
                        clear hval
                        have CI := Lib.hid (fun w => ris_calls (sOf nm) w (by rw [size_sOf]; omega))
                        have CQ := Lib.hid (fun w => rquot_calls val w (by omega))
                        rw [data_sOf] at CI
                        cases hth : ps.any (fun x => x.1 == nm) with
                        | true =>
                          have HV4 : Hid (paramsB g ps (L.drop q6) = P) := by
                            show _ = _
                            rw [HR6.out, ← HP.out.2, HQ.out, HV.out, hth]
                            try exact rfl
                          rw [hth] at CG
                          clear HQ HV hth CI CQ
                          go_wp2_with (first | (go_at_call 19; refine Calls.mono CG.out ?_; rintro e w' ⟨rfl, rfl⟩))
                          go_roundg g
                          case measure => omega
                          case rel => exact ⟨q6, ps, _, rfl, hq6l, ⟨hkb, HV4.out⟩, HRSa.out, by omega⟩
                        | false =>
                          rw [hth] at CG
                          cases htok : isTok nm with
                          | false =>
                            have HV4 : Hid (paramsB g ps (L.drop q6) = P) := by
                              show _ = _
                              rw [HR6.out, ← HP.out.2, HQ.out, HV.out, hth, htok]
                              try exact rfl
                            rw [htok] at CI
                            clear HQ HV hth htok CQ
                            go_wp2_with (first | (go_at_call 19; refine Calls.mono CG.out ?_; rintro e w' ⟨rfl, rfl⟩) | (go_at_call 31; refine (CI.out _).mono ?_; rintro e w' ⟨rfl, rfl⟩))
                            go_roundg g
                            case measure => omega
                            case rel => exact ⟨q6, ps, _, rfl, hq6l, ⟨hkb, HV4.out⟩, HRSa.out, by omega⟩
                          | true =>
                            rw [htok] at CI
                            cases hq : quotB val with
                            | false =>
                              have HV4 : Hid (paramsB g ps (L.drop q6) = P) := by
                                show _ = _
                                rw [HR6.out, ← HP.out.2, HQ.out, HV.out, hth, htok, hq]
                                try exact rfl
                              rw [hq] at CQ
                              clear HQ HV hth htok hq
                              go_wp2_with (first | (go_at_call 19; refine Calls.mono CG.out ?_; rintro e w' ⟨rfl, rfl⟩) | (go_at_call 31; refine (CI.out _).mono ?_; rintro e w' ⟨rfl, rfl⟩))
                              refine (CQ.out _).mono ?_
                              rintro e w9 ⟨rfl, hb9⟩
                              have HRS9 := Lib.hid (HRSa.out.step hb9)
                              clear hb9
                              go_wp2_with fail
                              go_roundg g
                              case measure => omega
                              case rel => exact ⟨q6, ps, _, rfl, hq6l, ⟨hkb, HV4.out⟩, HRS9.out, by omega⟩
                            | true =>
                              have HV4 : Hid (paramsB g (ps ++ [(nm, val)]) (L.drop q6) = P) := by
                                show _ = _
                                rw [HR6.out, ← HP.out.2, HQ.out, HV.out, hth, htok, hq]
                                try exact rfl
                              rw [hq] at CQ
                              clear HQ HV hth htok hq
                              go_wp2_with (first | (go_at_call 19; refine Calls.mono CG.out ?_; rintro e w' ⟨rfl, rfl⟩) | (go_at_call 31; refine (CI.out _).mono ?_; rintro e w' ⟨rfl, rfl⟩))
                              refine (CQ.out _).mono ?_
                              rintro e w9 ⟨rfl, hb9⟩
                              have HRS9 := Lib.hid (HRSa.out.step hb9)
                              clear hb9 HRSa x2
                              have x2 := HRS9.out.c2
                              obtain ⟨i0, hi, hz0, hz1, hz2⟩ := info_parts info36
                              go_wp2_with (at_builtin; refine wpList_append_own _ rfl (.tmp 141) (.tmp 145) _ rfl w.heap.size 36 i0 _ 2 32 Tryz.underlying23 hi hz0 hz1 hz2 rfl (by omega) _ ps.length (cellsP ps) rfl (HRS9.out.own.alloc _) ⟨w9.heap.size, 0, none⟩ 1 1 (encP (nm, val)) rfl rfl ?c1 ?c2 ?c3 ?c4 ?c5 ?_)
                              case c1 =>
                                intro j u hj
                                match j, hj with
                                | 0, hj => simp [encP] at hj; subst hj; simp [Addr.add]
                                | 1, hj => simp [encP] at hj; subst hj; simp [Addr.add]
                              case c2 =>
                                intro u hu
                                simp [encP] at hu
                                rcases hu with rfl | rfl <;> rfl
                              case c3 => unfold maxLen; omega
                              case c4 => omega
                              case c5 => have := HRS9.out.below.size; simp; omega
                              · intro v' w10 hown hg _
                                have hown2 : w10.ownsRow w.heap.size 36 2 v' (ps ++ [(nm, val)]).length (cellsP (ps ++ [(nm, val)])) := by
                                  rw [cellsP_snoc, List.length_append]
                                  exact hown
                                obtain ⟨A', cc', hv', _, _⟩ := prd_of_own hown2
                                have hv2 : v' = .slice A' (ps.length + 1) cc' := by rw [hv', List.length_append]; rfl
                                clear hv' hown2
                                subst hv2
                                have HRSx := HRS9.out.step (w1 := w9.alloc (.cells #[.string (sOf nm), .string (sOf val)] 36)) ((Below.refl _ w9).alloc (Nat.le_refl _) _)
                                have hz := HRSx.grownK hg
                                have HRSf := Lib.hid (HRSx.push (p := (nm, val)) hown hg)
                                have z2 : w10.cell? ⟨K, 2, none⟩ = some (.slice A ps.length cc) := by simp [World.cell?, hz]
                                have f2 : w10.frozen? ⟨K, 2, none⟩ = false := by simp [World.frozen?, hz]
                                clear hown hg HRS9 HRSx x2 hz hz0 hz1 hz2 hi
                                go_wp2_with fail
                                go_roundg g
                                case measure => omega
                                case rel => exact ⟨q6, ps ++ [(nm, val)], _, rfl, hq6l, ⟨hkb, HV4.out⟩, HRSf.out, by rw [List.length_append]; simp; omega⟩
              · obtain rfl : q = L.length := by omega
                have hqi : ¬ ((L.length : Int) < (L.length : Int)) := by omega
                have hT0 : T = [] := by
                  have h := HTq.out
                  rw [List.drop_eq_nil_of_le (Nat.le_refl _)] at h
                  exact h.symm
                obtain rfl : P = ps := by
                  have e := paramsB_cons g ps c1 t
                  rw [HTT.out, hT0] at e
                  rw [← HP.out.2, HCT.out]
                  exact e
                have hexe : (sOf L).extract L.length L.length = sOf [] := by rw [sOf_ext]; simp
                have hfind : Hid (∀ w, Calls Tryz.prog 30 #[.string (sOf []), .string ⟨#[59, 61]⟩] w fun e w' => e = .returned (.int .i64 0) ∧ w = w') := fun w => rfind_calls [] [59, 61] w (by decide) (by decide)
                have LN := Lib.hid (fun w => rlower_calls (sOf []) w (by rw [size_sOf]; decide))
                clear HTq HTT HCT
                go_wp2_with fail
                refine (hfind.out _).mono ?_
                rintro e w' ⟨rfl, rfl⟩
                clear hfind
                go_wp2_with fail
                refine (LN.out _).mono ?_
                rintro e wa ⟨rfl, hba⟩
                have HRSb := Lib.hid (HRS.out.step hba)
                clear hba LN HRS HPRD
                have x0 := HRSb.out.c0
                have x1 := HRSb.out.c1
                have x2 := HRSb.out.c2
                have z0 := HRSb.out.ms.c0
                have z1 := HRSb.out.ms.c1
                have z2 := HRSb.out.ms.c2
                have f0 := HRSb.out.ms.frozen 0
                have f1 := HRSb.out.ms.frozen 1
                have f2 := HRSb.out.ms.frozen 2
                go_wp2_with fail
                have S := HRSb.out.ms.set (.string (sOf (low k0))) (.string (sOf (low sub))) (.slice A P.length cc)
                have y0 := S.c0
                have y1 := S.c1
                have y2 := S.c2
                refine bodyPost_ret (v := .tuple #[.agg #[.string (sOf (low k0)), .string (sOf (low sub)), .slice A P.length cc], .bool true]) (by simp [results, Tryz.results11, go_sem, y0, y1, y2]) rfl ⟨_, by rw [HF.out], ?_, S.below⟩
                rw [HF.out]
                exact HRSb.out.fin
          · obtain rfl : k = L.length := by omega
            have hki : ¬ ((L.length : Int) < (L.length : Int)) := by omega
            obtain rfl : P = ps := by
              have h := HP.out.2
              rw [List.drop_eq_nil_of_le (Nat.le_refl _), paramsB_nil] at h
              exact h.symm
            have x0 := HRS.out.c0
            have x1 := HRS.out.c1
            have x2 := HRS.out.c2
            have z0 := HRS.out.ms.c0
            have z1 := HRS.out.ms.c1
            have z2 := HRS.out.ms.c2
            have f0 := HRS.out.ms.frozen 0
            have f1 := HRS.out.ms.frozen 1
            have f2 := HRS.out.ms.frozen 2
            go_wp2_with fail
            have S := HRS.out.ms.set (.string (sOf (low k0))) (.string (sOf (low sub))) (.slice A P.length cc)
            have y0 := S.c0
            have y1 := S.c1
            have y2 := S.c2
            refine bodyPost_ret (v := .tuple #[.agg #[.string (sOf (low k0)), .string (sOf (low sub)), .slice A P.length cc], .bool true]) (by simp [results, Tryz.results11, go_sem, y0, y1, y2]) rfl ⟨_, by rw [HF.out], ?_, S.below⟩
            rw [HF.out]
            exact HRS.out.fin
end Go.Proofs.YtjmjmnagnbgmfaaGreatDoor
