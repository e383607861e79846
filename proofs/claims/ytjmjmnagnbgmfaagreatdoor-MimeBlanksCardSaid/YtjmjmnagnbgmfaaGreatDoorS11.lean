/- mime.Parse: a type. -/
import Derived.Test.YtjmjmnagnbgmfaaGreatDoorS10
namespace Go.Proofs.YtjmjmnagnbgmfaaGreatDoor
open Go.RowKit Go.Shelf Go.Lib Go.Proofs.YtjmjmnagnbgmfaaGreatDoorW.PrintWords PMimeReads

/-- A type: its two names, its parameters. -/
abbrev Mm := List UInt8 × List UInt8 × List Pm
/-- The two names as they stand, and what stands behind them, of a text; none: there is no type. -/
def namesB (l : List UInt8) : Option (List UInt8 × List UInt8 × List UInt8) :=
  let c := cutB (Lib.trimS l blanks) 47
  let d := cutA c.2.1 [59]
  if c.2.2 && isTok c.1 && isTok (Lib.trimRightS d.1 blanks) then some (c.1, Lib.trimRightS d.1 blanks, d.2) else none
/-- The type that a text is read as, and whether there is one. -/
def parseB (l : List UInt8) : Mm × Bool :=
  match namesB l with
  | none => (([], [], []), false)
  | some (k, s, r) => ((low k, low s, paramsB r.length [] r), true)

theorem trimS_len (l cs : List UInt8) : (Lib.trimS l cs).length ≤ l.length := by
  unfold Lib.trimS
  exact Nat.le_trans (trimLeft_len _ _) (trimRight_len _ _)
theorem cutB_len (l : List UInt8) (c : UInt8) : (cutB l c).1.length ≤ l.length ∧ (cutB l c).2.1.length ≤ l.length := by
  have h1 := (List.takeWhile_sublist (fun x : UInt8 => x != c) (l := l)).length_le
  have h2 := (List.dropWhile_sublist (fun x : UInt8 => x != c) (l := l)).length_le
  simp only [cutB, List.length_tail]
  omega

/-- A block of three cells in the world of a call. -/
structure MS (w wr : World) (M : Nat) (a b c : Value) : Prop where
  below : Below w.heap.size w wr
  ge : w.heap.size ≤ M
  blk : wr.heap[M]? = some (.cells #[a, b, c] 25 (0, 0))
namespace MS
variable {w wr w1 : World} {M : Nat} {a b c : Value}
theorem lt (h : MS w wr M a b c) : M < wr.heap.size := (Array.getElem?_eq_some_iff.1 h.blk).1
theorem c0 (h : MS w wr M a b c) : wr.cell? ⟨M, 0, none⟩ = some a := by simp [World.cell?, h.blk]
theorem c1 (h : MS w wr M a b c) : wr.cell? ⟨M, 1, none⟩ = some b := by simp [World.cell?, h.blk]
theorem c2 (h : MS w wr M a b c) : wr.cell? ⟨M, 2, none⟩ = some c := by simp [World.cell?, h.blk]
theorem frozen (h : MS w wr M a b c) (j : Nat) : wr.frozen? ⟨M, j, none⟩ = false := by simp [World.frozen?, h.blk]
theorem step (h : MS w wr M a b c) (hb : Below wr.heap.size wr w1) : MS w w1 M a b c := ⟨h.below.trans (hb.mono h.below.size), h.ge, (hb.block M h.lt).trans h.blk⟩
theorem set (h : MS w wr M a b c) (a' b' c' : Value) : MS w (((wr.setCell ⟨M, 0, none⟩ a').setCell ⟨M, 1, none⟩ b').setCell ⟨M, 2, none⟩ c') M a' b' c' := by
  refine ⟨((h.below.setCell h.ge _).setCell h.ge _).setCell h.ge _, h.ge, ?_⟩
  simp [World.setCell, Array.getElem?_modify, h.blk]
end MS

set_option maxHeartbeats 8000000 in
set_option maxRecDepth 1000000 in
theorem parse_calls (l : List UInt8) (w : World) (hs : l.length ≤ 1000000) (hT : Tabs w) :
    Calls Tryz.prog 10 #[.string (sOf l)] w fun e w' => ∃ v, e = .returned (.tuple #[.agg #[.string (sOf (parseB l).1.1), .string (sOf (parseB l).1.2.1), v], .bool (parseB l).2]) ∧ w'.ownsRow w.heap.size 36 2 v (parseB l).1.2.2.length (cellsP (parseB l).1.2.2) ∧ Below w.heap.size w w' := by
  obtain ⟨R, hR⟩ : ∃ R, R = parseB l := ⟨_, rfl⟩
  rw [← hR]
  have HR := Lib.hid hR
  have HT := Lib.hid hT
  clear hR hT
  have hl1 := trimS_len l blanks
  have HS0 : Hid (MS w (w.alloc (.cells #[.string ⟨#[]⟩, .string ⟨#[]⟩, .slice none 0 0] 25)) w.heap.size (.string ⟨#[]⟩) (.string ⟨#[]⟩) (.slice none 0 0)) :=
    ⟨(Below.refl _ w).alloc (Nat.le_refl _) _, Nat.le_refl _, heap_alloc_new w _⟩
  have htrim := Lib.hid (fun w => trim_calls (sOf l) w (by rw [size_sOf]; omega))
  rw [data_sOf] at htrim
  have HN : Hid (namesB l = (let c := cutB (Lib.trimS l blanks) 47; let d := cutA c.2.1 [59]; if c.2.2 && isTok c.1 && isTok (Lib.trimRightS d.1 blanks) then some (c.1, Lib.trimRightS d.1 blanks, d.2) else none)) := rfl
  generalize Lib.trimS l blanks = l1 at htrim HN hl1
  have hcut := Lib.hid (fun w => cut_calls (sOf l1) 47 w (by rw [size_sOf]; omega))
  rw [data_sOf] at hcut
  have hl2 := cutB_len l1 47
  obtain ⟨kind, rest, ok, hc⟩ : ∃ kind rest ok, cutB l1 47 = (kind, rest, ok) := ⟨_, _, _, rfl⟩
  rw [hc] at hcut hl2 HN
  simp only at hcut hl2
  clear hc
  have hcut2 := Lib.hid (fun w => cut2_calls (sOf rest) ⟨#[59]⟩ w (by rw [size_sOf]; omega) (by decide) semi_ascii)
  rw [data_sOf] at hcut2
  have hl3 := cutA_len rest [59]
  obtain ⟨sub0, rest2, hc⟩ : ∃ sub0 rest2, cutA rest [59] = (sub0, rest2) := ⟨_, _, rfl⟩
  change Hid (∀ w, Calls Tryz.prog 24 _ w fun e w' => e = .returned (.tuple #[.string (sOf (cutA rest [59]).1), .string (sOf (cutA rest [59]).2)]) ∧ _) at hcut2
  rw [hc] at hcut2 hl3
  simp only at hcut2 hl3
  have hright := Lib.hid (fun w => right_calls (sOf sub0) w (by rw [size_sOf]; omega))
  rw [data_sOf] at hright
  have hl4 := trimRight_len sub0 blanks
  have HN2 : Hid (namesB l = if ok && isTok kind && isTok (Lib.trimRightS sub0 blanks) then some (kind, Lib.trimRightS sub0 blanks, rest2) else none) := by
    have := HN.out
    simp only [hc] at this
    exact this
  clear HN hc
  generalize Lib.trimRightS sub0 blanks = sub at hright HN2 hl4
  go_enter Tryz.func10, Tryz.ntmps10
  go_wp2_with fail
  refine (htrim.out _).mono ?_
  rintro e w1 ⟨rfl, hb1⟩
  have HS1 := Lib.hid (HS0.out.step hb1)
  clear hb1 HS0 htrim
  go_wp2_with fail
  refine (hcut.out _).mono ?_
  rintro e w2 ⟨rfl, q2, rfl⟩
  have HS2 := Lib.hid (HS1.out.step (w1 := w1.drewN q2) (below_drewN (Below.refl _ _) q2))
  clear HS1 hcut
  generalize w1.drewN q2 = w2 at HS2 ⊢
  go_wp2_with fail
  refine (hcut2.out _).mono ?_
  rintro e w3 ⟨rfl, hb3⟩
  have HS3 := Lib.hid (HS2.out.step hb3)
  clear hb3 HS2 hcut2
  go_wp2_with fail
  refine (hright.out _).mono ?_
  rintro e w4 ⟨rfl, hb4⟩
  have HS4 := Lib.hid (HS3.out.step hb4)
  clear hb4 HS3 hright
  have CK := Lib.hid (fun w => is_calls (sOf kind) w (by rw [size_sOf]; omega))
  have CS := Lib.hid (fun w => is_calls (sOf sub) w (by rw [size_sOf]; omega))
  rw [data_sOf] at CK CS
  have z0 := HS4.out.c0
  have z1 := HS4.out.c1
  have z2 := HS4.out.c2
  have f0 := HS4.out.frozen 0
  have f1 := HS4.out.frozen 1
  have f2 := HS4.out.frozen 2
  by_cases hall : ok = true ∧ isTok kind = true ∧ isTok sub = true
  · obtain ⟨rfl, h2, h3⟩ := hall
    have hyes : namesB l = some (kind, sub, rest2) := by
      rw [HN2.out, h2, h3]
      rfl
    have HF : Hid (R = ((low kind, low sub, paramsB rest2.length [] rest2), true)) := by
      rw [HR.out]
      unfold parseB
      rw [hyes]
      exact rfl
    rw [h2] at CK
    rw [h3] at CS
    clear hyes h2 h3 z0 z1 z2 f0 f1 f2
    have LK := Lib.hid (fun w => lower_calls (sOf kind) w (by rw [size_sOf]; omega))
    have LS := Lib.hid (fun w => lower_calls (sOf sub) w (by rw [size_sOf]; omega))
    rw [data_sOf] at LK LS
    go_wp2_with fail
    refine (CK.out _).mono ?_
    rintro e w' ⟨rfl, rfl⟩
    go_wp2_with fail
    refine (CS.out _).mono ?_
    rintro e w' ⟨rfl, rfl⟩
    go_wp2_with fail
    refine (LK.out _).mono ?_
    rintro e w5 ⟨rfl, hb5⟩
    have HS5 := Lib.hid (HS4.out.step hb5)
    clear hb5 HS4 CK CS LK
    go_wp2_with fail
    refine (LS.out _).mono ?_
    rintro e w6 ⟨rfl, hb6⟩
    have HS6 := Lib.hid (HS5.out.step hb6)
    clear hb6 HS5 LS
    go_wp2_with fail
    refine (params_calls rest2 w6 (by omega) (HT.out.below HS6.out.below)).mono ?_
    rintro e w7 ⟨v, rfl, hown, hb7⟩
    have HS7 := Lib.hid (HS6.out.step hb7)
    have HO := Lib.hid hown
    obtain ⟨A, cc, rfl, _, _⟩ := prd_of_own hown
    have hge := HS6.out.below.size
    clear hb7 HS6 hown
    have z0 := HS7.out.c0
    have z1 := HS7.out.c1
    have z2 := HS7.out.c2
    have f0 := HS7.out.frozen 0
    have f1 := HS7.out.frozen 1
    have f2 := HS7.out.frozen 2
    go_wp2_with fail
    have S := HS7.out.set (.string (sOf (low kind))) (.string (sOf (low sub))) (.slice A (paramsB rest2.length [] rest2).length cc)
    have y0 := S.c0
    have y1 := S.c1
    have y2 := S.c2
    refine bodyPost_ret (v := .tuple #[.agg #[.string (sOf (low kind)), .string (sOf (low sub)), .slice A (paramsB rest2.length [] rest2).length cc], .bool true]) (by simp [results, Tryz.results10, go_sem, y0, y1, y2]) rfl ⟨_, by rw [HF.out], ?_, S.below⟩
    rw [HF.out]
    have hne : (Value.slice A (paramsB rest2.length [] rest2).length cc).ownBlock ≠ some w.heap.size := by
      intro hk
      obtain ⟨c, hc⟩ := own_typed HO.out _ hk
      rw [HS7.out.blk] at hc
      injection hc with hc
      injection hc with _ ht
      exact absurd ht (by decide)
    have hmove := own_move (w1 := ((w7.setCell ⟨w.heap.size, 0, none⟩ (.string (sOf (low kind)))).setCell ⟨w.heap.size, 1, none⟩ (.string (sOf (low sub)))).setCell ⟨w.heap.size, 2, none⟩ (.slice A (paramsB rest2.length [] rest2).length cc)) HO.out (fun k hk => by
      have hkk : k ≠ w.heap.size := fun e => hne (by rw [hk, e])
      rw [Below.heap_setCell _ _ _ k hkk, Below.heap_setCell _ _ _ k hkk, Below.heap_setCell _ _ _ k hkk])
    exact own_weaken hmove hge
  · have hno : namesB l = none := by
      rw [HN2.out, if_neg (by simp only [Bool.and_eq_true]; exact fun h => hall ⟨h.1.1, h.1.2, h.2⟩)]
    have HF : Hid (R = (([], [], []), false)) := by
      rw [HR.out]
      unfold parseB
      rw [hno]
      exact rfl
    clear hno
    cases ok with
    | false =>
      clear hall CK CS
      go_wp2_with fail
      have S := HS4.out.set (.string ⟨#[]⟩) (.string ⟨#[]⟩) (.slice none 0 0)
      have y0 := S.c0
      have y1 := S.c1
      have y2 := S.c2
      refine bodyPost_ret (v := .tuple #[.agg #[.string ⟨#[]⟩, .string ⟨#[]⟩, .slice none 0 0], .bool false]) (by simp [results, Tryz.results10, go_sem, y0, y1, y2]) rfl ⟨.slice none 0 0, by rw [HF.out]; rfl, by rw [HF.out]; exact own_nil _ _ _ _, S.below⟩
    | true =>
      cases hk : isTok kind with
      | false =>
        rw [hk] at CK
        clear hall CS hk
        go_wp2_with (go_at_call 26; with_reducible refine (CK.out _).mono ?_; rintro e w' ⟨rfl, rfl⟩)
        have S := HS4.out.set (.string ⟨#[]⟩) (.string ⟨#[]⟩) (.slice none 0 0)
        have y0 := S.c0
        have y1 := S.c1
        have y2 := S.c2
        refine bodyPost_ret (v := .tuple #[.agg #[.string ⟨#[]⟩, .string ⟨#[]⟩, .slice none 0 0], .bool false]) (by simp [results, Tryz.results10, go_sem, y0, y1, y2]) rfl ⟨.slice none 0 0, by rw [HF.out]; rfl, by rw [HF.out]; exact own_nil _ _ _ _, S.below⟩
      | true =>
        have hk2 : isTok sub = false := by
          cases h : isTok sub with
          | false => rfl
          | true => exact absurd ⟨rfl, hk, h⟩ hall
        rw [hk] at CK
        rw [hk2] at CS
        clear hall hk hk2
        go_wp2_with fail
        refine (CK.out _).mono ?_
        rintro e w' ⟨rfl, rfl⟩
        go_wp2_with fail
        refine (CS.out _).mono ?_
        rintro e w' ⟨rfl, rfl⟩
        go_wp2_with fail
        have S := HS4.out.set (.string ⟨#[]⟩) (.string ⟨#[]⟩) (.slice none 0 0)
        have y0 := S.c0
        have y1 := S.c1
        have y2 := S.c2
        refine bodyPost_ret (v := .tuple #[.agg #[.string ⟨#[]⟩, .string ⟨#[]⟩, .slice none 0 0], .bool false]) (by simp [results, Tryz.results10, go_sem, y0, y1, y2]) rfl ⟨.slice none 0 0, by rw [HF.out]; rfl, by rw [HF.out]; exact own_nil _ _ _ _, S.below⟩
end Go.Proofs.YtjmjmnagnbgmfaaGreatDoor
