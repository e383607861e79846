import Derived.Test.YtjmjmnagnbgmfaaGreatDoorS47
/-! The reference's Quoted. -/
namespace Go.Proofs.YtjmjmnagnbgmfaaGreatDoor
open Go.RowKit Go.Shelf Go.Lib

theorem scanQ_quote (t : List UInt8) (c : UInt8) (h : c.toNat = 34) : scanQ (c :: t) = ([], 1) := by
  cases t <;> simp [scanQ, h]
theorem scanQ_esc2 (t : List UInt8) (c d : UInt8) (h : c.toNat = 92) : scanQ (c :: d :: t) = (d :: (scanQ t).1, (scanQ t).2 + 2) := by
  simp [scanQ, h]
theorem scanQ_plain (t : List UInt8) (c : UInt8) (h : ¬ c.toNat = 34) (h2 : ¬ (c.toNat = 92 ∧ t ≠ [])) : scanQ (c :: t) = (c :: (scanQ t).1, (scanQ t).2 + 1) := by
  cases t with
  | nil => simp [scanQ, h]
  | cons d t =>
    have : ¬ c.toNat = 92 := fun e => h2 ⟨e, by simp⟩
    simp [scanQ, h, this]

set_option maxHeartbeats 4000000 in
set_option maxRecDepth 1000000 in
theorem rquoted_calls (l : List UInt8) (w : World) (hl : l.length ≤ 1000000) :
    Calls Tryz.prog 35 #[.string (sOf l)] w fun e w' => e = .returned (.tuple #[.string (sOf (quotedB l).1), .int .i64 (((quotedB l).2 : Nat) : Int)]) ∧ Below w.heap.size w w' := by
  cases l with
  | nil =>
    have hts : (sOf []).toList = [] := toList_sOf []
    go_enter Tryz.func35, Tryz.ntmps35
    go_wp2
    go_ret2
    exact ⟨rfl, Below.refl _ _⟩
  | cons c t =>
    have hsz : (sOf (c :: t)).size = t.length + 1 := by rw [size_sOf]; simp
    have hix : ∀ h, (sOf (c :: t))[0]'h = c := fun h => rfl
    have hS3 : (sOf (c :: t)).toList.isEmpty = false := by rw [toList_sOf]; rfl
    have hS4 : ¬ (sOf (c :: t)).toList = [] := by rw [toList_sOf]; simp
    have hc256 := c.toNat_lt
    by_cases h34 : c.toNat = 34
    · have hi34 : (c.toNat : Int) = 34 := by omega
      obtain ⟨A, M, hAM⟩ : ∃ A M, quotedB (c :: t) = (A, M) := ⟨_, _, rfl⟩
      have HAM : Hid ([] ++ (scanQ ((c :: t).drop 1)).1 = A ∧ 1 + (scanQ ((c :: t).drop 1)).2 = M) := by
        rw [quotedB, if_pos h34] at hAM
        injection hAM with e1 e2
        exact ⟨by simpa using e1, by rw [← e2]; simp; omega⟩
      rw [hAM]
      clear hAM
      obtain ⟨l, hl0⟩ : ∃ l, l = c :: t := ⟨_, rfl⟩
      have hll : l.length = t.length + 1 := by rw [hl0]; simp
      rw [← hl0] at HAM hl hsz hix hS3 hS4 ⊢
      rw [← hll] at hsz
      clear hl0 h34
      go_enter Tryz.func35, Tryz.ntmps35
      go_wp2
      go_loopg [4, 5] l.length (fun g v i wr => ∃ (k : Nat) (acc : List UInt8), l.length + 1 - k = g ∧ k ≤ l.length ∧ i = .int .i64 k ∧ acc.length ≤ k ∧ Hid (acc ++ (scanQ (l.drop k)).1 = A ∧ k + (scanQ (l.drop k)).2 = M) ∧ Hid (wr.ownsRow w.heap.size 5 1 v acc.length (Lib.byteCells acc)) ∧ Hid (Below w.heap.size w wr))
      case atStart => exact ⟨1, [], by omega, by omega, rfl, Nat.zero_le _, HAM.out, (show _ from ⟨rfl, .inl ⟨rfl, rfl⟩⟩), Below.refl _ w⟩
      case round =>
        obtain ⟨k, acc, rfl, hk, rfl, hak, HK, HO, HB⟩ := hrel
        clear HAM hix hS3 hS4 hll hc256 hi34
        by_cases hlt : k < l.length
        · have hki : (k : Int) < (l.length : Int) := by omega
          obtain ⟨b, hb⟩ : ∃ b, l[k]'hlt = b := ⟨_, rfl⟩
          have hbk : ∀ h, (sOf l)[k]'h = b := fun h => by rw [← hb]; rfl
          have hb256 := b.toNat_lt
          obtain ⟨n, hn⟩ : ∃ n : Int, (b.toNat : Int) = n := ⟨_, rfl⟩
          have hn256 : 0 ≤ n ∧ n < 256 := by omega
          have HD : Hid (acc ++ (scanQ (b :: l.drop (k + 1))).1 = A ∧ k + (scanQ (b :: l.drop (k + 1))).2 = M) := by
            have h := HK.out
            rw [List.drop_eq_getElem_cons hlt, hb] at h
            exact h
          clear hb HK
          by_cases hb34 : b.toNat = 34
          · have HF : Hid (A = acc ∧ M = k + 1) := by
              have h := HD.out
              rw [scanQ_quote _ _ hb34] at h
              exact ⟨by rw [← h.1]; simp, h.2.symm⟩
            have hi34 : n = 34 := by omega
            have hcv := own_string HO.out
            have hmn : min ((k : Int) + 1) (l.length : Int) = (k : Int) + 1 := by omega
            clear hb34
            go_wp2
            go_ret2
            exact ⟨by rw [HF.out.1, HF.out.2]; rfl, HB.out⟩
          · have hi34 : ¬ n = 34 := by omega
            by_cases h92 : b.toNat = 92
            · have hi92 : n = 92 := by omega
              by_cases hk1 : k + 1 < l.length
              · have hki1 : (k : Int) + 1 < (l.length : Int) := by omega
                obtain ⟨d, hd⟩ : ∃ d, l[k + 1]'hk1 = d := ⟨_, rfl⟩
                have hdk : ∀ h, (sOf l)[k + 1]'h = d := fun h => by rw [← hd]; rfl
                have HF : Hid ((acc ++ [d]) ++ (scanQ (l.drop (k + 2))).1 = A ∧ k + 2 + (scanQ (l.drop (k + 2))).2 = M) := by
                  have h := HD.out
                  rw [List.drop_eq_getElem_cons hk1, hd, scanQ_esc2 _ _ _ h92, show k + 1 + 1 = k + 2 from rfl] at h
                  refine ⟨by rw [← h.1]; simp, ?_⟩
                  have h2 := h.2
                  simp only at h2
                  omega
                clear hd h92 hb34 HD
                have HLEN : acc.length ≤ 1000000 := by omega
                obtain ⟨i0, hi, hz0, hz1, hz2⟩ := info_parts info5b
                have HX : Hid ((wr.alloc (.cells #[.int .u8 (d.toNat : Int)] 5)).ownsRow w.heap.size 5 1 u4 acc.length (Lib.byteCells acc)) := HO.out.alloc _
                go_wp2_with (at_builtin; refine wpList_append_own _ rfl (.tmp 36) (.tmp 40) 34 rfl w.heap.size 5 i0 _ 1 1 Tryz.underlying34 hi hz0 hz1 hz2 rfl (by omega) u4 acc.length (Lib.byteCells acc) rfl HX.out ⟨wr.heap.size, 0, none⟩ 1 1 [.int .u8 (d.toNat : Int)] rfl rfl (one_cell wr 5 _) (one_oc _ _) (by unfold maxLen; omega) (by omega) (by have := HB.out.size; simp; omega) ?_)
                intro v' w3 hown hg _
                have HO3 : Hid (w3.ownsRow w.heap.size 5 1 v' (acc ++ [d]).length (Lib.byteCells (acc ++ [d]))) := by
                  show World.ownsRow _ _ _ _ _ _ _
                  rw [List.length_append, byteCells_snoc]
                  exact hown
                have HB3 : Hid (Below w.heap.size w w3) := (HB.out.alloc HB.out.size _).grown hg (by have := HB.out.size; simp; omega) (own_low HX.out)
                clear hown hg hz0 hz1 hz2 hi HX
                go_wp2
                go_roundg (l.length + 1 - (k + 2))
                case measure => omega
                case rel => exact ⟨k + 2, acc ++ [d], rfl, by omega, by go_num, by simp; omega, HF.out, HO3, HB3⟩
              · have hki1 : ¬ (k : Int) + 1 < (l.length : Int) := by omega
                have HF : Hid ((acc ++ [b]) ++ (scanQ (l.drop (k + 1))).1 = A ∧ k + 1 + (scanQ (l.drop (k + 1))).2 = M) := by
                  have h := HD.out
                  rw [scanQ_plain _ _ hb34 (by rintro ⟨_, h2⟩; exact h2 (List.drop_eq_nil_of_le (by omega)))] at h
                  refine ⟨by rw [← h.1]; simp, ?_⟩
                  have h2 := h.2
                  simp only at h2
                  omega
                clear h92 hb34 HD
                have HLEN : acc.length ≤ 1000000 := by omega
                obtain ⟨i0, hi, hz0, hz1, hz2⟩ := info_parts info5b
                have HX : Hid ((wr.alloc (.cells #[.int .u8 92] 5)).ownsRow w.heap.size 5 1 u4 acc.length (Lib.byteCells acc)) := HO.out.alloc _
                go_wp2_with (at_builtin; refine wpList_append_own _ rfl (.tmp 36) (.tmp 40) 34 rfl w.heap.size 5 i0 _ 1 1 Tryz.underlying34 hi hz0 hz1 hz2 rfl (by omega) u4 acc.length (Lib.byteCells acc) rfl HX.out ⟨wr.heap.size, 0, none⟩ 1 1 [.int .u8 92] rfl rfl (one_cell wr 5 _) (one_oc _ _) (by unfold maxLen; omega) (by omega) (by have := HB.out.size; simp; omega) ?_)
                intro v' w3 hown hg _
                have HO3 : Hid (w3.ownsRow w.heap.size 5 1 v' (acc ++ [b]).length (Lib.byteCells (acc ++ [b]))) := by
                  show World.ownsRow _ _ _ _ _ _ _
                  rw [List.length_append, byteCells_snoc, hn, hi92]
                  exact hown
                have HB3 : Hid (Below w.heap.size w w3) := (HB.out.alloc HB.out.size _).grown hg (by have := HB.out.size; simp; omega) (own_low HX.out)
                clear hown hg hz0 hz1 hz2 hi HX
                go_wp2
                go_roundg (l.length + 1 - (k + 1))
                case measure => omega
                case rel => exact ⟨k + 1, acc ++ [b], rfl, by omega, by go_num, by simp; omega, HF.out, HO3, HB3⟩
            · have hi92 : ¬ n = 92 := by omega
              have HF : Hid ((acc ++ [b]) ++ (scanQ (l.drop (k + 1))).1 = A ∧ k + 1 + (scanQ (l.drop (k + 1))).2 = M) := by
                have h := HD.out
                rw [scanQ_plain _ _ hb34 (by rintro ⟨h2, _⟩; exact h92 h2)] at h
                refine ⟨by rw [← h.1]; simp, ?_⟩
                have h2 := h.2
                simp only at h2
                omega
              clear h92 hb34 HD
              have HLEN : acc.length ≤ 1000000 := by omega
              obtain ⟨i0, hi, hz0, hz1, hz2⟩ := info_parts info5b
              have HX : Hid ((wr.alloc (.cells #[.int .u8 n] 5)).ownsRow w.heap.size 5 1 u4 acc.length (Lib.byteCells acc)) := HO.out.alloc _
              go_wp2_with (at_builtin; refine wpList_append_own _ rfl (.tmp 36) (.tmp 40) 34 rfl w.heap.size 5 i0 _ 1 1 Tryz.underlying34 hi hz0 hz1 hz2 rfl (by omega) u4 acc.length (Lib.byteCells acc) rfl HX.out ⟨wr.heap.size, 0, none⟩ 1 1 [.int .u8 n] rfl rfl (one_cell wr 5 _) (one_oc _ _) (by unfold maxLen; omega) (by omega) (by have := HB.out.size; simp; omega) ?_)
              intro v' w3 hown hg _
              have HO3 : Hid (w3.ownsRow w.heap.size 5 1 v' (acc ++ [b]).length (Lib.byteCells (acc ++ [b]))) := by
                show World.ownsRow _ _ _ _ _ _ _
                rw [List.length_append, byteCells_snoc, hn]
                exact hown
              have HB3 : Hid (Below w.heap.size w w3) := (HB.out.alloc HB.out.size _).grown hg (by have := HB.out.size; simp; omega) (own_low HX.out)
              clear hown hg hz0 hz1 hz2 hi HX
              go_wp2
              go_roundg (l.length + 1 - (k + 1))
              case measure => omega
              case rel => exact ⟨k + 1, acc ++ [b], rfl, by omega, by go_num, by simp; omega, HF.out, HO3, HB3⟩
        · obtain rfl : k = l.length := by omega
          have hki : ¬ ((l.length : Int) < (l.length : Int)) := by omega
          have HF : Hid (A = acc ∧ M = l.length) := by
            have h := HK.out
            rw [List.drop_eq_nil_of_le (Nat.le_refl _)] at h
            exact ⟨by rw [← h.1]; simp [scanQ], h.2.symm⟩
          have hcv := own_string HO.out
          have hmn : min ((l.length : Int) + 1) (l.length : Int) = (l.length : Int) := by omega
          go_wp2
          go_ret2
          exact ⟨by rw [HF.out.1, HF.out.2]; rfl, HB.out⟩
    · have hi34 : ¬ (c.toNat : Int) = 34 := by omega
      go_enter Tryz.func35, Tryz.ntmps35
      go_wp2
      go_ret2
      exact ⟨by rw [quotedB, if_neg h34]; rfl, Below.refl _ _⟩
end Go.Proofs.YtjmjmnagnbgmfaaGreatDoor
