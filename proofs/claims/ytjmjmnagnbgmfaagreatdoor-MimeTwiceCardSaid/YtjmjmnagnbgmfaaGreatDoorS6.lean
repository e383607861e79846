/- token.Quotable: whether a text may stand in quotes. -/
import Derived.Test.YtjmjmnagnbgmfaaGreatDoorS2
import Derived.Test.YtjmjmnagnbgmfaaGreatDoorS5
namespace Go.Proofs.YtjmjmnagnbgmfaaGreatDoor
open Go.RowKit Go.Shelf Go.Lib

def okA (b : UInt8) : Bool := b.toNat == 9 || (decide (32 ≤ b.toNat) && decide (b.toNat ≤ 126))
/-- May these bytes stand in quotes? -/
def quotB : List UInt8 → Bool
  | [] => true
  | [b] => okA b
  | b :: c :: l => if b.toNat < 128 then okA b && quotB (c :: l) else (b.toNat == 194 || b.toNat == 195) && (decide (128 ≤ c.toNat) && decide (c.toNat ≤ 191)) && quotB l

theorem okA_lt {b : UInt8} (h : okA b = true) : b.toNat < 128 := by
  simp [okA] at h
  omega
theorem quotB_ascii {b : UInt8} {l : List UInt8} (h : b.toNat < 128) : quotB (b :: l) = (okA b && quotB l) := by
  cases l with
  | nil => simp [quotB]
  | cons c l => simp [quotB, h]
theorem quotB_two {b c : UInt8} {l : List UInt8} (h : 128 ≤ b.toNat) : quotB (b :: c :: l) = ((b.toNat == 194 || b.toNat == 195) && (decide (128 ≤ c.toNat) && decide (c.toNat ≤ 191)) && quotB l) := by
  have hn : ¬ b.toNat < 128 := by omega
  simp [quotB, hn]
theorem quotB_lat : ∀ l : List UInt8, quotB l = true → lat1 l = true
  | [], _ => rfl
  | [b], h => by
    have := okA_lt h
    simp [lat1, this]
  | b :: c :: l, h => by
    by_cases hb : b.toNat < 128
    · rw [quotB_ascii hb, Bool.and_eq_true] at h
      rw [lat1_ascii hb]
      exact quotB_lat (c :: l) h.2
    · rw [quotB_two (by omega), Bool.and_eq_true] at h
      simp only [lat1, hb, if_false, Bool.and_eq_true]
      simp only [Bool.and_eq_true] at h
      exact ⟨h.1, quotB_lat l h.2⟩

theorem drop_cons (s : ByteArray) (pos : Nat) (h : pos < s.size) : s.data.toList.drop pos = s[pos]'h :: s.data.toList.drop (pos + 1) := by
  rw [List.drop_eq_getElem_cons (by rw [size_data]; exact h)]
  rfl

/-- A character of Latin-1, and what is none. -/
theorem quot_step (s : ByteArray) (pos : Nat) (h : pos < s.size) :
    (((Utf8.decode s pos).1 = 9 ∨ (32 ≤ (Utf8.decode s pos).1 ∧ (Utf8.decode s pos).1 ≤ 126) ∨ (128 ≤ (Utf8.decode s pos).1 ∧ (Utf8.decode s pos).1 ≤ 255)) →
      quotB (s.data.toList.drop pos) = quotB (s.data.toList.drop (pos + (Utf8.decode s pos).2)) ∧ pos + (Utf8.decode s pos).2 ≤ s.size) ∧
    (¬ ((Utf8.decode s pos).1 = 9 ∨ (32 ≤ (Utf8.decode s pos).1 ∧ (Utf8.decode s pos).1 ≤ 126) ∨ (128 ≤ (Utf8.decode s pos).1 ∧ (Utf8.decode s pos).1 ≤ 255)) → quotB (s.data.toList.drop pos) = false) := by
  rw [drop_cons s pos h]
  by_cases ha : (s[pos]'h).toNat < 128
  · rw [decode_ascii s pos h ha, quotB_ascii ha]
    constructor
    · intro hr
      have : okA (s[pos]'h) = true := by simp [okA]; simp at hr; omega
      rw [this]
      exact ⟨by simp, by omega⟩
    · intro hr
      have : okA (s[pos]'h) = false := by
        cases hk : okA (s[pos]'h) with
        | false => rfl
        | true => simp [okA] at hk; simp at hr; omega
      rw [this]
      rfl
  · have hbig : (s[pos]'h).toNat < 256 := (s[pos]'h).toNat_lt
    have e0 : (s.get! (pos + 0)) = s[pos]'h := get_at s pos h
    by_cases h1 : pos + 1 < s.size
    · rw [drop_cons s (pos + 1) h1, quotB_two (by omega)]
      have e1 : (s.get! (pos + 1)) = s[pos + 1]'h1 := get_bang s (pos + 1) h1
      have hb1 : (s[pos + 1]'h1).toNat < 256 := (s[pos + 1]'h1).toNat_lt
      by_cases hgood : ((s[pos]'h).toNat = 194 ∨ (s[pos]'h).toNat = 195) ∧ 128 ≤ (s[pos + 1]'h1).toNat ∧ (s[pos + 1]'h1).toNat ≤ 191
      · have hd : Utf8.decode s pos = (((s[pos]'h).toNat % 32) * 64 + (s[pos + 1]'h1).toNat % 64, 2) := by
          have c1 : ((s[pos]'h).toNat / 32 == 6) = true := by rw [beq_iff_eq]; omega
          have c2 : ((s[pos + 1]'h1).toNat / 64 == 2) = true := by rw [beq_iff_eq]; omega
          have c3 : ((s[pos]'h).toNat % 32) * 64 + (s[pos + 1]'h1).toNat % 64 ≥ 128 := by omega
          simp only [Utf8.decode, e0, e1, if_neg ha, c1, c2, h1, decide_true, Bool.and_true, if_true, if_pos c3]
        rw [hd]
        have hl : (((s[pos]'h).toNat == 194 || (s[pos]'h).toNat == 195) && (decide (128 ≤ (s[pos + 1]'h1).toNat) && decide ((s[pos + 1]'h1).toNat ≤ 191))) = true := by
          simp only [Bool.and_eq_true, Bool.or_eq_true, beq_iff_eq, decide_eq_true_eq]
          exact hgood
        rw [hl]
        constructor
        · intro _
          exact ⟨by rw [show pos + 1 + 1 = pos + 2 from rfl]; simp, by omega⟩
        · intro hr
          exfalso
          apply hr
          simp
          omega
      · have hl : (((s[pos]'h).toNat == 194 || (s[pos]'h).toNat == 195) && (decide (128 ≤ (s[pos + 1]'h1).toNat) && decide ((s[pos + 1]'h1).toNat ≤ 191))) = false := by
          rw [← Bool.not_eq_true]
          simp only [Bool.and_eq_true, Bool.or_eq_true, beq_iff_eq, decide_eq_true_eq]
          exact hgood
        rw [hl]
        have hr : 255 < (Utf8.decode s pos).1 := by
          simp only [Utf8.decode, e0, e1, if_neg ha]
          split
          · rename_i hc
            simp only [Bool.and_eq_true, beq_iff_eq, decide_eq_true_eq] at hc
            split
            · simp only
              omega
            · simp [Utf8.runeError]
          · split
            · split
              · rename_i hv
                simp only [Bool.and_eq_true, decide_eq_true_eq] at hv
                simp only
                omega
              · simp [Utf8.runeError]
            · split
              · split
                · rename_i hv
                  simp only [Bool.and_eq_true, decide_eq_true_eq] at hv
                  simp only
                  omega
                · simp [Utf8.runeError]
              · simp [Utf8.runeError]
        exact ⟨fun h => by omega, fun _ => rfl⟩
    · have hnil : s.data.toList.drop (pos + 1) = [] := List.drop_eq_nil_of_le (by rw [size_data]; omega)
      rw [hnil]
      have hd : Utf8.decode s pos = (Utf8.runeError, 1) := by
        simp only [Utf8.decode, e0, if_neg ha, h1, decide_false, Bool.false_and, Bool.and_false, Bool.false_eq_true, if_false]
      rw [hd]
      have hq : quotB [s[pos]'h] = false := by
        cases hk : quotB [s[pos]'h] with
        | false => rfl
        | true => exact absurd (okA_lt hk) (by omega)
      rw [hq]
      exact ⟨fun h => by simp [Utf8.runeError] at h, fun _ => rfl⟩

/-- utf.Valid. -/
theorem valid_calls (K o n c : Nat) (l : List UInt8) (w : World) (hm : n ≤ 140737488351232) (hc : n ≤ c) (hl : l.length = n) (hat : At8 w K o l) (hlat : lat1 l = true) (hT : Tabs w) :
    Calls Tryz.prog 63 #[.slice (some ⟨K, o, none⟩) n c] w fun e w' => e = .returned (.bool true) ∧ Below w.heap.size w w' := by
  have H := Lib.hid (valid8_calls K o n c l w hm hc hl hat hlat hT)
  clear hl hat hlat hT
  go_enter Tryz.func63, Tryz.ntmps63
  go_wp2_with (go_at_call 81; refine (H.out).mono ?_; rintro e w' ⟨rfl, hB⟩)
  go_ret
  exact ⟨rfl, hB⟩

set_option maxHeartbeats 4000000 in
set_option maxRecDepth 1000000 in
theorem quotable_calls (s : ByteArray) (w : World) (hs : s.size ≤ 140737488351232) (hT : Tabs w) :
    Calls Tryz.prog 40 #[.string s] w fun e w' => e = .returned (.bool (quotB s.data.toList)) ∧ Below w.heap.size w w' := by
  obtain ⟨r, hr⟩ : ∃ r, r = quotB s.data.toList := ⟨_, rfl⟩
  rw [← hr]
  have HR := Lib.hid hr
  have HT := Lib.hid hT
  clear hr hT
  go_enter Tryz.func40, Tryz.ntmps40
  go_wp2
  go_loopg [] s.size (fun k wr => ∃ pos : Nat, s.size - pos = k ∧ wr.heap[w.heap.size]? = some (.stringIter s pos) ∧ Below w.heap.size w wr ∧ Hid (quotB (s.data.toList.drop pos) = r) ∧ pos ≤ s.size)
  case atStart =>
    refine ⟨0, by omega, ?_, (Below.refl _ w).alloc (Nat.le_refl _) _, by rw [List.drop_zero]; exact HR.out.symm, by omega⟩
    exact World.iter_heap w s 0
  case round =>
    obtain ⟨pos, rfl, hit, hbw, HQ, hle⟩ := hrel
    have hsz : w.heap.size < wr.heap.size := (Array.getElem?_eq_some_iff.1 hit).1
    by_cases hp : pos < s.size
    · have hnx : ∀ ty, (Instr.next (.pointer (some ⟨w.heap.size, 0, none⟩)) true ty).run Tryz.prog wr = _ := fun ty => Lib.run_next_any_at wr w.heap.size s pos ty hit hp
      have hit2 := Lib.iterAt_heap wr w.heap.size s pos (pos + (Utf8.decode s pos).2) hit
      have hbw2 := Lib.below_iterAt hbw (k := w.heap.size) (by omega) s (pos + (Utf8.decode s pos).2)
      have hwd := width_pos s pos hp
      have hd1 := decode_le s pos
      have HS := Lib.hid (quot_step s pos hp)
      generalize hrr : (Utf8.decode s pos).1 = c at hnx hd1 HS
      generalize hnn : (Utf8.decode s pos).2 = n at hnx hwd hit2 hbw2 HS
      clear hrr hnn
      by_cases hok : c = 9 ∨ (32 ≤ c ∧ c ≤ 126) ∨ (128 ≤ c ∧ c ≤ 255)
      · have HQ2 : Hid (quotB (s.data.toList.drop (pos + n)) = r) := by
          have := (HS.out.1 hok).1
          rw [← this]
          exact HQ.out
        have hle2 := (HS.out.1 hok).2
        rcases hok with hok | ⟨hok1, hok2⟩ | ⟨hok1, hok2⟩
        all_goals
          go_wp2
          go_roundg (s.size - (pos + n))
          case measure => omega
          case rel => exact ⟨pos + n, rfl, hit2, hbw2, HQ2, hle2⟩
      · have HF : Hid (r = false) := by
          have := HS.out.2 hok
          rw [← this]
          exact HQ.out.symm
        have hb9 : ((c : Int) != 9) = true := by rw [bne_iff_ne]; omega
        rcases (show c < 32 ∨ c = 127 ∨ 255 < c by omega) with hc | hc | hc
        all_goals
          clear hok
          go_wp2
          go_ret
          exact ⟨by rw [HF.out]; rfl, hbw2⟩
    · have hnx : ∀ ty, (Instr.next (.pointer (some ⟨w.heap.size, 0, none⟩)) true ty).run Tryz.prog wr = _ := fun ty => Lib.run_next_end_at wr w.heap.size s pos ty hit hp
      have hrt : r = true := by
        rw [← HQ.out, List.drop_eq_nil_of_le (by rw [size_data]; omega)]
        rfl
      have hlat : lat1 s.data.toList = true := quotB_lat _ (by rw [← HR.out]; exact hrt)
      have kb := Lib.run_convert_string_bytes (P := Tryz.prog) wr 9 34 5 s Tryz.underlying9 Tryz.underlying34 Tryz.underlying5
      have hrow := rowB_new wr s
      have hB2 : Below w.heap.size w (Lib.bytesWorld wr 5 s) := hbw.trans ⟨rfl, rfl, rfl, by rw [Lib.bytesWorld_size]; omega, fun i hi => Lib.bytesWorld_at_old wr 5 s i (by omega)⟩
      have hz2 : w.heap.size ≤ (Lib.bytesWorld wr 5 s).heap.size := by rw [Lib.bytesWorld_size]; omega
      have hcap : s.size ≤ grownCap wr s.size 0 5 := grownCap_ge wr s.size 0 5
      have hcon := valid_calls wr.heap.size 0 s.size (grownCap wr s.size 0 5) s.data.toList (Lib.bytesWorld wr 5 s) hs hcap (size_data s) (fun j hj => by rw [Nat.zero_add]; exact (hrow j hj).1) hlat (HT.out.below hB2)
      have HC := Lib.hid hcon
      have HF := Lib.hid hrt
      clear hcon hrow hrt hlat hcap
      generalize grownCap wr s.size 0 5 = cap at kb HC
      generalize Lib.bytesWorld wr 5 s = W2 at kb HC hB2 hz2
      go_wp2_with (go_at_call 63; refine (HC.out).mono ?_; rintro e w' ⟨rfl, hB3⟩)
      go_ret
      exact ⟨by rw [HF.out]; rfl, hB2.trans (hB3.mono hz2)⟩
end Go.Proofs.YtjmjmnagnbgmfaaGreatDoor
