/- token.Is, mime.small, mime.cut: tokens, tokens in small letters, a text cut at the first of some ASCII bytes. -/
import Derived.Test.YtjmjmnagnbgmfaaGreatDoorS2
import Derived.Test.YtjmjmnagnbgmfaaGreatDoorS3
namespace Go.Proofs.YtjmjmnagnbgmfaaGreatDoor
open Go.RowKit Go.Shelf Go.Lib

def letB (c : UInt8) : Bool := (decide (65 ≤ c.toNat) && decide (c.toNat ≤ 90)) || (decide (97 ≤ c.toNat) && decide (c.toNat ≤ 122))
def digB (c : UInt8) : Bool := decide (48 ≤ c.toNat) && decide (c.toNat ≤ 57)
def signs : List UInt8 := [33, 35, 36, 37, 38, 39, 42, 43, 45, 46, 94, 95, 96, 124, 126]
/-- May this byte stand in a token? -/
def tokB (c : UInt8) : Bool := letB c || digB c || signs.contains c
/-- Is this a token? -/
def isTok (l : List UInt8) : Bool := l.all tokB && !l.isEmpty

theorem letter_calls (c : UInt8) (w : World) : Calls Tryz.prog 51 #[.int .u8 c.toNat] w fun e w' => e = .returned (.bool (letB c)) ∧ w = w' := by
  have hb := c.toNat_lt
  by_cases h1 : 65 ≤ c.toNat <;> by_cases h2 : c.toNat ≤ 90 <;> by_cases h3 : 97 ≤ c.toNat <;> by_cases h4 : c.toNat ≤ 122
  all_goals first | (exfalso; omega) | skip
  all_goals
    have hv : letB c = ((decide (65 ≤ c.toNat) && decide (c.toNat ≤ 90)) || (decide (97 ≤ c.toNat) && decide (c.toNat ≤ 122))) := rfl
    simp only [h1, h2, h3, h4, decide_true, decide_false, Bool.and_true, Bool.and_false, Bool.or_false, Bool.or_true] at hv
    rw [hv]
    clear hv
    generalize hn : (c.toNat : Int) = n
    have g1 : (65 ≤ n) = (65 ≤ c.toNat) := by rw [← hn]; apply propext; omega
    have g2 : (n ≤ 90) = (c.toNat ≤ 90) := by rw [← hn]; apply propext; omega
    have g3 : (97 ≤ n) = (97 ≤ c.toNat) := by rw [← hn]; apply propext; omega
    have g4 : (n ≤ 122) = (c.toNat ≤ 122) := by rw [← hn]; apply propext; omega
    rw [← g1] at h1; rw [← g2] at h2; rw [← g3] at h3; rw [← g4] at h4
    clear g1 g2 g3 g4 hn
    go_enter Tryz.func51, Tryz.ntmps51
    go_wp2
    go_ret
    exact ⟨rfl, rfl⟩

theorem digit_calls (c : UInt8) (w : World) : Calls Tryz.prog 52 #[.int .u8 c.toNat] w fun e w' => e = .returned (.bool (digB c)) ∧ w = w' := by
  have hb := c.toNat_lt
  by_cases h1 : 48 ≤ c.toNat <;> by_cases h2 : c.toNat ≤ 57
  all_goals first | (exfalso; omega) | skip
  all_goals
    have hv : digB c = (decide (48 ≤ c.toNat) && decide (c.toNat ≤ 57)) := rfl
    simp only [h1, h2, decide_true, decide_false, Bool.and_true, Bool.and_false] at hv
    rw [hv]
    clear hv
    generalize hn : (c.toNat : Int) = n
    have g1 : (48 ≤ n) = (48 ≤ c.toNat) := by rw [← hn]; apply propext; omega
    have g2 : (n ≤ 57) = (c.toNat ≤ 57) := by rw [← hn]; apply propext; omega
    rw [← g1] at h1; rw [← g2] at h2
    clear g1 g2 hn
    go_enter Tryz.func52, Tryz.ntmps52
    go_wp2
    go_ret
    exact ⟨rfl, rfl⟩

theorem sign_calls (c : UInt8) (w : World) : Calls Tryz.prog 53 #[.string ⟨#[33, 35, 36, 37, 38, 39, 42, 43, 45, 46, 94, 95, 96, 124, 126]⟩, .int .u8 c.toNat] w fun e w' => ∃ i, e = .returned (.int .i64 i) ∧ decide (i < 0) = !signs.contains c ∧ w = w' := by
  refine (Tryz.strings_IndexByte ⟨#[33, 35, 36, 37, 38, 39, 42, 43, 45, 46, 94, 95, 96, 124, 126]⟩ c.toNat w).mono ?_
  rintro e w' ⟨rfl, rfl⟩
  refine ⟨_, rfl, ?_, rfl⟩
  have hc : ((c.toNat : Int).toNat.toUInt8) = c := by simp
  rw [hc]
  show decide (Lib.indexByte signs c < 0) = _
  by_cases h : Lib.indexByte signs c < 0
  · have := (index_no h).1
    rw [this]
    simpa using h
  · have hge := indexByte_ge signs c
    obtain ⟨i, hi⟩ : ∃ i : Nat, Lib.indexByte signs c = i := ⟨(Lib.indexByte signs c).toNat, by omega⟩
    rw [(index_yes hi).2.1]
    simpa using h

set_option maxHeartbeats 4000000 in
set_option maxRecDepth 1000000 in
theorem is_calls (s : ByteArray) (w : World) (hs : s.size ≤ 140737488351232) :
    Calls Tryz.prog 26 #[.string s] w fun e w' => e = .returned (.bool (isTok s.data.toList)) ∧ w = w' := by
  obtain ⟨r, hr⟩ : ∃ r, r = isTok s.data.toList := ⟨_, rfl⟩
  rw [← hr]
  have HR := Lib.hid hr
  clear hr
  go_enter Tryz.func26, Tryz.ntmps26
  go_wp2
  go_loopg [6] s.size (fun g i wr => ∃ k : Nat, s.size - k = g ∧ k ≤ s.size ∧ i = .int .i64 k ∧ Hid ((s.data.toList.take k).all tokB = true) ∧ w = wr)
  case atStart => exact ⟨0, by omega, by omega, rfl, rfl, rfl⟩
  case round =>
    obtain ⟨k, rfl, hk, rfl, HK, rfl⟩ := hrel
    by_cases hlt : k < s.size
    · have hb := (s[k]'hlt).toNat_lt
      have hbad : tokB (s[k]'hlt) = false → r = false := by
        intro h
        rw [HR.out, isTok]
        have : s.data.toList.all tokB = false := by
          rw [← Bool.not_eq_true, List.all_eq_true]
          intro hall
          have := hall (s[k]'hlt) (List.mem_of_getElem? (get_data s k hlt))
          rw [h] at this
          cases this
        rw [this, Bool.false_and]
      have hgood : tokB (s[k]'hlt) = true → (s.data.toList.take (k + 1)).all tokB = true := by
        intro h
        rw [List.take_succ_eq_append_getElem (by rw [size_data]; exact hlt), List.all_append, HK.out, Bool.true_and, List.all_cons, List.all_nil, Bool.and_true]
        exact h
      have HB := Lib.hid hbad
      have HG := Lib.hid hgood
      clear hbad hgood
      have hcl := fun w => letter_calls (s[k]'hlt) w
      have hcd := fun w => digit_calls (s[k]'hlt) w
      have hcs := fun w => sign_calls (s[k]'hlt) w
      have HT : Hid (tokB (s[k]'hlt) = (letB (s[k]'hlt) || digB (s[k]'hlt) || signs.contains (s[k]'hlt))) := rfl
      have CL := Lib.hid hcl
      have CD := Lib.hid hcd
      have CS := Lib.hid hcs
      clear hcl hcd hcs
      cases h1 : letB (s[k]'hlt)
      · rw [h1] at CL
        cases h2 : digB (s[k]'hlt)
        · rw [h2] at CD
          cases h3 : signs.contains (s[k]'hlt)
          · rw [h3] at CS
            have HF : Hid (r = false) := HB.out (by rw [HT.out, h1, h2, h3]; rfl)
            clear h1 h2 h3
            go_wp2_with (first | (go_at_call 51; refine (CL.out _).mono ?_; rintro e w' ⟨rfl, rfl⟩) | (go_at_call 52; refine (CD.out _).mono ?_; rintro e w' ⟨rfl, rfl⟩) | (go_at_call 53; refine (CS.out _).mono ?_; rintro e w' ⟨i, rfl, hi, rfl⟩))
            go_ret
            exact ⟨by rw [HF.out]; rfl, rfl⟩
          · rw [h3] at CS
            have HF := Lib.hid (HG.out (by rw [HT.out, h1, h2, h3]; rfl))
            clear h1 h2 h3
            go_wp2_with (first | (go_at_call 51; refine (CL.out _).mono ?_; rintro e w' ⟨rfl, rfl⟩) | (go_at_call 52; refine (CD.out _).mono ?_; rintro e w' ⟨rfl, rfl⟩) | (go_at_call 53; refine (CS.out _).mono ?_; rintro e w' ⟨i, rfl, hi, rfl⟩))
            go_roundg (s.size - (k + 1))
            case measure => omega
            case rel => exact ⟨k + 1, rfl, by omega, by go_num, HF, rfl⟩
        · rw [h2] at CD
          have HF := Lib.hid (HG.out (by rw [HT.out, h1, h2]; rfl))
          clear h1 h2
          go_wp2_with (first | (go_at_call 51; refine (CL.out _).mono ?_; rintro e w' ⟨rfl, rfl⟩) | (go_at_call 52; refine (CD.out _).mono ?_; rintro e w' ⟨rfl, rfl⟩))
          go_roundg (s.size - (k + 1))
          case measure => omega
          case rel => exact ⟨k + 1, rfl, by omega, by go_num, HF, rfl⟩
      · rw [h1] at CL
        have HF := Lib.hid (HG.out (by rw [HT.out, h1]; rfl))
        clear h1
        go_wp2_with (go_at_call 51; refine (CL.out _).mono ?_; rintro e w' ⟨rfl, rfl⟩)
        go_roundg (s.size - (k + 1))
        case measure => omega
        case rel => exact ⟨k + 1, rfl, by omega, by go_num, HF, rfl⟩
    · obtain rfl : k = s.size := by omega
      have hfin : r = !s.data.toList.isEmpty := by
        have h := HK.out
        rw [List.take_of_length_le (by rw [size_data]; omega)] at h
        rw [HR.out, isTok, h, Bool.true_and]
      have HF := Lib.hid hfin
      clear hfin
      go_wp2
      go_ret
      exact ⟨by rw [HF.out, ← Lib.toList_data]; rfl, rfl⟩

/-- Is this a token in small letters? -/
def smallB (l : List UInt8) : Bool := isTok l && (low l == l)

theorem toList_sOf (l : List UInt8) : (sOf l).toList = l := by rw [Lib.toList_data, data_sOf]

set_option maxHeartbeats 2000000 in
theorem small_calls (s : ByteArray) (w : World) (hs : s.size ≤ 140737488351232) :
    Calls Tryz.prog 39 #[.string s] w fun e w' => e = .returned (.bool (smallB s.data.toList)) ∧ Below w.heap.size w w' := by
  have hi := fun w => is_calls s w hs
  have hl := fun w => lower_calls s w hs
  obtain ⟨r, hr⟩ : ∃ r, r = smallB s.data.toList := ⟨_, rfl⟩
  rw [← hr]
  have HR := Lib.hid hr
  have HI := Lib.hid hi
  have HL := Lib.hid hl
  clear hr hi hl
  cases h : isTok s.data.toList
  · rw [h] at HI
    have HF : Hid (r = false) := by rw [HR.out, smallB, h]; rfl
    clear h
    go_enter Tryz.func39, Tryz.ntmps39
    go_wp2_with (go_at_call 26; refine (HI.out _).mono ?_; rintro e w' ⟨rfl, rfl⟩)
    go_ret
    exact ⟨by rw [HF.out]; rfl, Below.refl _ _⟩
  · rw [h] at HI
    have HF : Hid (r = (low s.data.toList == s.data.toList)) := by rw [HR.out, smallB, h, Bool.true_and]; exact rfl
    clear h
    go_enter Tryz.func39, Tryz.ntmps39
    go_wp2_with (first | (go_at_call 26; refine (HI.out _).mono ?_; rintro e w' ⟨rfl, rfl⟩) | (go_at_call 27; refine (HL.out _).mono ?_; rintro e w' ⟨rfl, hB⟩))
    go_ret
    refine ⟨?_, hB⟩
    rw [HF.out]
    show Ending.returned (Value.bool ((sOf (low s.data.toList)).toList == s.toList)) = _
    rw [toList_sOf, Lib.toList_data]

/-- A text cut at the first of some bytes. -/
def cutA (l cs : List UInt8) : List UInt8 × List UInt8 := (l.takeWhile (fun b => !cs.contains b), l.dropWhile (fun b => !cs.contains b))
theorem cutA_app (l cs : List UInt8) : (cutA l cs).1 ++ (cutA l cs).2 = l := List.takeWhile_append_dropWhile

theorem any_no {l cs : List UInt8} (h : Lib.indexAny l cs < 0) : cutA l cs = (l, []) := by
  induction l with
  | nil => rfl
  | cons b l ih =>
    unfold Lib.indexAny at h
    have hge := indexAny_ge cs l
    by_cases hb : cs.contains b
    · rw [if_pos hb] at h; omega
    · rw [if_neg hb] at h
      by_cases hl : Lib.indexAny l cs == -1
      · have hl2 := eq_of_beq hl
        have := ih (by omega)
        simp only [cutA, Prod.mk.injEq] at this
        have hb2 : (!cs.contains b) = true := by simpa using hb
        simp only [cutA, List.takeWhile_cons, List.dropWhile_cons, hb2, if_true, this.1, this.2]
      · rw [if_neg hl] at h
        have : ¬ Lib.indexAny l cs = -1 := by simpa using hl
        omega
theorem any_yes {l cs : List UInt8} {i : Nat} (h : Lib.indexAny l cs = i) : i < l.length ∧ cutA l cs = (l.take i, l.drop i) := by
  induction l generalizing i with
  | nil => simp [Lib.indexAny] at h
  | cons b l ih =>
    unfold Lib.indexAny at h
    have hge := indexAny_ge cs l
    by_cases hb : cs.contains b
    · rw [if_pos hb] at h
      obtain rfl : i = 0 := by omega
      have hb2 : (!cs.contains b) = false := by simpa using hb
      refine ⟨by simp, ?_⟩
      simp only [cutA, List.takeWhile_cons, List.dropWhile_cons, hb2]
      rfl
    · rw [if_neg hb] at h
      by_cases hl : Lib.indexAny l cs == -1
      · rw [if_pos hl] at h; omega
      · rw [if_neg hl] at h
        have hne : ¬ Lib.indexAny l cs = -1 := by simpa using hl
        obtain ⟨j, rfl⟩ : ∃ j, i = j + 1 := ⟨i - 1, by omega⟩
        have := ih (i := j) (by omega)
        have hb2 : (!cs.contains b) = true := by simpa using hb
        simp only [cutA, Prod.mk.injEq] at this
        refine ⟨by simp; omega, ?_⟩
        simp only [cutA, List.takeWhile_cons, List.dropWhile_cons, hb2, if_true, this.2.1, this.2.2, List.take_succ_cons, List.drop_succ_cons]

theorem sOf_take (s : ByteArray) (i : Nat) (_h : i ≤ s.size) : sOf (s.data.toList.take i) = s.extract 0 i := by
  rw [← sOf_data (s.extract 0 i), Lib.extract_data]
  simp
theorem sOf_drop (s : ByteArray) (i : Nat) : sOf (s.data.toList.drop i) = s.extract i s.size := by
  rw [← sOf_data (s.extract i s.size), Lib.extract_to_end]

set_option maxHeartbeats 2000000 in
theorem cut2_calls (s t : ByteArray) (w : World) (hs : s.size ≤ 140737488351232) (ht : t.size ≤ 140737488351232) (hcs : ∀ b ∈ t.data.toList, b.toNat < 128) :
    Calls Tryz.prog 24 #[.string s, .string t] w fun e w' => e = .returned (.tuple #[.string (sOf (cutA s.data.toList t.data.toList).1), .string (sOf (cutA s.data.toList t.data.toList).2)]) ∧ Below w.heap.size w w' := by
  have hcon := Lib.hid (fun w => anyAt_calls s t w hs ht hcs)
  clear hcs
  by_cases hi : Lib.indexAny s.data.toList t.data.toList < 0
  · have h1 := any_no hi
    rw [h1, sOf_data]
    clear h1
    generalize Lib.indexAny s.data.toList t.data.toList = i at hcon hi
    show Calls _ _ _ _ fun e w' => e = .returned (.tuple #[.string s, .string ⟨#[]⟩]) ∧ _
    go_enter Tryz.func24, Tryz.ntmps24
    go_wp2_with (go_at_call 49; refine (hcon.out _).mono ?_; rintro e w' ⟨rfl, hB⟩)
    go_ret2
    exact ⟨rfl, hB⟩
  · obtain ⟨i, hi2⟩ : ∃ i : Nat, Lib.indexAny s.data.toList t.data.toList = i := ⟨(Lib.indexAny s.data.toList t.data.toList).toNat, by omega⟩
    have h1 := any_yes hi2
    have hlt : i < s.size := by have := h1.1; rw [size_data] at this; exact this
    rw [h1.2, sOf_take s i (by omega), sOf_drop]
    rw [hi2] at hcon
    clear h1 hi hi2
    go_enter Tryz.func24, Tryz.ntmps24
    go_wp2_with (go_at_call 49; refine (hcon.out _).mono ?_; rintro e w' ⟨rfl, hB⟩)
    go_quiet (fail)
    go_wp2
    go_ret2
    exact ⟨rfl, ⟨hB.os, hB.tape, hB.output, hB.size, hB.block⟩⟩
end Go.Proofs.YtjmjmnagnbgmfaaGreatDoor
