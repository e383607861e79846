/- Contracts of token.Trim, token.Right, strings.Cut at a separator of one byte and mime.anyAt, over plain functions on lists of bytes. -/
import Derived.WalkKit
import Derived.Shelf.Strings.SlTrimAscii
import Derived.Lib.IndexAny
import Derived.Lib.CutLaws
import Derived.Lib.OthersKept
import Derived.Lib.Hide
import Derived.WalkSpells
import Derived.Outline
import Derived.Deep.LoopGhost
import Derived.Deep.QuietTactic
import Derived.BigQuiet
import Derived.Test.YtjmjmnagnbgmfaaGreatDoorShelf
namespace Go.Proofs.YtjmjmnagnbgmfaaGreatDoor
open Go.RowKit Go.Shelf Go.Lib

/-- The blanks of the program. -/
def blanks : List UInt8 := [9, 10, 13, 32]
/-- A text out of its bytes. -/
def sOf (l : List UInt8) : ByteArray := ⟨l.toArray⟩
theorem sOf_data (s : ByteArray) : sOf s.data.toList = s := by
  show (⟨s.data.toList.toArray⟩ : ByteArray) = s
  rw [Array.toArray_toList]
theorem data_sOf (l : List UInt8) : (sOf l).data.toList = l := by
  show l.toArray.toList = l
  simp
theorem size_sOf (l : List UInt8) : (sOf l).size = l.length := by
  show l.toArray.size = l.length
  simp
theorem size_data (s : ByteArray) : s.data.toList.length = s.size := by
  show s.data.toList.length = s.data.size
  simp

set_option maxHeartbeats 1000000 in
theorem trim_calls (s : ByteArray) (w : World) (hs : s.size ≤ 9223372036854775807) :
    Calls Tryz.prog 23 #[.string s] w fun e w' => e = .returned (.string (sOf (Lib.trimS s.data.toList blanks))) ∧ Below w.heap.size w w' := by
  have hcon := Any.strings_Trim_laid Tryz.lays160 (by kernel_rfl) s ⟨#[9, 10, 13, 32]⟩ w hs (by decide) (ascii_of_all (by decide))
  change Calls Tryz.prog 48 _ _ (fun e w' => e = .returned (.string (sOf (Lib.trimS s.data.toList blanks))) ∧ Below w.heap.size w w') at hcon
  generalize sOf (Lib.trimS s.data.toList blanks) = r at hcon ⊢
  go_enter Tryz.func23, Tryz.ntmps23
  go_wp2_with (go_at_call 48; refine hcon.mono ?_; rintro e w' ⟨rfl, hB⟩)
  go_ret
  exact ⟨rfl, hB⟩

set_option maxHeartbeats 1000000 in
theorem right_calls (s : ByteArray) (w : World) (hs : s.size ≤ 9223372036854775807) :
    Calls Tryz.prog 25 #[.string s] w fun e w' => e = .returned (.string (sOf (Lib.trimRightS s.data.toList blanks))) ∧ Below w.heap.size w w' := by
  have hcon := Any.strings_TrimRight_laid Tryz.lays162 (by kernel_rfl) s ⟨#[9, 10, 13, 32]⟩ w hs (by decide) (ascii_of_all (by decide))
  change Calls Tryz.prog 50 _ _ (fun e w' => e = .returned (.string (sOf (Lib.trimRightS s.data.toList blanks))) ∧ Below w.heap.size w w') at hcon
  generalize sOf (Lib.trimRightS s.data.toList blanks) = r at hcon ⊢
  go_enter Tryz.func25, Tryz.ntmps25
  go_wp2_with (go_at_call 50; refine hcon.mono ?_; rintro e w' ⟨rfl, hB⟩)
  go_ret
  exact ⟨rfl, hB⟩

/-- strings.TrimLeft at the blanks. -/
theorem trimLeft_calls (s : ByteArray) (w : World) :
    Calls Tryz.prog 54 #[.string s, .string ⟨#[9, 10, 13, 32]⟩] w fun e w' => e = .returned (.string (sOf (Lib.trimLeftS s.data.toList blanks))) ∧ Below w.heap.size w w' :=
  Any.strings_TrimLeft_laid Tryz.lays161 (by kernel_rfl) s ⟨#[9, 10, 13, 32]⟩ w (by decide) (ascii_of_all (by decide))


/-- What stands ahead of the first c, what stands behind it, and whether there is one. -/
def cutB (l : List UInt8) (c : UInt8) : List UInt8 × List UInt8 × Bool := (l.takeWhile (· != c), (l.dropWhile (· != c)).tail, l.contains c)

theorem index_no {l : List UInt8} {c : UInt8} (h : Lib.indexByte l c < 0) : l.contains c = false ∧ l.takeWhile (· != c) = l ∧ l.dropWhile (· != c) = [] := by
  induction l with
  | nil => simp
  | cons b l ih =>
    unfold Lib.indexByte at h
    by_cases hb : b == c
    · simp [hb] at h
    · have hge := indexByte_ge l c
      by_cases hl : Lib.indexByte l c == -1
      · have := ih (by have := eq_of_beq hl; omega)
        have hbc : (b != c) = true := by simpa using hb
        refine ⟨?_, ?_, ?_⟩
        · rw [List.contains_cons, this.1]
          have : (c == b) = false := by rw [Bool.beq_comm]; simpa using hb
          simp [this]
        · rw [List.takeWhile_cons, if_pos hbc, this.2.1]
        · rw [List.dropWhile_cons, if_pos hbc, this.2.2]
      · simp [hb, hl] at h
        have : ¬ Lib.indexByte l c = -1 := by simpa using hl
        omega
theorem index_yes {l : List UInt8} {c : UInt8} {i : Nat} (h : Lib.indexByte l c = i) : i < l.length ∧ l.contains c = true ∧ l.takeWhile (· != c) = l.take i ∧ (l.dropWhile (· != c)) = l.drop i := by
  induction l generalizing i with
  | nil => simp [Lib.indexByte] at h
  | cons b l ih =>
    unfold Lib.indexByte at h
    by_cases hb : b == c
    · simp [hb] at h
      obtain rfl : i = 0 := by omega
      have hbe := eq_of_beq hb
      have hbc : (b != c) = false := by simpa using hb
      refine ⟨by simp, by simp [hbe], ?_, ?_⟩
      · rw [List.takeWhile_cons]; simp [hbc]
      · rw [List.dropWhile_cons]; simp [hbc]
    · by_cases hl : Lib.indexByte l c == -1
      · simp [hb, hl] at h
      · simp [hb, hl] at h
        have hge := indexByte_ge l c
        have hne : ¬ Lib.indexByte l c = -1 := by simpa using hl
        obtain ⟨j, rfl⟩ : ∃ j, i = j + 1 := ⟨i - 1, by omega⟩
        have := ih (i := j) (by omega)
        have hbc : (b != c) = true := by simpa using hb
        refine ⟨by simp; omega, ?_, ?_, ?_⟩
        · rw [List.contains_cons, this.2.1, Bool.or_true]
        · rw [List.takeWhile_cons, if_pos hbc, this.2.2.1, List.take_succ_cons]
        · rw [List.dropWhile_cons, if_pos hbc, this.2.2.2, List.drop_succ_cons]

set_option maxHeartbeats 1000000 in
theorem slcut_calls (s : ByteArray) (c : UInt8) (w : World) (hs : s.size ≤ 140737488351232) :
    Calls Tryz.prog 47 #[.string s, .string ⟨#[c]⟩] w fun e w' => e = .returned (.tuple #[.string (sOf (cutB s.data.toList c).1), .string (sOf (cutB s.data.toList c).2.1), .bool (cutB s.data.toList c).2.2]) ∧ ∃ n, w' = w.drewN n := by
  have hcon := fun w => Tryz.stringslite_Index_one s c w
  have hge := indexByte_ge s.data.toList c
  by_cases hi : Lib.indexByte s.data.toList c < 0
  · have h1 := index_no hi
    have e0 : (sOf (cutB s.data.toList c).1) = s := by simp [cutB, h1.2.1, sOf_data]
    have e1 : (sOf (cutB s.data.toList c).2.1) = ⟨#[]⟩ := by simp [cutB, h1.2.2, sOf]
    have e2 : (cutB s.data.toList c).2.2 = false := by simp only [cutB]; exact h1.1
    rw [e0, e1, e2]
    clear h1 e0 e1 e2
    generalize Lib.indexByte s.data.toList c = i at hcon hi hge
    go_enter Tryz.func47, Tryz.ntmps47
    go_wp2_with (go_at_call 67; refine (hcon _).mono ?_; rintro e w' ⟨rfl, rfl⟩)
    go_wp2
    go_ret3
    exact ⟨rfl, 0, rfl⟩
  · obtain ⟨i, hi2⟩ : ∃ i : Nat, Lib.indexByte s.data.toList c = i := ⟨(Lib.indexByte s.data.toList c).toNat, by omega⟩
    have h1 := index_yes hi2
    have hlt : i < s.size := by have := h1.1; rw [size_data] at this; exact this
    have e0 : (sOf (cutB s.data.toList c).1) = s.extract 0 i := by
      simp only [cutB, h1.2.2.1]
      rw [← sOf_data (s.extract 0 i), Lib.extract_data]
      simp
    have e1 : (sOf (cutB s.data.toList c).2.1) = s.extract (i + 1) s.size := by
      simp only [cutB, h1.2.2.2]
      rw [← sOf_data (s.extract (i + 1) s.size), Lib.extract_to_end]
      simp
    have e2 : (cutB s.data.toList c).2.2 = true := by simp only [cutB]; exact h1.2.1
    rw [e0, e1, e2]
    rw [hi2] at hcon
    clear h1 e0 e1 e2 hi hi2 hge
    have hsz : (⟨#[c]⟩ : ByteArray).size = 1 := rfl
    go_enter Tryz.func47, Tryz.ntmps47
    go_wp2_with (go_at_call 67; refine (hcon _).mono ?_; rintro e w' ⟨rfl, rfl⟩)
    go_quiet (fail)
    go_wp2
    go_ret3
    exact ⟨rfl, _, rfl⟩

set_option maxHeartbeats 1000000 in
theorem cut_calls (s : ByteArray) (c : UInt8) (w : World) (hs : s.size ≤ 140737488351232) :
    Calls Tryz.prog 22 #[.string s, .string ⟨#[c]⟩] w fun e w' => e = .returned (.tuple #[.string (sOf (cutB s.data.toList c).1), .string (sOf (cutB s.data.toList c).2.1), .bool (cutB s.data.toList c).2.2]) ∧ ∃ n, w' = w.drewN n := by
  have hcon := fun w => slcut_calls s c w hs
  generalize sOf (cutB s.data.toList c).1 = r1 at hcon ⊢
  generalize sOf (cutB s.data.toList c).2.1 = r2 at hcon ⊢
  generalize (cutB s.data.toList c).2.2 = r3 at hcon ⊢
  go_enter Tryz.func22, Tryz.ntmps22
  go_wp2_with (go_at_call 47; refine (hcon _).mono ?_; rintro e w' ⟨rfl, n, rfl⟩)
  go_wp2
  go_ret3
  exact ⟨rfl, _, rfl⟩
end Go.Proofs.YtjmjmnagnbgmfaaGreatDoor
