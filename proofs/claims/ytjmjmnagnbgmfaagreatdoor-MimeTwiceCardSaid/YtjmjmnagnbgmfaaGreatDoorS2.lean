import Derived.WalkKit
import Derived.Shelf.Strings.SlTrimAscii
import Derived.Lib.IndexAny
import Derived.Lib.CutLaws
import Derived.Lib.OthersKept
import Derived.Lib.Hide
import Derived.WalkSpells
import Derived.Outline
import Derived.Deep.LoopGhost
import Derived.Deep.QuietTactic
import Derived.BigQuiet
import Derived.Test.YtjmjmnagnbgmfaaGreatDoorShelf
/- Contracts of token.Trim, token.Right, strings.Cut at a separator of one byte and mime.anyAt, over plain functions on lists of bytes. -/
namespace Go.Proofs.YtjmjmnagnbgmfaaGreatDoor
open Go.RowKit Go.Shelf Go.Lib

/-- The blanks of the program. -/
def blanks : List UInt8 := [9, 10, 13, 32]
/-- A text out of its bytes. -/
def sOf (l : List UInt8) : ByteArray := ⟨l.toArray⟩
theorem sOf_data (s : ByteArray) : sOf s.data.toList = s := by
  show (⟨s.data.toList.toArray⟩ : ByteArray) = s
  rw [Array.toArray_toList]
theorem data_sOf (l : List UInt8) : (sOf l).data.toList = l := by
  show l.toArray.toList = l
  simp
theorem size_sOf (l : List UInt8) : (sOf l).size = l.length := by
  show l.toArray.size = l.length
  simp
theorem size_data (s : ByteArray) : s.data.toList.length = s.size := by
  show s.data.toList.length = s.data.size
  simp

set_option maxHeartbeats 1000000 in
theorem trim_calls (s : ByteArray) (w : World) (hs : s.size ≤ 9223372036854775807) :
    Calls Tryz.prog 23 #[.string s] w fun e w' => e = .returned (.string (sOf (Lib.trimS s.data.toList blanks))) ∧ Below w.heap.size w w' := by
  have hcon := Any.strings_Trim_laid Tryz.lays160 (by kernel_rfl) s ⟨#[9, 10, 13, 32]⟩ w hs (by decide) (ascii_of_all (by decide))
  change Calls Tryz.prog 48 _ _ (fun e w' => e = .returned (.string (sOf (Lib.trimS s.data.toList blanks))) ∧ Below w.heap.size w w') at hcon
  generalize sOf (Lib.trimS s.data.toList blanks) = r at hcon ⊢
  go_enter Tryz.func23, Tryz.ntmps23
  go_wp2_with (go_at_call 48; refine hcon.mono ?_; rintro e w' ⟨rfl, hB⟩)
  go_ret
  exact ⟨rfl, hB⟩

set_option maxHeartbeats 1000000 in
theorem right_calls (s : ByteArray) (w : World) (hs : s.size ≤ 9223372036854775807) :
    Calls Tryz.prog 25 #[.string s] w fun e w' => e = .returned (.string (sOf (Lib.trimRightS s.data.toList blanks))) ∧ Below w.heap.size w w' := by
  have hcon := Any.strings_TrimRight_laid Tryz.lays162 (by kernel_rfl) s ⟨#[9, 10, 13, 32]⟩ w hs (by decide) (ascii_of_all (by decide))
  change Calls Tryz.prog 50 _ _ (fun e w' => e = .returned (.string (sOf (Lib.trimRightS s.data.toList blanks))) ∧ Below w.heap.size w w') at hcon
  generalize sOf (Lib.trimRightS s.data.toList blanks) = r at hcon ⊢
  go_enter Tryz.func25, Tryz.ntmps25
  go_wp2_with (go_at_call 50; refine hcon.mono ?_; rintro e w' ⟨rfl, hB⟩)
  go_ret
  exact ⟨rfl, hB⟩

/-- strings.TrimLeft at the blanks. -/
theorem trimLeft_calls (s : ByteArray) (w : World) :
    Calls Tryz.prog 54 #[.string s, .string ⟨#[9, 10, 13, 32]⟩] w fun e w' => e = .returned (.string (sOf (Lib.trimLeftS s.data.toList blanks))) ∧ Below w.heap.size w w' :=
  Any.strings_TrimLeft_laid Tryz.lays161 (by kernel_rfl) s ⟨#[9, 10, 13, 32]⟩ w (by decide) (ascii_of_all (by decide))


/-- What stands ahead of the first c, what stands behind it, and whether there is one. -/
def cutB (l : List UInt8) (c : UInt8) : List UInt8 × List UInt8 × Bool := (l.takeWhile (· != c), (l.dropWhile (· != c)).tail, l.contains c)

theorem index_no {l : List UInt8} {c : UInt8} (h : Lib.indexByte l c < 0) : l.contains c = false ∧ l.takeWhile (· != c) = l ∧ l.dropWhile (· != c) = [] := by
  induction l with
  | nil => simp
  | cons b l ih =>
    unfold Lib.indexByte at h
    by_cases hb : b == c
    · simp [hb] at h
    · have hge := indexByte_ge l c
      by_cases hl : Lib.indexByte l c == -1
      · have := ih (by have := eq_of_beq hl; omega)
        have hbc : (b != c) = true := by simpa using hb
        refine ⟨?_, ?_, ?_⟩
        · rw [List.contains_cons, this.1]
          have : (c == b) = false := by rw [Bool.beq_comm]; simpa using hb
          simp [this]
        · rw [List.takeWhile_cons, if_pos hbc, this.2.1]
        · rw [List.dropWhile_cons, if_pos hbc, this.2.2]
      · simp [hb, hl] at h
        have : ¬ Lib.indexByte l c = -1 := by simpa using hl
        omega
theorem index_yes {l : List UInt8} {c : UInt8} {i : Nat} (h : Lib.indexByte l c = i) : i < l.length ∧ l.contains c = true ∧ l.takeWhile (· != c) = l.take i ∧ (l.dropWhile (· != c)) = l.drop i := by
  induction l generalizing i with
  | nil => simp [Lib.indexByte] at h
  | cons b l ih =>
    unfold Lib.indexByte at h
    by_cases hb : b == c
    · simp [hb] at h
      obtain rfl : i = 0 := by omega
      have hbe := eq_of_beq hb
      have hbc : (b != c) = false := by simpa using hb
      refine ⟨by simp, by simp [hbe], ?_, ?_⟩
      · rw [List.takeWhile_cons]; simp [hbc]
      · rw [List.dropWhile_cons]; simp [hbc]
    · by_cases hl : Lib.indexByte l c == -1
      · simp [hb, hl] at h
      · simp [hb, hl] at h
        have hge := indexByte_ge l c
        have hne : ¬ Lib.indexByte l c = -1 := by simpa using hl
        obtain ⟨j, rfl⟩ : ∃ j, i = j + 1 := ⟨i - 1, by omega⟩
        have := ih (i := j) (by omega)
        have hbc : (b != c) = true := by simpa using hb
        refine ⟨by simp; omega, ?_, ?_, ?_⟩
        · rw [List.contains_cons, this.2.1, Bool.or_true]
        · rw [List.takeWhile_cons, if_pos hbc, this.2.2.1, List.take_succ_cons]
        · rw [List.dropWhile_cons, if_pos hbc, this.2.2.2, List.drop_succ_cons]

set_option maxHeartbeats 1000000 in
theorem slcut_calls (s : ByteArray) (c : UInt8) (w : World) (hs : s.size ≤ 140737488351232) :
    Calls Tryz.prog 47 #[.string s, .string ⟨#[c]⟩] w fun e w' => e = .returned (.tuple #[.string (sOf (cutB s.data.toList c).1), .string (sOf (cutB s.data.toList c).2.1), .bool (cutB s.data.toList c).2.2]) ∧ ∃ n, w' = w.drewN n := by
  have hcon := fun w => Tryz.stringslite_Index_one s c w
  have hge := indexByte_ge s.data.toList c
  by_cases hi : Lib.indexByte s.data.toList c < 0
  · have h1 := index_no hi
    have e0 : (sOf (cutB s.data.toList c).1) = s := by simp [cutB, h1.2.1, sOf_data]
    have e1 : (sOf (cutB s.data.toList c).2.1) = ⟨#[]⟩ := by simp [cutB, h1.2.2, sOf]
    have e2 : (cutB s.data.toList c).2.2 = false := by simp only [cutB]; exact h1.1
    rw [e0, e1, e2]
    clear h1 e0 e1 e2
    generalize Lib.indexByte s.data.toList c = i at hcon hi hge
    go_enter Tryz.func47, Tryz.ntmps47
    go_wp2_with (go_at_call 67; refine (hcon _).mono ?_; rintro e w' ⟨rfl, rfl⟩)
    go_wp2
    go_ret3
    exact ⟨rfl, 0, rfl⟩
  · obtain ⟨i, hi2⟩ : ∃ i : Nat, Lib.indexByte s.data.toList c = i := ⟨(Lib.indexByte s.data.toList c).toNat, by omega⟩
    have h1 := index_yes hi2
    have hlt : i < s.size := by have := h1.1; rw [size_data] at this; exact this
    have e0 : (sOf (cutB s.data.toList c).1) = s.extract 0 i := by
      simp only [cutB, h1.2.2.1]
      rw [← sOf_data (s.extract 0 i), Lib.extract_data]
      simp
    have e1 : (sOf (cutB s.data.toList c).2.1) = s.extract (i + 1) s.size := by
      simp only [cutB, h1.2.2.2]
      rw [← sOf_data (s.extract (i + 1) s.size), Lib.extract_to_end]
      simp
    have e2 : (cutB s.data.toList c).2.2 = true := by simp only [cutB]; exact h1.2.1
    rw [e0, e1, e2]
    rw [hi2] at hcon
    clear h1 e0 e1 e2 hi hi2 hge
    have hsz : (⟨#[c]⟩ : ByteArray).size = 1 := rfl
    go_enter Tryz.func47, Tryz.ntmps47
    go_wp2_with (go_at_call 67; refine (hcon _).mono ?_; rintro e w' ⟨rfl, rfl⟩)
    go_quiet (fail)
    go_wp2
    go_ret3
    exact ⟨rfl, _, rfl⟩

set_option maxHeartbeats 1000000 in
theorem cut_calls (s : ByteArray) (c : UInt8) (w : World) (hs : s.size ≤ 140737488351232) :
    Calls Tryz.prog 22 #[.string s, .string ⟨#[c]⟩] w fun e w' => e = .returned (.tuple #[.string (sOf (cutB s.data.toList c).1), .string (sOf (cutB s.data.toList c).2.1), .bool (cutB s.data.toList c).2.2]) ∧ ∃ n, w' = w.drewN n := by
  have hcon := fun w => slcut_calls s c w hs
  generalize sOf (cutB s.data.toList c).1 = r1 at hcon ⊢
  generalize sOf (cutB s.data.toList c).2.1 = r2 at hcon ⊢
  generalize (cutB s.data.toList c).2.2 = r3 at hcon ⊢
  go_enter Tryz.func22, Tryz.ntmps22
  go_wp2_with (go_at_call 47; refine (hcon _).mono ?_; rintro e w' ⟨rfl, n, rfl⟩)
  go_wp2
  go_ret3
  exact ⟨rfl, _, rfl⟩
end Go.Proofs.YtjmjmnagnbgmfaaGreatDoor
/- mime.anyAt: the place of the first byte of a text that is among some ASCII bytes, or -1. -/
namespace Go.Proofs.YtjmjmnagnbgmfaaGreatDoor
open Go.RowKit Go.Shelf Go.Lib

theorem width_pos (s : ByteArray) (pos : Nat) (h : pos < s.size) : 1 ≤ (Utf8.decode s pos).2 := by
  by_cases ha : (s[pos]'h).toNat < 128
  · rw [decode_ascii s pos h ha]
    exact Nat.le_refl _
  · exact (decode_high s pos h (by omega)).2

/-- What a character takes behind its first byte are no ASCII bytes. -/
theorem width_high (s : ByteArray) (pos : Nat) (j : Nat) (h0 : 0 < j) (hj : j < (Utf8.decode s pos).2) : pos + j < s.size ∧ 128 ≤ (s.get! (pos + j)).toNat := by
  have key : ∀ k, (decide (pos + k < s.size) && (s.get! (pos + k)).toNat / 64 == 2) = true → pos + k < s.size ∧ 128 ≤ (s.get! (pos + k)).toNat := by
    intro k hk
    simp only [Bool.and_eq_true, decide_eq_true_eq, beq_iff_eq] at hk
    omega
  simp only [Utf8.decode] at hj
  split at hj
  · omega
  · split at hj
    · rename_i hc
      simp only [Bool.and_eq_true] at hc
      split at hj
      · obtain rfl : j = 1 := by simp at hj; omega
        exact key 1 (by simpa using hc.2)
      · simp at hj; omega
    · split at hj
      · rename_i hc
        simp only [Bool.and_eq_true] at hc
        split at hj
        · simp at hj
          rcases (show j = 1 ∨ j = 2 by omega) with rfl | rfl
          · exact key 1 (by simpa using hc.1.2)
          · exact key 2 (by simpa using hc.2)
        · simp at hj; omega
      · split at hj
        · rename_i hc
          simp only [Bool.and_eq_true] at hc
          split at hj
          · simp at hj
            rcases (show j = 1 ∨ j = 2 ∨ j = 3 by omega) with rfl | rfl | rfl
            · exact key 1 (by simpa using hc.1.1.2)
            · exact key 2 (by simpa using hc.1.2)
            · exact key 3 (by simpa using hc.2)
          · simp at hj; omega
        · simp at hj; omega

theorem get_data (s : ByteArray) (i : Nat) (h : i < s.size) : s.data.toList[i]? = some (s[i]'h) := by
  rw [List.getElem?_eq_getElem (by rw [size_data]; exact h)]
  rfl
theorem get_bang (s : ByteArray) (i : Nat) (h : i < s.size) : s.get! i = s[i]'h := get_at s i h

/-- One step on: none of the bytes of a character that is not among some ASCII bytes is among them. -/
theorem noAny_step {s : ByteArray} {cs : List UInt8} {pos : Nat} (h : pos < s.size) (hn : NoAny s.data.toList cs pos) (hcs : ∀ b ∈ cs, b.toNat < 128) (hc : ∀ b ∈ cs, b.toNat ≠ (Utf8.decode s pos).1) :
    NoAny s.data.toList cs (pos + (Utf8.decode s pos).2) ∧ pos + (Utf8.decode s pos).2 ≤ s.size := by
  have hw := width_pos s pos h
  have hle : pos + (Utf8.decode s pos).2 ≤ s.size := by
    by_cases h1 : (Utf8.decode s pos).2 = 1
    · omega
    · have := (width_high s pos ((Utf8.decode s pos).2 - 1) (by omega) (by omega)).1
      omega
  refine ⟨fun j b hj hb => ?_, hle⟩
  by_cases hjp : j < pos
  · exact hn j b hjp hb
  · have hjs : j < s.size := by omega
    rw [get_data s j hjs] at hb
    cases hb
    cases hcon : cs.contains (s[j]'hjs) with
    | false => rfl
    | true =>
      exfalso
      have hm : s[j]'hjs ∈ cs := by simpa using hcon
      by_cases hje : j = pos
      · subst hje
        have hlt := hcs _ hm
        have := decode_ascii s j h hlt
        exact hc _ hm (by rw [this])
      · have := (width_high s pos (j - pos) (by omega) (by omega)).2
        rw [show pos + (j - pos) = j by omega, get_bang s j hjs] at this
        have := hcs _ hm
        omega

/-- anyAt's answer where a character among the bytes stands. -/
theorem anyAt_hit {s : ByteArray} {cs : List UInt8} {pos : Nat} (h : pos < s.size) (hn : NoAny s.data.toList cs pos) (hcs : ∀ b ∈ cs, b.toNat < 128) (b : UInt8) (hb : b ∈ cs) (he : b.toNat = (Utf8.decode s pos).1) :
    Lib.indexAny s.data.toList cs = pos := by
  have hlt := hcs b hb
  have ha : (s[pos]'h).toNat < 128 := by
    rcases Nat.lt_or_ge (s[pos]'h).toNat 128 with h1 | h1
    · exact h1
    · have := (decode_high s pos h h1).1
      omega
  have hd := decode_ascii s pos h ha
  rw [hd] at he
  have hbe : b = s[pos]'h := UInt8.toNat_inj.1 he
  exact indexAny_hit hn (get_data s pos h) (by rw [← hbe]; simpa using hb)

set_option maxHeartbeats 4000000 in
set_option maxRecDepth 1000000 in
theorem anyAt_calls (s t : ByteArray) (w : World) (hs : s.size ≤ 140737488351232) (ht : t.size ≤ 140737488351232) (hcs : ∀ b ∈ t.data.toList, b.toNat < 128) :
    Calls Tryz.prog 49 #[.string s, .string t] w fun e w' => e = .returned (.int .i64 (Lib.indexAny s.data.toList t.data.toList)) ∧ Below w.heap.size w w' := by
  obtain ⟨r, hr⟩ : ∃ r, r = Lib.indexAny s.data.toList t.data.toList := ⟨_, rfl⟩
  rw [← hr]
  have HR := Lib.hid hr
  clear hr
  have HCS := Lib.hid hcs
  clear hcs
  go_enter Tryz.func49, Tryz.ntmps49
  go_wp2
  go_loopg [] s.size (fun k wr => ∃ pos : Nat, k = s.size - pos ∧ wr.heap[w.heap.size]? = some (.stringIter s pos) ∧ Below w.heap.size w wr ∧ Hid (NoAny s.data.toList t.data.toList pos) ∧ pos ≤ s.size)
  case atStart =>
    refine ⟨0, by omega, ?_, (Below.refl _ w).alloc (Nat.le_refl _) _, NoAny.zero _ _, by omega⟩
    exact World.iter_heap w s 0
  case round =>
    obtain ⟨pos, rfl, hit, hbw, HN, hle⟩ := hrel
    have hsz : w.heap.size < wr.heap.size := (Array.getElem?_eq_some_iff.1 hit).1
    by_cases hp : pos < s.size
    · have hnx : ∀ ty, (Instr.next (.pointer (some ⟨w.heap.size, 0, none⟩)) true ty).run Tryz.prog wr = _ := fun ty => Lib.run_next_any_at wr w.heap.size s pos ty hit hp
      have hit2 := Lib.iterAt_heap wr w.heap.size s pos (pos + (Utf8.decode s pos).2) hit
      have hbw2 := Lib.below_iterAt hbw (k := w.heap.size) (by omega) s (pos + (Utf8.decode s pos).2)
      have hsz2 : w.heap.size < (wr.iterAt w.heap.size s (pos + (Utf8.decode s pos).2)).heap.size := by rw [Lib.iterAt_size]; omega
      have hwd := width_pos s pos hp
      have hd1 := decode_le s pos
      go_wp2
      generalize hW2 : wr.iterAt w.heap.size s (pos + (Utf8.decode s pos).2) = W2 at hit2 hbw2 hsz2 ⊢
      have HW2 := Lib.hid hW2
      clear hW2 hnx
      go_loopg [] t.size (fun k wi => ∃ q : Nat, k = t.size - q ∧ wi.heap[W2.heap.size]? = some (.stringIter t q) ∧ wi.heap[w.heap.size]? = some (.stringIter s (pos + (Utf8.decode s pos).2)) ∧ Below w.heap.size w wi ∧ W2.heap.size < wi.heap.size ∧ q ≤ t.size ∧
        Hid (∀ j (hj : j < q) (ht : j < t.size), (t[j]'ht).toNat ≠ (Utf8.decode s pos).1))
      case atStart =>
        refine ⟨0, by omega, World.iter_heap W2 t 0, ?_, hbw2.alloc (by omega) _, by simp [World.iter], by omega, fun j hj => by omega⟩
        exact (Below.heap_alloc W2 _ _ hsz2).trans hit2
      case round =>
        obtain ⟨q, rfl, hitq, hits, hbi, hszi, hq, HQ⟩ := hrel
        by_cases hqs : q < t.size
        · have hta : (t[q]'hqs).toNat < 128 := HCS.out _ (List.mem_of_getElem? (get_data t q hqs))
          have hnq : ∀ ty, (Instr.next (.pointer (some ⟨W2.heap.size, 0, none⟩)) true ty).run Tryz.prog wr = _ := fun ty => Lib.run_next_ascii_at wr W2.heap.size t q ty hitq hqs hta
          by_cases he : (t[q]'hqs).toNat = (Utf8.decode s pos).1
          · have hfin : r = pos := by rw [HR.out]; exact anyAt_hit hp HN.out HCS.out _ (List.mem_of_getElem? (get_data t q hqs)) he
            have hb := Lib.below_iterAt hbi (k := W2.heap.size) (by omega) t (q + 1)
            have heb : (((Utf8.decode s pos).1 : Int) == ((t[q]'hqs).toNat : Int)) = true := by rw [he]; exact beq_self_eq_true _
            have HF := Lib.hid hfin
            clear hfin he
            go_wp2
            go_ret
            exact ⟨by rw [HF.out]; rfl, hb⟩
          · have hb := Lib.below_iterAt hbi (k := W2.heap.size) (by omega) t (q + 1)
            have hq2 := Lib.iterAt_heap wr W2.heap.size t q (q + 1) hitq
            have hs2 : (wr.iterAt W2.heap.size t (q + 1)).heap[w.heap.size]? = some (.stringIter s (pos + (Utf8.decode s pos).2)) := (Lib.iterAt_other _ _ _ _ _ (by omega)).trans hits
            have hz2 : W2.heap.size < (wr.iterAt W2.heap.size t (q + 1)).heap.size := by rw [Lib.iterAt_size]; exact hszi
            have HQ2 : Hid (∀ j (hj : j < q + 1) (ht : j < t.size), (t[j]'ht).toNat ≠ (Utf8.decode s pos).1) := by
              intro j hj htj
              by_cases hjq : j = q
              · subst hjq; exact he
              · exact HQ.out j (by omega) htj
            have heb : (((Utf8.decode s pos).1 : Int) == ((t[q]'hqs).toNat : Int)) = false := by
              rw [beq_eq_false_iff_ne]
              intro h
              exact he (by omega)
            clear he HQ
            go_wp2
            go_roundg (t.size - (q + 1))
            case measure => omega
            case rel => exact ⟨q + 1, rfl, hq2, hs2, hb, hz2, by omega, HQ2⟩
        · have hnq : ∀ ty, (Instr.next (.pointer (some ⟨W2.heap.size, 0, none⟩)) true ty).run Tryz.prog wr = _ := fun ty => Lib.run_next_end_at wr W2.heap.size t q ty hitq hqs
          have hst := noAny_step hp HN.out HCS.out (fun b hb he => by
            obtain ⟨j, hj⟩ := List.mem_iff_getElem?.1 hb
            have hjl : j < t.size := by
              rcases Nat.lt_or_ge j t.size with h | h
              · exact h
              · rw [List.getElem?_eq_none (by rw [size_data]; exact h)] at hj; cases hj
            rw [get_data t j hjl] at hj
            cases hj
            exact HQ.out j (by omega) hjl he)
          have HN2 : Hid (NoAny s.data.toList t.data.toList (pos + (Utf8.decode s pos).2)) := hst.1
          have hst2 := hst.2
          clear hst
          go_wp2
          go_roundg (s.size - (pos + (Utf8.decode s pos).2))
          case measure => omega
          case rel => exact ⟨pos + (Utf8.decode s pos).2, rfl, hits, hbi, HN2, hst2⟩
    · have hnx : ∀ ty, (Instr.next (.pointer (some ⟨w.heap.size, 0, none⟩)) true ty).run Tryz.prog wr = _ := fun ty => Lib.run_next_end_at wr w.heap.size s pos ty hit hp
      have hfin : r = -1 := by
        rw [HR.out]
        exact indexAny_none (by rw [size_data, ← show pos = s.size by omega]; exact HN.out)
      have HF := Lib.hid hfin
      clear hfin
      go_wp2
      go_ret
      exact ⟨by rw [HF.out]; rfl, hbw⟩
end Go.Proofs.YtjmjmnagnbgmfaaGreatDoor
