/- token.Quoted as a plain function of bytes; mime.value by it. -/
import Derived.Test.YtjmjmnagnbgmfaaGreatDoorS7
import Derived.Test.YtjmjmnagnbgmfaaGreatDoorS6
import Derived.Test.YtjmjmnagnbgmfaaGreatDoorPMimeReadsx3
namespace Go.Proofs.YtjmjmnagnbgmfaaGreatDoor
open Go.RowKit Go.Shelf Go.Lib Go.Proofs.YtjmjmnagnbgmfaaGreatDoorW.PrintWords PMimeReads

/-- What stands in quotes, of what stands behind the first quote; how many bytes that takes, the second quote among them. -/
def scanQ : List UInt8 → List UInt8 × Nat
  | [] => ([], 0)
  | [c] => if c.toNat = 34 then ([], 1) else ([c], 1)
  | c :: d :: l => if c.toNat = 34 then ([], 1) else if c.toNat = 92 then (d :: (scanQ l).1, (scanQ l).2 + 2) else (c :: (scanQ (d :: l)).1, (scanQ (d :: l)).2 + 1)
/-- The value of a quoted string, and how many bytes it takes; 0: there is none. -/
def quotedB : List UInt8 → List UInt8 × Nat
  | [] => ([], 0)
  | c :: l => if c.toNat = 34 then ((scanQ l).1, (scanQ l).2 + 1) else ([], 0)

theorem scanQ_le : ∀ l : List UInt8, (scanQ l).2 ≤ l.length ∧ (scanQ l).1.length ≤ l.length
  | [] => by simp [scanQ]
  | [c] => by unfold scanQ; split <;> simp
  | c :: d :: l => by
    have h1 := scanQ_le l
    have h2 := scanQ_le (d :: l)
    unfold scanQ
    simp only [List.length_cons] at h2 ⊢
    split
    · simp
    · split
      · simp; omega
      · simp; omega
theorem quotedB_le (l : List UInt8) : (quotedB l).2 ≤ l.length ∧ (quotedB l).1.length ≤ l.length := by
  cases l with
  | nil => simp [quotedB]
  | cons c l =>
    have := scanQ_le l
    by_cases h : c.toNat = 34
    · simp only [quotedB, h, if_true, List.length_cons]
      omega
    · simp [quotedB, h]

def numsL (l : List UInt8) : List Int := l.map fun b => (b.toNat : Int)
theorem strOfNums_numsL (l : List UInt8) : strOfNums (numsL l) = sOf l := by
  unfold strOfNums numsL sOf
  congr 2
  rw [List.map_map]
  conv => rhs; rw [← List.map_id l]
  apply List.map_congr_left
  intro b _
  simp
theorem numsL_snoc (l : List UInt8) (b : UInt8) : numsL (l ++ [b]) = numsL l ++ [(b.toNat : Int)] := by simp [numsL]
theorem numsL_length (l : List UInt8) : (numsL l).length = l.length := by simp [numsL]

theorem bt_get (s : ByteArray) (i : Nat) (h : i < s.size) : bt s (i : Int) = ((s[i]'h).toNat : Int) := by
  unfold bt
  rw [dif_pos (show ((i : Int).toNat < s.size) by simpa using h)]
  simp
theorem wrap_nat {i : Nat} (h : i ≤ 140737488355328) : wrap64 ((i : Int) + 1) = ((i + 1 : Nat) : Int) := by
  unfold wrap64
  omega

theorem scan_l0 (s : ByteArray) (hs : s.size ≤ 140737488351232) : ∀ (d i : Nat) (a : List UInt8) (k : Nat), s.size - i = d → i ≤ s.size → a.length ≤ i → d < k →
    token_Quoted.l0 k s (numsL a) i = some (sOf (a ++ (scanQ (s.data.toList.drop i)).1), ((i + (scanQ (s.data.toList.drop i)).2 : Nat) : Int)) := by
  intro d
  induction d using Nat.strongRecOn with
  | _ d ih =>
    intro i a k hd hi ha hk
    obtain ⟨k, rfl⟩ : ∃ m, k = m + 1 := ⟨k - 1, by omega⟩
    simp only [token_Quoted.l0]
    by_cases hlt : i < s.size
    · rw [if_pos (show (i : Int) < (s.size : Int) by omega), if_pos (show 0 ≤ (i : Int) by omega), bt_get s i hlt, wrap_nat (show i ≤ 140737488355328 by omega)]
      rw [drop_cons s i hlt]
      by_cases h34 : (s[i]'hlt).toNat = 34
      · rw [if_pos (by omega)]
        have e : scanQ ((s[i]'hlt) :: s.data.toList.drop (i + 1)) = ([], 1) := by
          cases s.data.toList.drop (i + 1) with
          | nil => simp [scanQ, h34]
          | cons d l => simp [scanQ, h34]
        rw [e, strOfNums_numsL]
        simp
      · rw [if_neg (by omega)]
        have hsn : (if (numsL a).length < 140737488355328 then token_Quoted.l0 k s (numsL a ++ [((s[i]'hlt).toNat : Int)]) ((i + 1 : Nat) : Int) else none) =
            some (sOf (a ++ ((s[i]'hlt) :: (scanQ (s.data.toList.drop (i + 1))).1)), ((i + ((scanQ (s.data.toList.drop (i + 1))).2 + 1) : Nat) : Int)) := by
          rw [if_pos (by rw [numsL_length]; omega), ← numsL_snoc, ih (s.size - (i + 1)) (by omega) (i + 1) (a ++ [s[i]'hlt]) k rfl (by omega) (by simp; omega) (by omega)]
          simp only [List.append_assoc, List.singleton_append]
          congr 3
          omega
        by_cases h1 : i + 1 < s.size
        · rw [drop_cons s (i + 1) h1] at hsn ⊢
          by_cases h92 : (s[i]'hlt).toNat = 92
          · rw [if_pos (by omega), if_pos (by omega), if_pos (by omega), bt_get s (i + 1) h1, wrap_nat (show i + 1 ≤ 140737488355328 by omega), if_pos (by rw [numsL_length]; omega), ← numsL_snoc,
              ih (s.size - (i + 1 + 1)) (by omega) (i + 1 + 1) (a ++ [s[i + 1]'h1]) k rfl (by omega) (by simp; omega) (by omega)]
            simp only [scanQ, h92, if_true, List.append_assoc, List.singleton_append]
            simp only [show (92 : Nat) = 34 ↔ False by decide, if_false]
            congr 3
            omega
          · rw [if_neg (by omega)]
            simp only [scanQ, h34, h92, if_false]
            exact hsn
        · have hnil : s.data.toList.drop (i + 1) = [] := List.drop_eq_nil_of_le (by rw [size_data]; omega)
          rw [hnil] at hsn ⊢
          simp only [scanQ, h34, if_false] at hsn ⊢
          by_cases h92 : (s[i]'hlt).toNat = 92
          · rw [if_pos (by omega), if_neg (by omega)]
            exact hsn
          · rw [if_neg (by omega)]
            exact hsn
    · obtain rfl : i = s.size := by omega
      rw [if_neg (by omega), List.drop_eq_nil_of_le (by rw [size_data]; omega), strOfNums_numsL]
      simp [scanQ]

theorem hasPrefix_f (s : ByteArray) (c : UInt8) : strings_HasPrefix.f s ⟨#[c]⟩ = some (match s.data.toList with | [] => false | b :: _ => b == c) := by
  unfold strings_HasPrefix.f stringslite_HasPrefix.f
  have h1 : ((⟨#[c]⟩ : ByteArray).size : Int) = 1 := rfl
  rw [h1]
  have hl := size_data s
  cases hd : s.data.toList with
  | nil =>
    rw [hd] at hl
    simp only [List.length_nil] at hl
    rw [if_neg (by omega)]
    rfl
  | cons b t =>
    rw [hd] at hl
    simp only [List.length_cons] at hl
    rw [if_pos (by omega), if_pos (by omega), if_pos (by omega), Lib.toList_data, Lib.extract_data, hd]
    have h2 : (⟨#[c]⟩ : ByteArray).toList = [c] := by rw [Lib.toList_data]
    rw [h2]
    simp only [Int.toNat_one, Nat.sub_zero, List.drop_zero, Option.bind_some]
    simp

theorem quoted_f (s : ByteArray) (hs : s.size ≤ 140737488351232) : ∃ k, token_Quoted.f k s = some (sOf (quotedB s.data.toList).1, (((quotedB s.data.toList).2 : Nat) : Int)) := by
  refine ⟨s.size + 1, ?_⟩
  unfold token_Quoted.f
  rw [hasPrefix_f]
  cases hd : s.data.toList with
  | nil =>
    simp only [Option.bind_some]
    rfl
  | cons b t =>
    have hsz : s.size = t.length + 1 := by rw [← size_data, hd]; rfl
    simp only [Option.bind_some]
    by_cases hb : b.toNat = 34
    · have hbe : (b == 34) = true := by
        rw [beq_iff_eq, ← UInt8.toNat_inj]
        exact hb
      rw [if_pos hbe]
      have := scan_l0 s hs (s.size - 1) 1 [] (s.size + 1) rfl (by omega) (by simp) (by omega)
      rw [show (numsL [] : List Int) = [] from rfl] at this
      rw [show ((1 : Nat) : Int) = 1 from rfl] at this
      rw [this, hd]
      simp only [quotedB, hb, if_true, List.drop_one, List.tail_cons, List.nil_append]
      congr 2
      omega
    · have hbe : ¬ (b == 34) = true := by
        rw [beq_iff_eq, ← UInt8.toNat_inj]
        exact hb
      rw [if_neg hbe]
      simp only [quotedB, hb, if_false]
      rfl

theorem quoted_calls (s : ByteArray) (w : World) (hs : s.size ≤ 140737488351232) :
    Calls Tryz.prog 77 #[.string s] w fun e w' => e = .returned (.tuple #[.string (sOf (quotedB s.data.toList).1), .int .i64 ((quotedB s.data.toList).2 : Nat)]) ∧ Below w.heap.size w w' := by
  obtain ⟨k, hk⟩ := quoted_f s hs
  exact token_Quoted.calls k s _ _ w hk

/-- A parameter's value, of what stands behind =; what is left; is there one? -/
def valueB (l : List UInt8) : List UInt8 × List UInt8 × Bool :=
  if 0 < (quotedB l).2 then ((quotedB l).1, (cutA (l.drop (quotedB l).2) [59]).2, true)
  else (Lib.trimRightS (cutA l [59]).1 blanks, (cutA l [59]).2, !(Lib.trimRightS (cutA l [59]).1 blanks).isEmpty)

theorem semi_ascii : ∀ b ∈ (⟨#[59]⟩ : ByteArray).data.toList, b.toNat < 128 := by decide
theorem semieq_ascii : ∀ b ∈ (⟨#[59, 61]⟩ : ByteArray).data.toList, b.toNat < 128 := by decide

theorem cutA_len (l cs : List UInt8) : (cutA l cs).1.length ≤ l.length ∧ (cutA l cs).2.length ≤ l.length := by
  have := congrArg List.length (cutA_app l cs)
  simp at this
  omega

set_option maxHeartbeats 2000000 in
theorem value_calls (s : ByteArray) (w : World) (hs : s.size ≤ 140737488351232) :
    Calls Tryz.prog 56 #[.string s] w fun e w' => e = .returned (.tuple #[.string (sOf (valueB s.data.toList).1), .string (sOf (valueB s.data.toList).2.1), .bool (valueB s.data.toList).2.2]) ∧ Below w.heap.size w w' := by
  have HQ := Lib.hid (fun w => quoted_calls s w hs)
  have hql := quotedB_le s.data.toList
  rw [size_data] at hql
  by_cases hq : 0 < (quotedB s.data.toList).2
  · have hc : Hid (∀ w, Calls Tryz.prog 24 #[.string (s.extract (quotedB s.data.toList).2 s.size), .string ⟨#[59]⟩] w fun e w' => e = .returned (.tuple #[.string (sOf (cutA (s.data.toList.drop (quotedB s.data.toList).2) [59]).1), .string (sOf (cutA (s.data.toList.drop (quotedB s.data.toList).2) [59]).2)]) ∧ Below w.heap.size w w') := by
      intro w
      have := cut2_calls (s.extract (quotedB s.data.toList).2 s.size) ⟨#[59]⟩ w (by rw [← size_data, Lib.extract_to_end, List.length_drop, size_data]; omega) (by decide) semi_ascii
      rw [Lib.extract_to_end] at this
      exact this
    have hv : valueB s.data.toList = ((quotedB s.data.toList).1, (cutA (s.data.toList.drop (quotedB s.data.toList).2) [59]).2, true) := by unfold valueB; rw [if_pos hq]
    rw [hv]
    clear hv
    have hle := hql.1
    clear hql
    generalize sOf (quotedB s.data.toList).1 = r1 at HQ ⊢
    generalize sOf (cutA (s.data.toList.drop (quotedB s.data.toList).2) [59]).1 = r2 at hc
    generalize sOf (cutA (s.data.toList.drop (quotedB s.data.toList).2) [59]).2 = r3 at hc ⊢
    generalize (quotedB s.data.toList).2 = n at HQ hc hq hle
    go_enter Tryz.func56, Tryz.ntmps56
    go_wp2_with (first | (go_at_call 77; refine (HQ.out _).mono ?_; rintro e w1 ⟨rfl, hB1⟩) | (go_at_call 24; refine (hc.out _).mono ?_; rintro e w2 ⟨rfl, hB2⟩))
    go_ret3
    exact ⟨rfl, hB1.trans (hB2.mono hB1.size)⟩
  · have hc : Hid (∀ w, Calls Tryz.prog 24 #[.string s, .string ⟨#[59]⟩] w fun e w' => e = .returned (.tuple #[.string (sOf (cutA s.data.toList [59]).1), .string (sOf (cutA s.data.toList [59]).2)]) ∧ Below w.heap.size w w') := fun w => cut2_calls s ⟨#[59]⟩ w hs (by decide) semi_ascii
    have hr : Hid (∀ w, Calls Tryz.prog 25 #[.string (sOf (cutA s.data.toList [59]).1)] w fun e w' => e = .returned (.string (sOf (Lib.trimRightS (cutA s.data.toList [59]).1 blanks))) ∧ Below w.heap.size w w') := by
      intro w
      have hl := (cutA_len s.data.toList [59]).1
      rw [size_data] at hl
      have := right_calls (sOf (cutA s.data.toList [59]).1) w (by rw [size_sOf]; omega)
      rw [data_sOf] at this
      exact this
    have hv : valueB s.data.toList = (Lib.trimRightS (cutA s.data.toList [59]).1 blanks, (cutA s.data.toList [59]).2, !(Lib.trimRightS (cutA s.data.toList [59]).1 blanks).isEmpty) := by unfold valueB; rw [if_neg hq]
    rw [hv]
    have hn0 : (quotedB s.data.toList).2 = 0 := by omega
    rw [hn0] at HQ
    clear hv hql hn0 hq
    have he : Hid ((!(sOf (Lib.trimRightS (cutA s.data.toList [59]).1 blanks)).toList.isEmpty) = (!(Lib.trimRightS (cutA s.data.toList [59]).1 blanks).isEmpty)) := by rw [toList_sOf]; exact rfl
    generalize (!(Lib.trimRightS (cutA s.data.toList [59]).1 blanks).isEmpty) = bb at he ⊢
    generalize sOf (quotedB s.data.toList).1 = r1 at HQ
    generalize sOf (Lib.trimRightS (cutA s.data.toList [59]).1 blanks) = r2 at hr he ⊢
    generalize sOf (cutA s.data.toList [59]).1 = r4 at hc hr
    generalize sOf (cutA s.data.toList [59]).2 = r3 at hc ⊢
    go_enter Tryz.func56, Tryz.ntmps56
    go_wp2_with (first | (go_at_call 77; refine (HQ.out _).mono ?_; rintro e w1 ⟨rfl, hB1⟩) | (go_at_call 24; refine (hc.out _).mono ?_; rintro e w2 ⟨rfl, hB2⟩) | (go_at_call 25; refine (hr.out _).mono ?_; rintro e w3 ⟨rfl, hB3⟩))
    go_ret3
    exact ⟨by rw [← he.out]; rfl, (hB1.trans (hB2.mono hB1.size)).trans (hB3.mono (Nat.le_trans hB1.size hB2.size))⟩
end Go.Proofs.YtjmjmnagnbgmfaaGreatDoor
