import Derived.Test.YtjmjmnagnbgmfaaGreatDoorS46
import Derived.Test.YtjmjmnagnbgmfaaGreatDoorS32
/-! The reference's Right, Trim, Find, Quoted. -/
namespace Go.Proofs.YtjmjmnagnbgmfaaGreatDoor
open Go.RowKit Go.Shelf Go.Lib

theorem sOf_ext (l : List UInt8) (i j : Nat) : (sOf l).extract i j = sOf ((l.drop i).take (j - i)) := by
  apply ByteArray.ext
  apply Array.ext'
  rw [data_sOf, ByteArray.data_extract, Array.toList_extract]
  show List.extract (sOf l).data.toList i j = _
  rw [data_sOf]
theorem snoc_cases (l : List UInt8) : l = [] ∨ ∃ q b, l = q ++ [b] := by
  rcases List.eq_nil_or_concat l with h | ⟨q, b, h⟩
  · exact .inl h
  · exact .inr ⟨q, b, by rw [h, List.concat_eq_append]⟩
theorem trimRight_cons (c : UInt8) (t cs : List UInt8) : Lib.trimRightS (c :: t) cs = if (Lib.trimRightS t cs).isEmpty && cs.contains c then [] else c :: Lib.trimRightS t cs := by
  unfold Lib.trimRightS
  rw [List.reverse_cons, List.dropWhile_append]
  generalize List.dropWhile (fun x => cs.contains x) t.reverse = d
  cases d with
  | nil =>
    by_cases h : cs.contains c = true
    · have h' : c ∈ cs := by simpa using h
      simp [h']
    · have h' : ¬ c ∈ cs := by simpa using h
      simp [h']
  | cons x d => simp
theorem trim_comm (l cs : List UInt8) : Lib.trimRightS (Lib.trimLeftS l cs) cs = Lib.trimS l cs := by
  unfold Lib.trimS
  induction l with
  | nil => rfl
  | cons c t ih =>
    by_cases h : cs.contains c = true
    · have e : Lib.trimLeftS (c :: t) cs = Lib.trimLeftS t cs := by simp only [Lib.trimLeftS, List.dropWhile_cons, h, if_true]
      rw [e, ih, trimRight_cons]
      generalize Lib.trimRightS t cs = d
      cases d with
      | nil =>
        have h' : c ∈ cs := by simpa using h
        simp [h']
      | cons x d => simp only [List.isEmpty_cons, Bool.false_and, Bool.false_eq_true, if_false, Lib.trimLeftS, List.dropWhile_cons (x := c), h, if_true]
    · have hb : cs.contains c = false := by simpa using h
      have e : Lib.trimLeftS (c :: t) cs = c :: t := by simp only [Lib.trimLeftS, List.dropWhile_cons, hb, Bool.false_eq_true, if_false]
      rw [e, trimRight_cons, hb]
      simp only [Bool.and_false, Bool.false_eq_true, if_false, Lib.trimLeftS, List.dropWhile_cons, hb]
theorem trimRight_snoc (q cs : List UInt8) (b : UInt8) : Lib.trimRightS (q ++ [b]) cs = if cs.contains b then Lib.trimRightS q cs else q ++ [b] := by
  unfold Lib.trimRightS
  rw [List.reverse_append]
  simp only [List.reverse_cons, List.reverse_nil, List.nil_append, List.cons_append, List.dropWhile_cons]
  split
  · rfl
  · simp

set_option maxHeartbeats 2000000 in
theorem rend_calls (l cs : List UInt8) (w : World) (hl : l.length ≤ 1000000) (hcs : cs.length ≤ 1000000) :
    Calls Tryz.prog 33 #[.string (sOf l), .string (sOf cs)] w fun e w' => e = .returned (.string (sOf (Lib.trimRightS l cs))) ∧ w = w' := by
  obtain ⟨R, hR⟩ : ∃ R, R = Lib.trimRightS l cs := ⟨_, rfl⟩
  rw [← hR]
  have HR := Lib.hid hR
  clear hR
  go_enter Tryz.func33, Tryz.ntmps33
  go_wp2
  go_loopg [0] l.length (fun g v wr => ∃ l' : List UInt8, l'.length = g ∧ v = .string (sOf l') ∧ Hid (Lib.trimRightS l' cs = R) ∧ l'.length ≤ l.length ∧ w = wr)
  case atStart => exact ⟨l, rfl, rfl, HR.out.symm, Nat.le_refl _, rfl⟩
  case round =>
    obtain ⟨l', rfl, rfl, HQ, hle, rfl⟩ := hrel
    rcases snoc_cases l' with rfl | ⟨q, b, rfl⟩
    · have hts : (sOf []).toList = [] := toList_sOf []
      have HF : Hid (R = []) := HQ.out.symm
      go_wp2
      go_ret
      exact ⟨by rw [HF.out]; rfl, rfl⟩
    · have hl1 : q.length + 1 ≤ 1000000 := by simp at hle; omega
      have hsz : (sOf (q ++ [b])).size = q.length + 1 := by rw [size_sOf]; simp
      have hix : ∀ h, (sOf (q ++ [b]))[q.length]'h = b := fun h => by
        have e : (sOf (q ++ [b]))[q.length]'h = (q ++ [b])[q.length]'(by simp) := rfl
        rw [e]; simp
      have hex : (sOf (q ++ [b])).extract 0 q.length = sOf q := by
        rw [sOf_ext]; simp
      have hS3 : (sOf (q ++ [b])).toList.isEmpty = false := by rw [toList_sOf]; simp
      have hS4 : ¬ (sOf (q ++ [b])).toList = [] := by rw [toList_sOf]; simp
      have HQ2 : Hid ((if cs.contains b then Lib.trimRightS q cs else q ++ [b]) = R) := by
        show _ = _
        rw [← trimRight_snoc]
        exact HQ.out
      have CH := Lib.hid (fun w => has_calls cs b w hcs)
      clear HQ
      generalize hgs : sOf (q ++ [b]) = S0 at *
      cases hb : cs.contains b with
      | true =>
        rw [hb] at CH HQ2
        go_wp2_with (go_at_call 34; refine (CH.out _).mono ?_; rintro e w' ⟨rfl, rfl⟩)
        go_roundg q.length
        case measure => simp
        case rel => exact ⟨q, rfl, rfl, HQ2.out, by simp at hle; omega, rfl⟩
      | false =>
        rw [hb] at CH HQ2
        go_wp2_with (go_at_call 34; refine (CH.out _).mono ?_; rintro e w' ⟨rfl, rfl⟩)
        go_ret
        exact ⟨by rw [← HQ2.out]; subst hgs; rfl, rfl⟩

set_option maxHeartbeats 2000000 in
theorem rtrim_calls (l cs : List UInt8) (w : World) (hl : l.length ≤ 1000000) (hcs : cs.length ≤ 1000000) :
    Calls Tryz.prog 29 #[.string (sOf l), .string (sOf cs)] w fun e w' => e = .returned (.string (sOf (Lib.trimS l cs))) ∧ w = w' := by
  obtain ⟨R, hR⟩ : ∃ R, R = Lib.trimS l cs := ⟨_, rfl⟩
  rw [← hR]
  have HR : Hid (Lib.trimRightS (Lib.trimLeftS l cs) cs = R) := by
    show _ = _
    rw [trim_comm, hR]
  clear hR
  go_enter Tryz.func29, Tryz.ntmps29
  go_wp2
  go_loopg [0] l.length (fun g v wr => ∃ l' : List UInt8, l'.length = g ∧ v = .string (sOf l') ∧ Hid (Lib.trimRightS (Lib.trimLeftS l' cs) cs = R) ∧ l'.length ≤ l.length ∧ w = wr)
  case atStart => exact ⟨l, rfl, rfl, HR.out, Nat.le_refl _, rfl⟩
  case round =>
    obtain ⟨l', rfl, rfl, HQ, hle, rfl⟩ := hrel
    cases l' with
    | nil =>
      have hts : (sOf []).toList = [] := toList_sOf []
      have HC := Lib.hid (fun w => rend_calls [] cs w (Nat.zero_le _) hcs)
      have HF : Hid (R = []) := HQ.out.symm
      go_wp2_with (go_at_call 33; refine (HC.out _).mono ?_; rintro e w' ⟨rfl, rfl⟩)
      go_ret
      exact ⟨by rw [HF.out]; rfl, rfl⟩
    | cons b t =>
      have hl1 : t.length + 1 ≤ 1000000 := by simp at hle; omega
      have hsz : (sOf (b :: t)).size = t.length + 1 := by rw [size_sOf]; simp
      have hix : ∀ h, (sOf (b :: t))[0]'h = b := fun h => rfl
      have hex : (sOf (b :: t)).extract 1 (t.length + 1) = sOf t := by
        rw [sOf_ext]; simp
      have hS3 : (sOf (b :: t)).toList.isEmpty = false := by rw [toList_sOf]; rfl
      have hS4 : ¬ (sOf (b :: t)).toList = [] := by rw [toList_sOf]; simp
      have CH := Lib.hid (fun w => has_calls cs b w hcs)
      have CR := Lib.hid (fun w => rend_calls (b :: t) cs w (by simp; omega) hcs)
      cases hb : cs.contains b with
      | true =>
        have HQ2 : Hid (Lib.trimRightS (Lib.trimLeftS t cs) cs = R) := by
          have e : Lib.trimLeftS (b :: t) cs = Lib.trimLeftS t cs := by simp only [Lib.trimLeftS, List.dropWhile_cons, hb, if_true]
          rw [← HQ.out, e]
          exact rfl
        rw [hb] at CH
        clear HQ CR
        generalize sOf (b :: t) = S0 at *
        go_wp2_with (go_at_call 34; refine (CH.out _).mono ?_; rintro e w' ⟨rfl, rfl⟩)
        go_roundg t.length
        case measure => simp
        case rel => exact ⟨t, rfl, rfl, HQ2.out, by simp at hle; omega, rfl⟩
      | false =>
        have HQ2 : Hid (Lib.trimRightS (b :: t) cs = R) := by
          have e : Lib.trimLeftS (b :: t) cs = b :: t := by simp only [Lib.trimLeftS, List.dropWhile_cons, hb, Bool.false_eq_true, if_false]
          rw [← HQ.out, e]
          exact rfl
        rw [hb] at CH
        rw [HQ2.out] at CR
        clear HQ
        generalize sOf (b :: t) = S0 at *
        go_wp2_with (first | (go_at_call 34; refine (CH.out _).mono ?_; rintro e w' ⟨rfl, rfl⟩) | (go_at_call 33; refine (CR.out _).mono ?_; rintro e w' ⟨rfl, rfl⟩))
        go_ret
        exact ⟨rfl, rfl⟩

set_option maxHeartbeats 2000000 in
theorem rfind_calls (l cs : List UInt8) (w : World) (hl : l.length ≤ 1000000) (hcs : cs.length ≤ 1000000) :
    Calls Tryz.prog 30 #[.string (sOf l), .string (sOf cs)] w fun e w' => e = .returned (.int .i64 ((findB l cs : Nat) : Int)) ∧ w = w' := by
  have hsz : (sOf l).size = l.length := size_sOf l
  obtain ⟨R, hR⟩ : ∃ R, R = findB l cs := ⟨_, rfl⟩
  rw [← hR]
  have HR := Lib.hid hR
  clear hR
  go_enter Tryz.func30, Tryz.ntmps30
  go_wp2
  go_loopg [8] l.length (fun g i wr => ∃ k : Nat, l.length - k = g ∧ k ≤ l.length ∧ i = .int .i64 k ∧ Hid (k + findB (l.drop k) cs = R) ∧ w = wr)
  case atStart => exact ⟨0, by omega, by omega, rfl, (by show _ = _; rw [HR.out, Nat.zero_add]; rfl), rfl⟩
  case round =>
    obtain ⟨k, rfl, hk, rfl, HK, rfl⟩ := hrel
    by_cases hlt : k < l.length
    · have hki : (k : Int) < (l.length : Int) := by omega
      obtain ⟨b, hb⟩ : ∃ b, l[k]'hlt = b := ⟨_, rfl⟩
      have hbk : ∀ h, (sOf l)[k]'h = b := fun h => by rw [← hb]; rfl
      have hkb : (k : Int) + 1 ≤ 9223372036854775807 := by omega
      have HD : Hid (k + findB (b :: l.drop (k + 1)) cs = R) := by
        have h := HK.out
        rw [List.drop_eq_getElem_cons hlt, hb] at h
        exact h
      have CH := Lib.hid (fun w => has_calls cs b w hcs)
      clear hb HK
      cases hc : cs.contains b with
      | true =>
        have HF : Hid (R = k) := by
          have h := HD.out
          simp only [findB, cutA, List.takeWhile_cons, hc, Bool.not_true, Bool.false_eq_true, if_false, List.length_nil, Nat.add_zero] at h
          exact h.symm
        rw [hc] at CH
        go_wp2_with (go_at_call 34; refine (CH.out _).mono ?_; rintro e w' ⟨rfl, rfl⟩)
        go_ret
        exact ⟨by rw [HF.out]; rfl, rfl⟩
      | false =>
        have HF : Hid (k + 1 + findB (l.drop (k + 1)) cs = R) := by
          have h := HD.out
          simp only [findB, cutA, List.takeWhile_cons, hc, Bool.not_false, if_true, List.length_cons] at h ⊢
          show _ = _
          omega
        rw [hc] at CH
        go_wp2_with (go_at_call 34; refine (CH.out _).mono ?_; rintro e w' ⟨rfl, rfl⟩)
        go_roundg (l.length - (k + 1))
        case measure => omega
        case rel => exact ⟨k + 1, rfl, by omega, by go_num, HF, rfl⟩
    · obtain rfl : k = l.length := by omega
      have hki : ¬ ((l.length : Int) < (l.length : Int)) := by omega
      have HF : Hid (R = l.length) := by
        have h := HK.out
        rw [List.drop_eq_nil_of_le (Nat.le_refl _)] at h
        exact h.symm
      go_wp2
      go_ret
      exact ⟨by rw [HF.out]; rfl, rfl⟩
end Go.Proofs.YtjmjmnagnbgmfaaGreatDoor
