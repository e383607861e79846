import Derived.Test.YtjmjmnagnbgmfaaGreatDoorS30
import Derived.Test.YtjmjmnagnbgmfaaGreatDoorS32
import Derived.Test.YtjmjmnagnbgmfaaGreatDoorS40
import Derived.Test.YtjmjmnagnbgmfaaGreatDoorS34
/-! What is read is right; the first place of one of some bytes. -/
namespace Go.Proofs.YtjmjmnagnbgmfaaGreatDoor
open Go.Lib

theorem low_idem (c : UInt8) : lowB (lowB c) = lowB c := by
  apply UInt8.toNat_inj.1
  have h := lowB_nat c
  rw [lowB_nat (lowB c)]
  split
  · rename_i h2
    split at h <;> omega
  · rfl
theorem low_low (l : List UInt8) : low (low l) = low l := by
  induction l with
  | nil => rfl
  | cons c t ih =>
    simp only [low, List.map_cons, List.map_map] at ih ⊢
    rw [low_idem, ih]
theorem tok_low {c : UInt8} (h : tokB c = true) : tokB (lowB c) = true := by
  by_cases a : 65 ≤ c.toNat ∧ c.toNat ≤ 90
  · have hn := lowB_nat c
    rw [if_pos a] at hn
    have : letB (lowB c) = true := by
      unfold letB
      rw [hn]
      simp
      omega
    simp [tokB, this]
  · have : lowB c = c := by unfold lowB; rw [if_neg a]
    rw [this]; exact h
theorem isTok_low {l : List UInt8} (h : isTok l = true) : isTok (low l) = true := by
  obtain ⟨h1, h2⟩ := isTok_all h
  simp only [isTok, Bool.and_eq_true, List.all_eq_true, Bool.not_eq_true', List.isEmpty_eq_false_iff]
  refine ⟨fun b hb => ?_, by simpa [low] using h2⟩
  obtain ⟨c, hc, rfl⟩ := List.mem_map.1 hb
  exact tok_low (h1 c hc)
theorem small_low {l : List UInt8} (h : isTok l = true) : smallB (low l) = true := by
  simp [smallB, isTok_low h, low_low]
theorem goodP_app : ∀ (ps pre qs : List Pm), goodP pre (ps ++ qs) = (goodP pre ps && goodP (pre ++ ps) qs)
  | [], pre, qs => by simp [goodP]
  | p :: t, pre, qs => by
    have := goodP_app t (pre ++ [p]) qs
    simp only [List.cons_append, goodP, this, Bool.and_assoc, List.append_assoc, List.nil_append]
theorem params_good : ∀ (k : Nat) (out : List Pm) (l : List UInt8), goodP [] out = true → goodP [] (paramsB k out l) = true
  | 0, out, l, h => by cases l <;> exact h
  | k + 1, out, [], h => by rw [paramsB_nil]; exact h
  | k + 1, out, c0 :: t, h => by
    rw [paramsB_cons]
    generalize hr : (cutA (Lib.trimLeftS t blanks) [59, 61]).2 = r0
    generalize (cutA (Lib.trimLeftS t blanks) [59, 61]).1 = n0
    cases r0 with
    | nil => exact h
    | cons c r =>
      by_cases h61 : c.toNat = 61
      · rw [stepP_eq _ _ _ _ _ h61]
        apply params_good k
        split
        · rename_i h2
          simp only [Bool.and_eq_true, Bool.not_eq_true'] at h2
          rw [goodP_app, h]
          have : smallB (low n0) = true := by simp [smallB, h2.1.2, low_low]
          simp [goodP, h2.1.1.2, this, h2.2]
        · exact h
      · rw [stepP_ne _ _ _ _ (by rintro ⟨t', c', e, h'⟩; injection e with e1 e2; subst e1; exact h61 h')]
        exact params_good k out (c :: r) h
/-- What is read is right. -/
theorem parse_right (l : List UInt8) (h : (parseB l).2 = true) : rightB (parseB l).1 = true := by
  unfold parseB at h ⊢
  generalize hn : namesB l = o at h ⊢
  cases o with
  | none => cases h
  | some x =>
    obtain ⟨a, b, r⟩ := x
    unfold namesB at hn
    simp only at hn
    split at hn
    · rename_i hc
      simp only [Option.some.injEq, Prod.mk.injEq] at hn
      obtain ⟨e1, e2, e3⟩ := hn
      simp only [Bool.and_eq_true] at hc
      have h1 := small_low hc.1.2
      have h2 := small_low hc.2
      rw [e1] at h1
      rw [e2] at h2
      simp only [rightB, h1, h2, Bool.and_true]
      exact params_good _ _ _ rfl
    · cases hn

/-- The first place of one of some bytes; the length, if there is none. -/
def findB (l cs : List UInt8) : Nat := (cutA l cs).1.length
theorem findB_le (l cs : List UInt8) : findB l cs ≤ l.length := (cutA_len l cs).1
theorem findB_take (l cs : List UInt8) : l.take (findB l cs) = (cutA l cs).1 := by
  have h := cutA_app l cs
  unfold findB
  generalize cutA l cs = x at h ⊢
  rw [← h, List.take_left]
theorem findB_drop (l cs : List UInt8) : l.drop (findB l cs) = (cutA l cs).2 := by
  have h := cutA_app l cs
  unfold findB
  generalize cutA l cs = x at h ⊢
  rw [← h, List.drop_left]
/-- What begins the rest is one of those bytes. -/
theorem cutA_head {l cs : List UInt8} {c : UInt8} {t : List UInt8} (h : (cutA l cs).2 = c :: t) : cs.contains c = true := by
  unfold cutA at h
  simp only at h
  induction l with
  | nil => cases h
  | cons b l ih =>
    rw [List.dropWhile_cons] at h
    split at h
    · exact ih h
    · rename_i hb
      injection h with h1 h2
      subst h1
      simpa using hb
theorem cutB_cutA (l : List UInt8) (c : UInt8) : (cutB l c).1 = (cutA l [c]).1 ∧ (cutB l c).2.1 = (cutA l [c]).2.tail ∧ (cutB l c).2.2 = !(cutA l [c]).2.isEmpty := by
  have e : (fun b : UInt8 => !([c] : List UInt8).contains b) = (fun b => b != c) := by
    funext b
    by_cases h : b = c
    · subst h; simp
    · simp [h]
  unfold cutB cutA
  rw [e]
  refine ⟨rfl, rfl, ?_⟩
  simp only
  induction l with
  | nil => rfl
  | cons b l ih =>
    rw [List.dropWhile_cons]
    by_cases h : b = c
    · subst h; simp
    · have h2 : ¬ c = b := fun e => h e.symm
      have h3 : (b != c) = true := by simp [h]
      have h4 : (c == b) = false := by simp [h2]
      rw [if_pos h3, List.contains_cons, h4, Bool.false_or, ih]
end Go.Proofs.YtjmjmnagnbgmfaaGreatDoor

/-! The reference's Right, Trim, Find, Quoted. -/
namespace Go.Proofs.YtjmjmnagnbgmfaaGreatDoor
open Go.RowKit Go.Shelf Go.Lib

theorem sOf_ext (l : List UInt8) (i j : Nat) : (sOf l).extract i j = sOf ((l.drop i).take (j - i)) := by
  apply ByteArray.ext
  apply Array.ext'
  rw [data_sOf, ByteArray.data_extract, Array.toList_extract]
  show List.extract (sOf l).data.toList i j = _
  rw [data_sOf]
theorem snoc_cases (l : List UInt8) : l = [] ∨ ∃ q b, l = q ++ [b] := by
  rcases List.eq_nil_or_concat l with h | ⟨q, b, h⟩
  · exact .inl h
  · exact .inr ⟨q, b, by rw [h, List.concat_eq_append]⟩
theorem trimRight_cons (c : UInt8) (t cs : List UInt8) : Lib.trimRightS (c :: t) cs = if (Lib.trimRightS t cs).isEmpty && cs.contains c then [] else c :: Lib.trimRightS t cs := by
  unfold Lib.trimRightS
  rw [List.reverse_cons, List.dropWhile_append]
  generalize List.dropWhile (fun x => cs.contains x) t.reverse = d
  cases d with
  | nil =>
    by_cases h : cs.contains c = true
    · have h' : c ∈ cs := by simpa using h
      simp [h']
    · have h' : ¬ c ∈ cs := by simpa using h
      simp [h']
  | cons x d => simp
theorem trim_comm (l cs : List UInt8) : Lib.trimRightS (Lib.trimLeftS l cs) cs = Lib.trimS l cs := by
  unfold Lib.trimS
  induction l with
  | nil => rfl
  | cons c t ih =>
    by_cases h : cs.contains c = true
    · have e : Lib.trimLeftS (c :: t) cs = Lib.trimLeftS t cs := by simp only [Lib.trimLeftS, List.dropWhile_cons, h, if_true]
      rw [e, ih, trimRight_cons]
      generalize Lib.trimRightS t cs = d
      cases d with
      | nil =>
        have h' : c ∈ cs := by simpa using h
        simp [h']
      | cons x d => simp only [List.isEmpty_cons, Bool.false_and, Bool.false_eq_true, if_false, Lib.trimLeftS, List.dropWhile_cons (x := c), h, if_true]
    · have hb : cs.contains c = false := by simpa using h
      have e : Lib.trimLeftS (c :: t) cs = c :: t := by simp only [Lib.trimLeftS, List.dropWhile_cons, hb, Bool.false_eq_true, if_false]
      rw [e, trimRight_cons, hb]
      simp only [Bool.and_false, Bool.false_eq_true, if_false, Lib.trimLeftS, List.dropWhile_cons, hb]
theorem trimRight_snoc (q cs : List UInt8) (b : UInt8) : Lib.trimRightS (q ++ [b]) cs = if cs.contains b then Lib.trimRightS q cs else q ++ [b] := by
  unfold Lib.trimRightS
  rw [List.reverse_append]
  simp only [List.reverse_cons, List.reverse_nil, List.nil_append, List.cons_append, List.dropWhile_cons]
  split
  · rfl
  · simp

set_option maxHeartbeats 2000000 in
theorem rend_calls (l cs : List UInt8) (w : World) (hl : l.length ≤ 1000000) (hcs : cs.length ≤ 1000000) :
    Calls Tryz.prog 33 #[.string (sOf l), .string (sOf cs)] w fun e w' => e = .returned (.string (sOf (Lib.trimRightS l cs))) ∧ w = w' := by
  obtain ⟨R, hR⟩ : ∃ R, R = Lib.trimRightS l cs := ⟨_, rfl⟩
  rw [← hR]
  have HR := Lib.hid hR
  clear hR
  go_enter Tryz.func33, Tryz.ntmps33
  go_wp2
  go_loopg [0] l.length (fun g v wr => ∃ l' : List UInt8, l'.length = g ∧ v = .string (sOf l') ∧ Hid (Lib.trimRightS l' cs = R) ∧ l'.length ≤ l.length ∧ w = wr)
  case atStart => exact ⟨l, rfl, rfl, HR.out.symm, Nat.le_refl _, rfl⟩
  case round =>
    obtain ⟨l', rfl, rfl, HQ, hle, rfl⟩ := hrel
    rcases snoc_cases l' with rfl | ⟨q, b, rfl⟩
    · have hts : (sOf []).toList = [] := toList_sOf []
      have HF : Hid (R = []) := HQ.out.symm
      go_wp2
      go_ret
      exact ⟨by rw [HF.out]; rfl, rfl⟩
    · have hl1 : q.length + 1 ≤ 1000000 := by simp at hle; omega
      have hsz : (sOf (q ++ [b])).size = q.length + 1 := by rw [size_sOf]; simp
      have hix : ∀ h, (sOf (q ++ [b]))[q.length]'h = b := fun h => by
        have e : (sOf (q ++ [b]))[q.length]'h = (q ++ [b])[q.length]'(by simp) := rfl
        rw [e]; simp
      have hex : (sOf (q ++ [b])).extract 0 q.length = sOf q := by
        rw [sOf_ext]; simp
      have hS3 : (sOf (q ++ [b])).toList.isEmpty = false := by rw [toList_sOf]; simp
      have hS4 : ¬ (sOf (q ++ [b])).toList = [] := by rw [toList_sOf]; simp
      have HQ2 : Hid ((if cs.contains b then Lib.trimRightS q cs else q ++ [b]) = R) := by
        show _ = _
        rw [← trimRight_snoc]
        exact HQ.out
      have CH := Lib.hid (fun w => has_calls cs b w hcs)
      clear HQ
      generalize hgs : sOf (q ++ [b]) = S0 at *
      cases hb : cs.contains b with
      | true =>
        rw [hb] at CH HQ2
        go_wp2_with (go_at_call 34; refine (CH.out _).mono ?_; rintro e w' ⟨rfl, rfl⟩)
        go_roundg q.length
        case measure => simp
        case rel => exact ⟨q, rfl, rfl, HQ2.out, by simp at hle; omega, rfl⟩
      | false =>
        rw [hb] at CH HQ2
        go_wp2_with (go_at_call 34; refine (CH.out _).mono ?_; rintro e w' ⟨rfl, rfl⟩)
        go_ret
        exact ⟨by rw [← HQ2.out]; subst hgs; rfl, rfl⟩

set_option maxHeartbeats 2000000 in
theorem rtrim_calls (l cs : List UInt8) (w : World) (hl : l.length ≤ 1000000) (hcs : cs.length ≤ 1000000) :
    Calls Tryz.prog 29 #[.string (sOf l), .string (sOf cs)] w fun e w' => e = .returned (.string (sOf (Lib.trimS l cs))) ∧ w = w' := by
  obtain ⟨R, hR⟩ : ∃ R, R = Lib.trimS l cs := ⟨_, rfl⟩
  rw [← hR]
  have HR : Hid (Lib.trimRightS (Lib.trimLeftS l cs) cs = R) := by
    show _ = _
    rw [trim_comm, hR]
  clear hR
  go_enter Tryz.func29, Tryz.ntmps29
  go_wp2
  go_loopg [0] l.length (fun g v wr => ∃ l' : List UInt8, l'.length = g ∧ v = .string (sOf l') ∧ Hid (Lib.trimRightS (Lib.trimLeftS l' cs) cs = R) ∧ l'.length ≤ l.length ∧ w = wr)
  case atStart => exact ⟨l, rfl, rfl, HR.out, Nat.le_refl _, rfl⟩
  case round =>
    obtain ⟨l', rfl, rfl, HQ, hle, rfl⟩ := hrel
    cases l' with
    | nil =>
      have hts : (sOf []).toList = [] := toList_sOf []
      have HC := Lib.hid (fun w => rend_calls [] cs w (Nat.zero_le _) hcs)
      have HF : Hid (R = []) := HQ.out.symm
      go_wp2_with (go_at_call 33; refine (HC.out _).mono ?_; rintro e w' ⟨rfl, rfl⟩)
      go_ret
      exact ⟨by rw [HF.out]; rfl, rfl⟩
    | cons b t =>
      have hl1 : t.length + 1 ≤ 1000000 := by simp at hle; omega
      have hsz : (sOf (b :: t)).size = t.length + 1 := by rw [size_sOf]; simp
      have hix : ∀ h, (sOf (b :: t))[0]'h = b := fun h => rfl
      have hex : (sOf (b :: t)).extract 1 (t.length + 1) = sOf t := by
        rw [sOf_ext]; simp
      have hS3 : (sOf (b :: t)).toList.isEmpty = false := by rw [toList_sOf]; rfl
      have hS4 : ¬ (sOf (b :: t)).toList = [] := by rw [toList_sOf]; simp
      have CH := Lib.hid (fun w => has_calls cs b w hcs)
      have CR := Lib.hid (fun w => rend_calls (b :: t) cs w (by simp; omega) hcs)
      cases hb : cs.contains b with
      | true =>
        have HQ2 : Hid (Lib.trimRightS (Lib.trimLeftS t cs) cs = R) := by
          have e : Lib.trimLeftS (b :: t) cs = Lib.trimLeftS t cs := by simp only [Lib.trimLeftS, List.dropWhile_cons, hb, if_true]
          rw [← HQ.out, e]
          exact rfl
        rw [hb] at CH
        clear HQ CR
        generalize sOf (b :: t) = S0 at *
        go_wp2_with (go_at_call 34; refine (CH.out _).mono ?_; rintro e w' ⟨rfl, rfl⟩)
        go_roundg t.length
        case measure => simp
        case rel => exact ⟨t, rfl, rfl, HQ2.out, by simp at hle; omega, rfl⟩
      | false =>
        have HQ2 : Hid (Lib.trimRightS (b :: t) cs = R) := by
          have e : Lib.trimLeftS (b :: t) cs = b :: t := by simp only [Lib.trimLeftS, List.dropWhile_cons, hb, Bool.false_eq_true, if_false]
          rw [← HQ.out, e]
          exact rfl
        rw [hb] at CH
        rw [HQ2.out] at CR
        clear HQ
        generalize sOf (b :: t) = S0 at *
        go_wp2_with (first | (go_at_call 34; refine (CH.out _).mono ?_; rintro e w' ⟨rfl, rfl⟩) | (go_at_call 33; refine (CR.out _).mono ?_; rintro e w' ⟨rfl, rfl⟩))
        go_ret
        exact ⟨rfl, rfl⟩

set_option maxHeartbeats 2000000 in
theorem rfind_calls (l cs : List UInt8) (w : World) (hl : l.length ≤ 1000000) (hcs : cs.length ≤ 1000000) :
    Calls Tryz.prog 30 #[.string (sOf l), .string (sOf cs)] w fun e w' => e = .returned (.int .i64 ((findB l cs : Nat) : Int)) ∧ w = w' := by
  have hsz : (sOf l).size = l.length := size_sOf l
  obtain ⟨R, hR⟩ : ∃ R, R = findB l cs := ⟨_, rfl⟩
  rw [← hR]
  have HR := Lib.hid hR
  clear hR
  go_enter Tryz.func30, Tryz.ntmps30
  go_wp2
  go_loopg [8] l.length (fun g i wr => ∃ k : Nat, l.length - k = g ∧ k ≤ l.length ∧ i = .int .i64 k ∧ Hid (k + findB (l.drop k) cs = R) ∧ w = wr)
  case atStart => exact ⟨0, by omega, by omega, rfl, (by show _ = _; rw [HR.out, Nat.zero_add]; rfl), rfl⟩
  case round =>
    obtain ⟨k, rfl, hk, rfl, HK, rfl⟩ := hrel
    by_cases hlt : k < l.length
    · have hki : (k : Int) < (l.length : Int) := by omega
      obtain ⟨b, hb⟩ : ∃ b, l[k]'hlt = b := ⟨_, rfl⟩
      have hbk : ∀ h, (sOf l)[k]'h = b := fun h => by rw [← hb]; rfl
      have hkb : (k : Int) + 1 ≤ 9223372036854775807 := by omega
      have HD : Hid (k + findB (b :: l.drop (k + 1)) cs = R) := by
        have h := HK.out
        rw [List.drop_eq_getElem_cons hlt, hb] at h
        exact h
      have CH := Lib.hid (fun w => has_calls cs b w hcs)
      clear hb HK
      cases hc : cs.contains b with
      | true =>
        have HF : Hid (R = k) := by
          have h := HD.out
          simp only [findB, cutA, List.takeWhile_cons, hc, Bool.not_true, Bool.false_eq_true, if_false, List.length_nil, Nat.add_zero] at h
          exact h.symm
        rw [hc] at CH
        go_wp2_with (go_at_call 34; refine (CH.out _).mono ?_; rintro e w' ⟨rfl, rfl⟩)
        go_ret
        exact ⟨by rw [HF.out]; rfl, rfl⟩
      | false =>
        have HF : Hid (k + 1 + findB (l.drop (k + 1)) cs = R) := by
          have h := HD.out
          simp only [findB, cutA, List.takeWhile_cons, hc, Bool.not_false, if_true, List.length_cons] at h ⊢
          show _ = _
          omega
        rw [hc] at CH
        go_wp2_with (go_at_call 34; refine (CH.out _).mono ?_; rintro e w' ⟨rfl, rfl⟩)
        go_roundg (l.length - (k + 1))
        case measure => omega
        case rel => exact ⟨k + 1, rfl, by omega, by go_num, HF, rfl⟩
    · obtain rfl : k = l.length := by omega
      have hki : ¬ ((l.length : Int) < (l.length : Int)) := by omega
      have HF : Hid (R = l.length) := by
        have h := HK.out
        rw [List.drop_eq_nil_of_le (Nat.le_refl _)] at h
        exact h.symm
      go_wp2
      go_ret
      exact ⟨by rw [HF.out]; rfl, rfl⟩
end Go.Proofs.YtjmjmnagnbgmfaaGreatDoor

/-! The reference's Quoted. -/
namespace Go.Proofs.YtjmjmnagnbgmfaaGreatDoor
open Go.RowKit Go.Shelf Go.Lib

theorem scanQ_quote (t : List UInt8) (c : UInt8) (h : c.toNat = 34) : scanQ (c :: t) = ([], 1) := by
  cases t <;> simp [scanQ, h]
theorem scanQ_esc2 (t : List UInt8) (c d : UInt8) (h : c.toNat = 92) : scanQ (c :: d :: t) = (d :: (scanQ t).1, (scanQ t).2 + 2) := by
  simp [scanQ, h]
theorem scanQ_plain (t : List UInt8) (c : UInt8) (h : ¬ c.toNat = 34) (h2 : ¬ (c.toNat = 92 ∧ t ≠ [])) : scanQ (c :: t) = (c :: (scanQ t).1, (scanQ t).2 + 1) := by
  cases t with
  | nil => simp [scanQ, h]
  | cons d t =>
    have : ¬ c.toNat = 92 := fun e => h2 ⟨e, by simp⟩
    simp [scanQ, h, this]

set_option maxHeartbeats 4000000 in
set_option maxRecDepth 1000000 in
theorem rquoted_calls (l : List UInt8) (w : World) (hl : l.length ≤ 1000000) :
    Calls Tryz.prog 35 #[.string (sOf l)] w fun e w' => e = .returned (.tuple #[.string (sOf (quotedB l).1), .int .i64 (((quotedB l).2 : Nat) : Int)]) ∧ Below w.heap.size w w' := by
  cases l with
  | nil =>
    have hts : (sOf []).toList = [] := toList_sOf []
    go_enter Tryz.func35, Tryz.ntmps35
    go_wp2
    go_ret2
    exact ⟨rfl, Below.refl _ _⟩
  | cons c t =>
    have hsz : (sOf (c :: t)).size = t.length + 1 := by rw [size_sOf]; simp
    have hix : ∀ h, (sOf (c :: t))[0]'h = c := fun h => rfl
    have hS3 : (sOf (c :: t)).toList.isEmpty = false := by rw [toList_sOf]; rfl
    have hS4 : ¬ (sOf (c :: t)).toList = [] := by rw [toList_sOf]; simp
    have hc256 := c.toNat_lt
    by_cases h34 : c.toNat = 34
    · have hi34 : (c.toNat : Int) = 34 := by omega
      obtain ⟨A, M, hAM⟩ : ∃ A M, quotedB (c :: t) = (A, M) := ⟨_, _, rfl⟩
      have HAM : Hid ([] ++ (scanQ ((c :: t).drop 1)).1 = A ∧ 1 + (scanQ ((c :: t).drop 1)).2 = M) := by
        rw [quotedB, if_pos h34] at hAM
        injection hAM with e1 e2
        exact ⟨by simpa using e1, by rw [← e2]; simp; omega⟩
      rw [hAM]
      clear hAM
      obtain ⟨l, hl0⟩ : ∃ l, l = c :: t := ⟨_, rfl⟩
      have hll : l.length = t.length + 1 := by rw [hl0]; simp
      rw [← hl0] at HAM hl hsz hix hS3 hS4 ⊢
      rw [← hll] at hsz
      clear hl0 h34
      go_enter Tryz.func35, Tryz.ntmps35
      go_wp2
      go_loopg [4, 5] l.length (fun g v i wr => ∃ (k : Nat) (acc : List UInt8), l.length + 1 - k = g ∧ k ≤ l.length ∧ i = .int .i64 k ∧ acc.length ≤ k ∧ Hid (acc ++ (scanQ (l.drop k)).1 = A ∧ k + (scanQ (l.drop k)).2 = M) ∧ Hid (wr.ownsRow w.heap.size 5 1 v acc.length (Lib.byteCells acc)) ∧ Hid (Below w.heap.size w wr))
      case atStart => exact ⟨1, [], by omega, by omega, rfl, Nat.zero_le _, HAM.out, (show _ from ⟨rfl, .inl ⟨rfl, rfl⟩⟩), Below.refl _ w⟩
      case round =>
        obtain ⟨k, acc, rfl, hk, rfl, hak, HK, HO, HB⟩ := hrel
        clear HAM hix hS3 hS4 hll hc256 hi34
        by_cases hlt : k < l.length
        · have hki : (k : Int) < (l.length : Int) := by omega
          obtain ⟨b, hb⟩ : ∃ b, l[k]'hlt = b := ⟨_, rfl⟩
          have hbk : ∀ h, (sOf l)[k]'h = b := fun h => by rw [← hb]; rfl
          have hb256 := b.toNat_lt
          obtain ⟨n, hn⟩ : ∃ n : Int, (b.toNat : Int) = n := ⟨_, rfl⟩
          have hn256 : 0 ≤ n ∧ n < 256 := by omega
          have HD : Hid (acc ++ (scanQ (b :: l.drop (k + 1))).1 = A ∧ k + (scanQ (b :: l.drop (k + 1))).2 = M) := by
            have h := HK.out
            rw [List.drop_eq_getElem_cons hlt, hb] at h
            exact h
          clear hb HK
          by_cases hb34 : b.toNat = 34
          · have HF : Hid (A = acc ∧ M = k + 1) := by
              have h := HD.out
              rw [scanQ_quote _ _ hb34] at h
              exact ⟨by rw [← h.1]; simp, h.2.symm⟩
            have hi34 : n = 34 := by omega
            have hcv := own_string HO.out
            have hmn : min ((k : Int) + 1) (l.length : Int) = (k : Int) + 1 := by omega
            clear hb34
            go_wp2
            go_ret2
            exact ⟨by rw [HF.out.1, HF.out.2]; rfl, HB.out⟩
          · have hi34 : ¬ n = 34 := by omega
            by_cases h92 : b.toNat = 92
            · have hi92 : n = 92 := by omega
              by_cases hk1 : k + 1 < l.length
              · have hki1 : (k : Int) + 1 < (l.length : Int) := by omega
                obtain ⟨d, hd⟩ : ∃ d, l[k + 1]'hk1 = d := ⟨_, rfl⟩
                have hdk : ∀ h, (sOf l)[k + 1]'h = d := fun h => by rw [← hd]; rfl
                have HF : Hid ((acc ++ [d]) ++ (scanQ (l.drop (k + 2))).1 = A ∧ k + 2 + (scanQ (l.drop (k + 2))).2 = M) := by
                  have h := HD.out
                  rw [List.drop_eq_getElem_cons hk1, hd, scanQ_esc2 _ _ _ h92, show k + 1 + 1 = k + 2 from rfl] at h
                  refine ⟨by rw [← h.1]; simp, ?_⟩
                  have h2 := h.2
                  simp only at h2
                  omega
                clear hd h92 hb34 HD
                have HLEN : acc.length ≤ 1000000 := by omega
                obtain ⟨i0, hi, hz0, hz1, hz2⟩ := info_parts info5b
                have HX : Hid ((wr.alloc (.cells #[.int .u8 (d.toNat : Int)] 5)).ownsRow w.heap.size 5 1 u4 acc.length (Lib.byteCells acc)) := HO.out.alloc _
                go_wp2_with (at_builtin; refine wpList_append_own _ rfl (.tmp 36) (.tmp 40) 34 rfl w.heap.size 5 i0 _ 1 1 Tryz.underlying34 hi hz0 hz1 hz2 rfl (by omega) u4 acc.length (Lib.byteCells acc) rfl HX.out ⟨wr.heap.size, 0, none⟩ 1 1 [.int .u8 (d.toNat : Int)] rfl rfl (one_cell wr 5 _) (one_oc _ _) (by unfold maxLen; omega) (by omega) (by have := HB.out.size; simp; omega) ?_)
                intro v' w3 hown hg _
                have HO3 : Hid (w3.ownsRow w.heap.size 5 1 v' (acc ++ [d]).length (Lib.byteCells (acc ++ [d]))) := by
                  show World.ownsRow _ _ _ _ _ _ _
                  rw [List.length_append, byteCells_snoc]
                  exact hown
                have HB3 : Hid (Below w.heap.size w w3) := (HB.out.alloc HB.out.size _).grown hg (by have := HB.out.size; simp; omega) (own_low HX.out)
                clear hown hg hz0 hz1 hz2 hi HX
                go_wp2
                go_roundg (l.length + 1 - (k + 2))
                case measure => omega
                case rel => exact ⟨k + 2, acc ++ [d], rfl, by omega, by go_num, by simp; omega, HF.out, HO3, HB3⟩
              · have hki1 : ¬ (k : Int) + 1 < (l.length : Int) := by omega
                have HF : Hid ((acc ++ [b]) ++ (scanQ (l.drop (k + 1))).1 = A ∧ k + 1 + (scanQ (l.drop (k + 1))).2 = M) := by
                  have h := HD.out
                  rw [scanQ_plain _ _ hb34 (by rintro ⟨_, h2⟩; exact h2 (List.drop_eq_nil_of_le (by omega)))] at h
                  refine ⟨by rw [← h.1]; simp, ?_⟩
                  have h2 := h.2
                  simp only at h2
                  omega
                clear h92 hb34 HD
                have HLEN : acc.length ≤ 1000000 := by omega
                obtain ⟨i0, hi, hz0, hz1, hz2⟩ := info_parts info5b
                have HX : Hid ((wr.alloc (.cells #[.int .u8 92] 5)).ownsRow w.heap.size 5 1 u4 acc.length (Lib.byteCells acc)) := HO.out.alloc _
                go_wp2_with (at_builtin; refine wpList_append_own _ rfl (.tmp 36) (.tmp 40) 34 rfl w.heap.size 5 i0 _ 1 1 Tryz.underlying34 hi hz0 hz1 hz2 rfl (by omega) u4 acc.length (Lib.byteCells acc) rfl HX.out ⟨wr.heap.size, 0, none⟩ 1 1 [.int .u8 92] rfl rfl (one_cell wr 5 _) (one_oc _ _) (by unfold maxLen; omega) (by omega) (by have := HB.out.size; simp; omega) ?_)
                intro v' w3 hown hg _
                have HO3 : Hid (w3.ownsRow w.heap.size 5 1 v' (acc ++ [b]).length (Lib.byteCells (acc ++ [b]))) := by
                  show World.ownsRow _ _ _ _ _ _ _
                  rw [List.length_append, byteCells_snoc, hn, hi92]
                  exact hown
                have HB3 : Hid (Below w.heap.size w w3) := (HB.out.alloc HB.out.size _).grown hg (by have := HB.out.size; simp; omega) (own_low HX.out)
                clear hown hg hz0 hz1 hz2 hi HX
                go_wp2
                go_roundg (l.length + 1 - (k + 1))
                case measure => omega
                case rel => exact ⟨k + 1, acc ++ [b], rfl, by omega, by go_num, by simp; omega, HF.out, HO3, HB3⟩
            · have hi92 : ¬ n = 92 := by omega
              have HF : Hid ((acc ++ [b]) ++ (scanQ (l.drop (k + 1))).1 = A ∧ k + 1 + (scanQ (l.drop (k + 1))).2 = M) := by
                have h := HD.out
                rw [scanQ_plain _ _ hb34 (by rintro ⟨h2, _⟩; exact h92 h2)] at h
                refine ⟨by rw [← h.1]; simp, ?_⟩
                have h2 := h.2
                simp only at h2
                omega
              clear h92 hb34 HD
              have HLEN : acc.length ≤ 1000000 := by omega
              obtain ⟨i0, hi, hz0, hz1, hz2⟩ := info_parts info5b
              have HX : Hid ((wr.alloc (.cells #[.int .u8 n] 5)).ownsRow w.heap.size 5 1 u4 acc.length (Lib.byteCells acc)) := HO.out.alloc _
              go_wp2_with (at_builtin; refine wpList_append_own _ rfl (.tmp 36) (.tmp 40) 34 rfl w.heap.size 5 i0 _ 1 1 Tryz.underlying34 hi hz0 hz1 hz2 rfl (by omega) u4 acc.length (Lib.byteCells acc) rfl HX.out ⟨wr.heap.size, 0, none⟩ 1 1 [.int .u8 n] rfl rfl (one_cell wr 5 _) (one_oc _ _) (by unfold maxLen; omega) (by omega) (by have := HB.out.size; simp; omega) ?_)
              intro v' w3 hown hg _
              have HO3 : Hid (w3.ownsRow w.heap.size 5 1 v' (acc ++ [b]).length (Lib.byteCells (acc ++ [b]))) := by
                show World.ownsRow _ _ _ _ _ _ _
                rw [List.length_append, byteCells_snoc, hn]
                exact hown
              have HB3 : Hid (Below w.heap.size w w3) := (HB.out.alloc HB.out.size _).grown hg (by have := HB.out.size; simp; omega) (own_low HX.out)
              clear hown hg hz0 hz1 hz2 hi HX
              go_wp2
              go_roundg (l.length + 1 - (k + 1))
              case measure => omega
              case rel => exact ⟨k + 1, acc ++ [b], rfl, by omega, by go_num, by simp; omega, HF.out, HO3, HB3⟩
        · obtain rfl : k = l.length := by omega
          have hki : ¬ ((l.length : Int) < (l.length : Int)) := by omega
          have HF : Hid (A = acc ∧ M = l.length) := by
            have h := HK.out
            rw [List.drop_eq_nil_of_le (Nat.le_refl _)] at h
            exact ⟨by rw [← h.1]; simp [scanQ], h.2.symm⟩
          have hcv := own_string HO.out
          have hmn : min ((l.length : Int) + 1) (l.length : Int) = (l.length : Int) := by omega
          go_wp2
          go_ret2
          exact ⟨by rw [HF.out.1, HF.out.2]; rfl, HB.out⟩
    · have hi34 : ¬ (c.toNat : Int) = 34 := by omega
      go_enter Tryz.func35, Tryz.ntmps35
      go_wp2
      go_ret2
      exact ⟨by rw [quotedB, if_neg h34]; rfl, Below.refl _ _⟩
end Go.Proofs.YtjmjmnagnbgmfaaGreatDoor

/-! The reference's Parse. -/
namespace Go.Proofs.YtjmjmnagnbgmfaaGreatDoor
open Go.RowKit Go.Shelf Go.Lib Go.Proofs.YtjmjmnagnbgmfaaGreatDoorW.PrintWords PMimeReads

/-- The result's variable, the type's variable, the parameters' row. -/
structure RS (w wr : World) (K : Nat) (a b v : Value) (ps : List Pm) : Prop where
  below : Below w.heap.size w wr
  res : wr.heap[w.heap.size]? = some (.cells #[.string ⟨#[]⟩, .string ⟨#[]⟩, .slice none 0 0] 25 (0, 0))
  ge : w.heap.size < K
  blk : wr.heap[K]? = some (.cells #[a, b, v] 25 (0, 0))
  own : wr.ownsRow w.heap.size 36 2 v ps.length (cellsP ps)
namespace RS
variable {w wr w1 : World} {K : Nat} {a b v : Value} {ps : List Pm}
theorem lt (h : RS w wr K a b v ps) : K < wr.heap.size := (Array.getElem?_eq_some_iff.1 h.blk).1
theorem c0 (h : RS w wr K a b v ps) : wr.cell? ⟨K, 0, none⟩ = some a := by simp [World.cell?, h.blk]
theorem c1 (h : RS w wr K a b v ps) : wr.cell? ⟨K, 1, none⟩ = some b := by simp [World.cell?, h.blk]
theorem c2 (h : RS w wr K a b v ps) : wr.cell? ⟨K, 2, none⟩ = some v := by simp [World.cell?, h.blk]
theorem frozen (h : RS w wr K a b v ps) (j : Nat) : wr.frozen? ⟨K, j, none⟩ = false := by simp [World.frozen?, h.blk]
theorem ms (h : RS w wr K a b v ps) : MS w wr w.heap.size (.string ⟨#[]⟩) (.string ⟨#[]⟩) (.slice none 0 0) := ⟨h.below, Nat.le_refl _, h.res⟩
theorem step (h : RS w wr K a b v ps) (hb : Below wr.heap.size wr w1) : RS w w1 K a b v ps :=
  ⟨h.below.trans (hb.mono h.below.size), (hb.block _ (Nat.lt_trans h.ge h.lt)).trans h.res, h.ge, (hb.block K h.lt).trans h.blk, pw_own_below h.own hb⟩
theorem ne (h : RS w wr K a b v ps) {k : Nat} (hk : v.ownBlock = some k) : k ≠ K ∧ k ≠ w.heap.size := by
  obtain ⟨c, hc⟩ := own_typed h.own k hk
  refine ⟨fun e => ?_, fun e => ?_⟩
  · rw [e, h.blk] at hc
    injection hc with hc
    injection hc with _ ht
    exact absurd ht (by decide)
  · rw [e, h.res] at hc
    injection hc with hc
    injection hc with _ ht
    exact absurd ht (by decide)
theorem sub (h : RS w wr K a b v ps) (b' : Value) : RS w (wr.setCell ⟨K, 1, none⟩ b') K a b' v ps := by
  refine ⟨h.below.setCell (Nat.le_of_lt h.ge) _, ?_, h.ge, ?_, ?_⟩
  · rw [Below.heap_setCell _ _ _ _ (Nat.ne_of_lt h.ge)]; exact h.res
  · simp [World.setCell, Array.getElem?_modify, h.blk]
  · exact own_move h.own (fun k hk => Below.heap_setCell wr _ _ k (h.ne hk).1)
theorem push (h : RS w wr K a b v ps) {p : Pm} {v' : Value} (hown : w1.ownsRow w.heap.size 36 2 v' (ps.length + 1) (cellsP ps ++ encP p)) (hg : wr.grownBy w1 v.ownBlock) : RS w (w1.setCell ⟨K, 2, none⟩ v') K a b v' (ps ++ [p]) := by
  have hK : w1.heap[K]? = some (.cells #[a, b, v] 25 (0, 0)) := (hg.block K h.lt (fun e => (h.ne e.symm).1 rfl)).trans h.blk
  have hR : w1.heap[w.heap.size]? = some (.cells #[.string ⟨#[]⟩, .string ⟨#[]⟩, .slice none 0 0] 25 (0, 0)) := (hg.block _ (Nat.lt_trans h.ge h.lt) (fun e => (h.ne e.symm).2 rfl)).trans h.res
  have hB : Below w.heap.size w w1 := h.below.grown hg h.below.size (own_base h.own)
  refine ⟨hB.setCell (Nat.le_of_lt h.ge) _, ?_, h.ge, ?_, ?_⟩
  · rw [Below.heap_setCell _ _ _ _ (Nat.ne_of_lt h.ge)]; exact hR
  · simp [World.setCell, Array.getElem?_modify, hK]
  · rw [cellsP_snoc, List.length_append]
    refine own_move hown (fun k hk => Below.heap_setCell w1 _ _ k (fun e => ?_))
    obtain ⟨c, hc⟩ := own_typed hown k hk
    have e' : k = K := e
    rw [e', hK] at hc
    injection hc with hc
    injection hc with _ ht
    exact absurd ht (by decide)
/-- Behind the stores of the result. -/
theorem fin (h : RS w wr K a b v ps) : (((wr.setCell ⟨w.heap.size, 0, none⟩ a).setCell ⟨w.heap.size, 1, none⟩ b).setCell ⟨w.heap.size, 2, none⟩ v).ownsRow w.heap.size 36 2 v ps.length (cellsP ps) :=
  own_move h.own (fun k hk => by
    have hkk := (h.ne hk).2
    rw [Below.heap_setCell _ _ _ k hkk, Below.heap_setCell _ _ _ k hkk, Below.heap_setCell _ _ _ k hkk])
end RS
end Go.Proofs.YtjmjmnagnbgmfaaGreatDoor

/-! The reference's Parse. -/
namespace Go.Proofs.YtjmjmnagnbgmfaaGreatDoor
open Go.RowKit Go.Shelf Go.Lib Go.Proofs.YtjmjmnagnbgmfaaGreatDoorW.PrintWords PMimeReads

theorem RS.grownK {w wr w1 : World} {K : Nat} {a b v : Value} {ps : List Pm} (h : RS w wr K a b v ps) (hg : wr.grownBy w1 v.ownBlock) : w1.heap[K]? = some (.cells #[a, b, v] 25 (0, 0)) :=
  (hg.block K h.lt (fun e => (h.ne e.symm).1 rfl)).trans h.blk
theorem cut_facts {l cs n r : List UInt8} (h : cutA l cs = (n, r)) : findB l cs = n.length ∧ l = n ++ r ∧ n.length + r.length = l.length := by
  have h1 := cutA_app l cs
  rw [h] at h1
  refine ⟨by rw [findB, h], h1.symm, by rw [← h1]; simp⟩
theorem ext_to (n r : List UInt8) : (sOf (n ++ r)).extract 0 n.length = sOf n := by rw [sOf_ext]; simp
theorem ext_from (n r : List UInt8) : (sOf (n ++ r)).extract n.length (n ++ r).length = sOf r := by rw [sOf_ext]; simp

set_option maxHeartbeats 16000000 in
set_option maxRecDepth 1000000 in
theorem rparse_calls (l : List UInt8) (w : World) (hs : l.length ≤ 1000000) :
    Calls Tryz.prog 11 #[.string (sOf l)] w fun e w' => ∃ v, e = .returned (.tuple #[.agg #[.string (sOf (parseB l).1.1), .string (sOf (parseB l).1.2.1), v], .bool (parseB l).2]) ∧ w'.ownsRow w.heap.size 36 2 v (parseB l).1.2.2.length (cellsP (parseB l).1.2.2) ∧ Below w.heap.size w w' := by
  obtain ⟨R, hR⟩ : ∃ R, R = parseB l := ⟨_, rfl⟩
  rw [← hR]
  have HR := Lib.hid hR
  clear hR
  have hl1 := trimS_len l blanks
  have HS0 : Hid (MS w (w.alloc (.cells #[.string ⟨#[]⟩, .string ⟨#[]⟩, .slice none 0 0] 25)) w.heap.size (.string ⟨#[]⟩) (.string ⟨#[]⟩) (.slice none 0 0)) :=
    ⟨(Below.refl _ w).alloc (Nat.le_refl _) _, Nat.le_refl _, heap_alloc_new w _⟩
  have htrim : Hid (∀ w, Calls Tryz.prog 29 #[.string (sOf l), .string ⟨#[9, 10, 13, 32]⟩] w fun e w' => e = .returned (.string (sOf (Lib.trimS l blanks))) ∧ w = w') := fun w => rtrim_calls l blanks w hs (by decide)
  have HN : Hid (namesB l = (let c := cutB (Lib.trimS l blanks) 47; let d := cutA c.2.1 [59]; if c.2.2 && isTok c.1 && isTok (Lib.trimRightS d.1 blanks) then some (c.1, Lib.trimRightS d.1 blanks, d.2) else none)) := rfl
  generalize Lib.trimS l blanks = l1 at htrim HN hl1
  obtain ⟨k0, r0, hc⟩ : ∃ k0 r0, cutA l1 [47] = (k0, r0) := ⟨_, _, rfl⟩
  obtain ⟨hf, hl2, hlen⟩ := cut_facts hc
  have hfind : Hid (∀ w, Calls Tryz.prog 30 #[.string (sOf l1), .string ⟨#[47]⟩] w fun e w' => e = .returned (.int .i64 ((k0.length : Nat) : Int)) ∧ w = w') := fun w => by
    rw [← hf]
    exact rfind_calls l1 [47] w (by omega) (by decide)
  have HN2 : Hid (namesB l = (let d := cutA r0.tail [59]; if !r0.isEmpty && isTok k0 && isTok (Lib.trimRightS d.1 blanks) then some (k0, Lib.trimRightS d.1 blanks, d.2) else none)) := by
    have h := HN.out
    obtain ⟨e1, e2, e3⟩ := cutB_cutA l1 47
    rw [hc] at e1 e2 e3
    simp only at e1 e2 e3
    simp only [e1, e2, e3] at h
    exact h
  clear HN hf hc
  have hsz : (sOf l1).size = l1.length := size_sOf l1
  have hex0 : (sOf l1).extract 0 k0.length = sOf k0 := by rw [hl2]; exact ext_to _ _
  have hex1 : ∀ c t, r0 = c :: t → (sOf l1).extract (k0.length + 1) l1.length = sOf t := by
    intro c t h
    rw [hl2, h, sOf_ext]
    have e : (k0 ++ c :: t).length - (k0.length + 1) = t.length := by simp; omega
    rw [e]
    simp
  have HEX := Lib.hid hex1
  clear hl2 hex1
  go_enter Tryz.func11, Tryz.ntmps11
  go_wp2_with fail
  refine (htrim.out _).mono ?_
  rintro e w' ⟨rfl, rfl⟩
  clear htrim
  generalize w.alloc (.cells #[.string ⟨#[]⟩, .string ⟨#[]⟩, .slice none 0 0] 25) = w1 at HS0 ⊢
  go_wp2_with fail
  refine (hfind.out _).mono ?_
  rintro e w' ⟨rfl, rfl⟩
  clear hfind
  have z0 := HS0.out.c0
  have z1 := HS0.out.c1
  have z2 := HS0.out.c2
  have f0 := HS0.out.frozen 0
  have f1 := HS0.out.frozen 1
  have f2 := HS0.out.frozen 2
  obtain ⟨j, hj⟩ : ∃ j, k0.length = j := ⟨_, rfl⟩
  have CK := Lib.hid (fun w => ris_calls (sOf k0) w (by rw [size_sOf]; omega))
  rw [data_sOf] at CK
  rw [hj] at hlen hex0 HEX ⊢
  cases r0 with
  | nil =>
    have hjl : (j : Int) = (l1.length : Int) := by simp at hlen; omega
    have HF : Hid (R = (([], [], []), false)) := by
      rw [HR.out]
      unfold parseB
      rw [HN2.out]
      exact rfl
    clear CK HEX HN2 hex0
    go_wp2_with fail
    have S := HS0.out.set (.string ⟨#[]⟩) (.string ⟨#[]⟩) (.slice none 0 0)
    have y0 := S.c0
    have y1 := S.c1
    have y2 := S.c2
    refine bodyPost_ret (v := .tuple #[.agg #[.string ⟨#[]⟩, .string ⟨#[]⟩, .slice none 0 0], .bool false]) (by simp [results, Tryz.results11, go_sem, y0, y1, y2]) rfl ⟨.slice none 0 0, by rw [HF.out]; rfl, by rw [HF.out]; exact own_nil _ _ _ _, S.below⟩
  | cons c0 L =>
    have hjl : ¬ (j : Int) = (l1.length : Int) := by simp at hlen; omega
    cases hk : isTok k0 with
    | false =>
      have HF : Hid (R = (([], [], []), false)) := by
        rw [HR.out]
        unfold parseB
        rw [HN2.out, hk]
        exact rfl
      rw [hk] at CK
      clear hk HEX HN2
      go_wp2_with (go_at_call 31; refine (CK.out _).mono ?_; rintro e w' ⟨rfl, rfl⟩)
      have S := HS0.out.set (.string ⟨#[]⟩) (.string ⟨#[]⟩) (.slice none 0 0)
      have y0 := S.c0
      have y1 := S.c1
      have y2 := S.c2
      refine bodyPost_ret (v := .tuple #[.agg #[.string ⟨#[]⟩, .string ⟨#[]⟩, .slice none 0 0], .bool false]) (by simp [results, Tryz.results11, go_sem, y0, y1, y2]) rfl ⟨.slice none 0 0, by rw [HF.out]; rfl, by rw [HF.out]; exact own_nil _ _ _ _, S.below⟩
    | true =>
      rw [hk] at CK
      clear z0 z1 z2 f0 f1 f2
      have hex1 := HEX.out c0 L rfl
      obtain ⟨j1, hj1⟩ : ∃ j1, j + 1 = j1 := ⟨_, rfl⟩
      have hj1i : (j : Int) + 1 = (j1 : Int) := by omega
      rw [hj1] at hex1
      have LK := Lib.hid (fun w => rlower_calls (sOf k0) w (by rw [size_sOf]; omega))
      rw [data_sOf] at LK
      have hL : L.length ≤ 1000000 := by simp at hlen; omega
      obtain ⟨s0, r2, hc⟩ : ∃ s0 r2, cutA L [59] = (s0, r2) := ⟨_, _, rfl⟩
      obtain ⟨hf, hl2, hlen2⟩ := cut_facts hc
      have hfind : Hid (∀ w, Calls Tryz.prog 30 #[.string (sOf L), .string ⟨#[59]⟩] w fun e w' => e = .returned (.int .i64 ((s0.length : Nat) : Int)) ∧ w = w') := fun w => by
        rw [← hf]
        exact rfind_calls L [59] w hL (by decide)
      have hend : Hid (∀ w, Calls Tryz.prog 33 #[.string (sOf s0), .string ⟨#[9, 10, 13, 32]⟩] w fun e w' => e = .returned (.string (sOf (Lib.trimRightS s0 blanks))) ∧ w = w') := fun w => rend_calls s0 blanks w (by omega) (by decide)
      have HN3 : Hid (namesB l = if isTok (Lib.trimRightS s0 blanks) then some (k0, Lib.trimRightS s0 blanks, r2) else none) := by
        have h := HN2.out
        simp only [List.tail_cons, hc, hk, List.isEmpty_cons, Bool.not_false, Bool.true_and] at h
        exact h
      have hl4 := trimRight_len s0 blanks
      have hsz2 : (sOf L).size = L.length := size_sOf L
      have hex2 : (sOf L).extract 0 s0.length = sOf s0 := by rw [hl2]; exact ext_to _ _
      have HEX2 : Hid (L.drop s0.length = r2) := by rw [hl2, List.drop_left]; exact rfl
      generalize Lib.trimRightS s0 blanks = sub at hend HN3 hl4
      have CS := Lib.hid (fun w => ris_calls (sOf sub) w (by rw [size_sOf]; omega))
      have LS := Lib.hid (fun w => rlower_calls (sOf sub) w (by rw [size_sOf]; omega))
      rw [data_sOf] at CS LS
      clear hf hc HN2 HEX hl2 hk
      obtain ⟨k, hkk⟩ : ∃ k, s0.length = k := ⟨_, rfl⟩
      rw [hkk] at hlen2 hfind hex2 HEX2 hl4
      clear hkk
      go_wp2_with (go_at_call 31; refine (CK.out _).mono ?_; rintro e w' ⟨rfl, rfl⟩)
      refine (LK.out _).mono ?_
      rintro e w2 ⟨rfl, hb2⟩
      have HS2 := Lib.hid (HS0.out.step hb2)
      clear hb2 HS0 CK LK
      go_wp2_with fail
      have HK : Hid (RS w (w2.alloc (.cells #[.string (sOf (low k0)), .string ⟨#[]⟩, .slice none 0 0] 25)) w2.heap.size (.string (sOf (low k0))) (.string ⟨#[]⟩) (.slice none 0 0) []) :=
        have hA : Below w2.heap.size w2 (w2.alloc (.cells #[.string (sOf (low k0)), .string ⟨#[]⟩, .slice none 0 0] 25)) := (Below.refl _ w2).alloc (Nat.le_refl _) _
        { below := HS2.out.below.trans (hA.mono HS2.out.below.size), res := (HS2.out.step hA).blk, ge := HS2.out.lt, blk := heap_alloc_new w2 _, own := own_nil _ _ _ _ }
      generalize w2.alloc (.cells #[.string (sOf (low k0)), .string ⟨#[]⟩, .slice none 0 0] 25) = w3 at HK ⊢
      generalize w2.heap.size = K at HK ⊢
      clear HS2
      refine (hfind.out _).mono ?_
      rintro e w' ⟨rfl, rfl⟩
      go_wp2_with fail
      refine (hend.out _).mono ?_
      rintro e w' ⟨rfl, rfl⟩
      clear hfind hend
      cases hk : isTok sub with
      | false =>
        have HF : Hid (R = (([], [], []), false)) := by
          rw [HR.out]
          unfold parseB
          rw [HN3.out, hk]
          exact rfl
        rw [hk] at CS
        clear hk HN3 LS
        have z0 := HK.out.ms.c0
        have z1 := HK.out.ms.c1
        have z2 := HK.out.ms.c2
        have f0 := HK.out.ms.frozen 0
        have f1 := HK.out.ms.frozen 1
        have f2 := HK.out.ms.frozen 2
        go_wp2_with (go_at_call 31; refine (CS.out _).mono ?_; rintro e w' ⟨rfl, rfl⟩)
        have S := HK.out.ms.set (.string ⟨#[]⟩) (.string ⟨#[]⟩) (.slice none 0 0)
        have y0 := S.c0
        have y1 := S.c1
        have y2 := S.c2
        refine bodyPost_ret (v := .tuple #[.agg #[.string ⟨#[]⟩, .string ⟨#[]⟩, .slice none 0 0], .bool false]) (by simp [results, Tryz.results11, go_sem, y0, y1, y2]) rfl ⟨.slice none 0 0, by rw [HF.out]; rfl, by rw [HF.out]; exact own_nil _ _ _ _, S.below⟩
      | true =>
        have HF : Hid (R = ((low k0, low sub, paramsB r2.length [] r2), true)) := by
          rw [HR.out]
          unfold parseB
          rw [HN3.out, hk]
          exact rfl
        rw [hk] at CS
        clear hk HN3
        go_wp2_with (go_at_call 31; refine (CS.out _).mono ?_; rintro e w' ⟨rfl, rfl⟩)
        refine (LS.out _).mono ?_
        rintro e w4 ⟨rfl, hb4⟩
        have HK4 := Lib.hid (HK.out.step hb4)
        clear hb4 HK CS LS
        have z1 := HK4.out.c1
        have f1 := HK4.out.frozen 1
        go_wp2_with fail
        have HK5 := Lib.hid (HK4.out.sub (.string (sOf (low sub))))
        generalize w4.setCell ⟨K, 1, none⟩ (.string (sOf (low sub))) = w5 at HK5 ⊢
        clear z1 f1 HK4
        have HP0 : Hid ((L.drop k).length ≤ r2.length ∧ paramsB r2.length [] (L.drop k) = paramsB r2.length [] r2) := by
          have h := HEX2.out
          rw [h]
          exact ⟨Nat.le_refl _, rfl⟩
        have hk0 : k ≤ L.length := by omega
        generalize paramsB r2.length [] r2 = P at HF HP0
        generalize r2.length = G at HP0 hlen2
        clear HEX2 hlen2 hex0 hex1 hex2 hl4
        clear HR hj hjl hlen hj1 hj1i hsz hl1
        go_loopg [4] G (fun gg at_ wr => ∃ (k : Nat) (ps : List Pm) (v : Value), at_ = .int .i64 k ∧ k ≤ L.length ∧ Hid ((L.drop k).length ≤ gg ∧ paramsB gg ps (L.drop k) = P) ∧ Hid (RS w wr K (.string (sOf (low k0))) (.string (sOf (low sub))) v ps) ∧ ps.length ≤ k)
        case atStart => exact ⟨k, [], _, rfl, hk0, HP0.out, HK5.out, Nat.zero_le _⟩
        case round =>
          clear HP0 HK5 hk0
          obtain ⟨k, ps, v, rfl, hk, HP, HRS, hpk⟩ := hrel
          obtain ⟨A, cc, rfl, hcc, hprd⟩ := prd_of_own HRS.out.own
          have HPRD := Lib.hid hprd
          clear hprd
          by_cases hlt : k < L.length
          · have hki : (k : Int) < (L.length : Int) := by omega
            obtain ⟨c1, t, hct⟩ : ∃ c1 t, L.drop k = c1 :: t := ⟨_, _, List.drop_eq_getElem_cons hlt⟩
            have htd : L.drop (k + 1) = t := by rw [← List.drop_drop, hct]; rfl
            obtain ⟨g, rfl⟩ : ∃ g, gk = g + 1 := ⟨gk - 1, by have := HP.out.1; rw [hct] at this; simp at this; omega⟩
            have HCT := Lib.hid hct
            obtain ⟨k1, hk1⟩ : ∃ k1, k + 1 = k1 := ⟨_, rfl⟩
            have hk1i : (k : Int) + 1 = (k1 : Int) := by omega
            have HT0 : Hid (Lib.trimLeftS (L.drop k1) blanks = Lib.trimLeftS t blanks) := by
              show _ = _
              rw [← hk1, htd]
            have hk1l : k1 ≤ L.length := by omega
            obtain ⟨T, hT⟩ : ∃ T, Lib.trimLeftS t blanks = T := ⟨_, rfl⟩
            have HTT := Lib.hid hT
            rw [hT] at HT0
            clear hct htd hT
            go_wp2_with fail
            go_loopg [4] L.length (fun gg at_ wr' => ∃ q : Nat, L.length + k1 - q = gg ∧ k1 ≤ q ∧ q ≤ L.length ∧ at_ = .int .i64 q ∧ Hid (Lib.trimLeftS (L.drop q) blanks = T) ∧ wr = wr')
            case atStart => exact ⟨k1, by omega, Nat.le_refl _, hk1l, rfl, HT0.out, rfl⟩
            case round =>
              clear HT0
              obtain ⟨q, rfl, hkq, hq, rfl, HTq, rfl⟩ := hrel
              by_cases hltq : q < L.length
              · have hqi : (q : Int) < (L.length : Int) := by omega
                obtain ⟨b, hb⟩ : ∃ b, L[q]'hltq = b := ⟨_, rfl⟩
                have hbk : ∀ h, (sOf L)[q]'h = b := fun h => by rw [← hb]; rfl
                have hdr : L.drop q = b :: L.drop (q + 1) := by rw [List.drop_eq_getElem_cons hltq, hb]
                have CH : Hid (∀ w, Calls Tryz.prog 34 #[.string ⟨#[9, 10, 13, 32]⟩, .int .u8 b.toNat] w fun e w' => e = .returned (.bool (blanks.contains b)) ∧ w = w') := fun w => has_calls blanks b w (by decide)
                clear hb
                cases hbl : blanks.contains b with
                | true =>
                  have HT1 : Hid (Lib.trimLeftS (L.drop (q + 1)) blanks = T) := by
                    have h := HTq.out
                    rw [hdr] at h
                    simp only [Lib.trimLeftS, List.dropWhile_cons, hbl, if_true] at h
                    exact h
                  rw [hbl] at CH
                  clear hbl hdr HTq
                  go_wp2_with (go_at_call 34; refine (CH.out _).mono ?_; rintro e w' ⟨rfl, rfl⟩)
                  go_roundg (L.length + k1 - (q + 1))
                  case measure => omega
                  case rel => exact ⟨q + 1, rfl, by omega, by omega, by go_num, HT1.out, rfl⟩
                | false =>
                  have HLT : Hid (L.drop q = T) := by
                    have h := HTq.out
                    rw [hdr] at h
                    simp only [Lib.trimLeftS, List.dropWhile_cons, hbl, Bool.false_eq_true, if_false] at h
                    rw [← h, hdr]
                    try exact rfl
                  rw [hbl] at CH
                  clear hbl hdr HTq
                  obtain ⟨n0, r0, hc⟩ : ∃ n0 r0, cutA T [59, 61] = (n0, r0) := ⟨_, _, rfl⟩
                  obtain ⟨hf, hl3, hlen3⟩ := cut_facts hc
                  have hTl : T.length = L.length - q := by have := congrArg List.length HLT.out; simpa using this.symm
                  have hTm : T.length ≤ 1000000 := by omega
                  have hfind : Hid (∀ w, Calls Tryz.prog 30 #[.string (sOf T), .string ⟨#[59, 61]⟩] w fun e w' => e = .returned (.int .i64 ((n0.length : Nat) : Int)) ∧ w = w') := fun w => by
                    rw [← hf]
                    exact rfind_calls T [59, 61] w hTm (by decide)
                  have hexq : (sOf L).extract q L.length = sOf T := by
                    rw [sOf_ext, HLT.out, ← hTl, List.take_length]
                  obtain ⟨q3, hq3⟩ : ∃ q3, q + n0.length = q3 := ⟨_, rfl⟩
                  have hq3i : (q : Int) + (n0.length : Int) = (q3 : Int) := by omega
                  have hq3l : q3 ≤ L.length := by omega
                  have hq03 : q ≤ q3 := by omega
                  have hexn : (sOf L).extract q q3 = sOf n0 := by
                    rw [sOf_ext, HLT.out, hl3, ← hq3, Nat.add_sub_cancel_left, List.take_left]
                  have HR3 : Hid (L.drop q3 = r0) := by
                    show _ = _
                    rw [← hq3, ← List.drop_drop, HLT.out, hl3, List.drop_left]
                  have LN := Lib.hid (fun w => rlower_calls (sOf n0) w (by rw [size_sOf]; omega))
                  rw [data_sOf] at LN
                  have HQ : Hid (paramsB (g + 1) ps (L.drop k) = stepP g ps (low n0) r0) := by
                    have e := paramsB_cons g ps c1 t
                    rw [HTT.out, hc] at e
                    rw [HCT.out]
                    exact e
                  have hr0h : ∀ c r, r0 = c :: r → ([59, 61] : List UInt8).contains c = true := fun c r h => cutA_head (l := T) (t := r) (by rw [hc]; exact h)
                  have HR0H := Lib.hid hr0h
                  have hnl : (low n0).length ≤ 1000000 := by rw [low_len]; omega
                  clear hr0h hf hc hl3 HCT HTT HLT
                  go_wp2_with (go_at_call 34; refine (CH.out _).mono ?_; rintro e w' ⟨rfl, rfl⟩)
                  refine (hfind.out _).mono ?_
                  rintro e w' ⟨rfl, rfl⟩
                  clear hfind CH
                  go_wp2_with fail
                  refine (LN.out _).mono ?_
                  rintro e wa ⟨rfl, hba⟩
                  have HRSb := Lib.hid (HRS.out.step hba)
                  have HPRDb := Lib.hid (HPRD.out.below hba)
                  clear hba LN HRS HPRD
                  generalize low n0 = nm at HQ hnl ⊢
                  clear hexq hexn hq3i hbk
                  cases r0 with
                  | nil =>
                    have hq3L : (q3 : Int) = (L.length : Int) := by simp at hlen3; omega
                    obtain rfl : P = ps := by
                      have h := HQ.out
                      rw [HP.out.2] at h
                      exact h
                    have x0 := HRSb.out.c0
                    have x1 := HRSb.out.c1
                    have x2 := HRSb.out.c2
                    have z0 := HRSb.out.ms.c0
                    have z1 := HRSb.out.ms.c1
                    have z2 := HRSb.out.ms.c2
                    have f0 := HRSb.out.ms.frozen 0
                    have f1 := HRSb.out.ms.frozen 1
                    have f2 := HRSb.out.ms.frozen 2
                    go_wp2_with fail
                    have S := HRSb.out.ms.set (.string (sOf (low k0))) (.string (sOf (low sub))) (.slice A P.length cc)
                    have y0 := S.c0
                    have y1 := S.c1
                    have y2 := S.c2
                    refine bodyPost_ret (v := .tuple #[.agg #[.string (sOf (low k0)), .string (sOf (low sub)), .slice A P.length cc], .bool true]) (by simp [results, Tryz.results11, go_sem, y0, y1, y2]) rfl ⟨_, by rw [HF.out], ?_, S.below⟩
                    rw [HF.out]
                    exact HRSb.out.fin
                  | cons c r =>
                    have hlen3' : n0.length + (r.length + 1) = T.length := by simpa using hlen3
                    have hq3L : ¬ (q3 : Int) = (L.length : Int) := by omega
                    have hq3lt : q3 < L.length := by omega
                    have hbk : ∀ h, (sOf L)[q3]'h = c := fun h => by
                      have e1 : (sOf L)[q3]'h = L[q3]'hq3lt := rfl
                      have e2 := HR3.out
                      rw [List.drop_eq_getElem_cons hq3lt] at e2
                      exact e1.trans (List.cons.inj e2).1
                    by_cases h59 : c = 59
                    · subst h59
                      have HV4 : Hid (paramsB g ps (L.drop q3) = P) := by
                        show _ = _
                        rw [HR3.out, ← HP.out.2, HQ.out, stepP_ne _ _ _ _ (by rintro ⟨t', c', e, h'⟩; injection e with e1 e2; subst e1; exact absurd h' (by decide))]
                      have hkb : (L.drop q3).length ≤ g := by
                        have h := HP.out.1
                        simp only [List.length_drop] at h ⊢
                        omega
                      go_wp2_with fail
                      go_roundg g
                      case measure => omega
                      case rel => exact ⟨q3, ps, _, rfl, hq3l, ⟨hkb, HV4.out⟩, HRSb.out, by omega⟩
                    · have h61 : c.toNat = 61 := by
                        have h := HR0H.out c r rfl
                        simp only [List.contains_cons, List.contains_nil, Bool.or_false, Bool.or_eq_true, beq_iff_eq] at h
                        rcases h with h | h
                        · exact absurd h h59
                        · rw [h]; rfl
                      have hi59 : ¬ (c.toNat : Int) = 59 := by omega
                      obtain ⟨q4, hq4⟩ : ∃ q4, q3 + 1 = q4 := ⟨_, rfl⟩
                      have hq4i : (q3 : Int) + 1 = (q4 : Int) := by omega
                      have hq4l : q4 ≤ L.length := by omega
                      have HR4 : Hid (L.drop q4 = r) := by
                        show _ = _
                        rw [← hq4, ← List.drop_drop, HR3.out]
                        rfl
                      have hrl : r.length = L.length - q4 := by have := congrArg List.length HR4.out; simpa using this.symm
                      have hexr : (sOf L).extract q4 L.length = sOf r := by
                        rw [sOf_ext, HR4.out, ← hrl, List.take_length]
                      obtain ⟨qv, n, hqn⟩ : ∃ qv n, quotedB r = (qv, n) := ⟨_, _, rfl⟩
                      have hqle := quotedB_le r
                      rw [hqn] at hqle
                      simp only at hqle
                      have CQD := Lib.hid (fun w => rquoted_calls r w (by omega))
                      rw [hqn] at CQD
                      simp only at CQD
                      obtain ⟨v0, rest, hc⟩ : ∃ v0 rest, cutA (r.drop n) [59] = (v0, rest) := ⟨_, _, rfl⟩
                      obtain ⟨hf, hl3, hlen4⟩ := cut_facts hc
                      have hrd : (r.drop n).length = r.length - n := by simp
                      obtain ⟨q5, hq5⟩ : ∃ q5, q4 + n = q5 := ⟨_, rfl⟩
                      have hq5i : (q4 : Int) + (n : Int) = (q5 : Int) := by omega
                      have hq5l : q5 ≤ L.length := by omega
                      have HR5 : Hid (L.drop q5 = r.drop n) := by
                        show _ = _
                        rw [← hq5, ← List.drop_drop, HR4.out]
                      have hex5 : (sOf L).extract q5 L.length = sOf (r.drop n) := by
                        rw [sOf_ext, HR5.out, List.take_of_length_le (by omega)]
                      have hfind : Hid (∀ w, Calls Tryz.prog 30 #[.string (sOf (r.drop n)), .string ⟨#[59]⟩] w fun e w' => e = .returned (.int .i64 ((v0.length : Nat) : Int)) ∧ w = w') := fun w => by
                        rw [← hf]
                        exact rfind_calls (r.drop n) [59] w (by omega) (by decide)
                      obtain ⟨q6, hq6⟩ : ∃ q6, q5 + v0.length = q6 := ⟨_, rfl⟩
                      have hq6i : (q5 : Int) + (v0.length : Int) = (q6 : Int) := by omega
                      have hq6l : q6 ≤ L.length := by omega
                      have hq56 : q5 ≤ q6 := by omega
                      have hexv : (sOf L).extract q5 q6 = sOf v0 := by
                        rw [sOf_ext, HR5.out, hl3, ← hq6, Nat.add_sub_cancel_left, List.take_left]
                      have HR6 : Hid (L.drop q6 = rest) := by
                        show _ = _
                        rw [← hq6, ← List.drop_drop, HR5.out, hl3, List.drop_left]
                      have HVB : Hid (valueB r = if 0 < n then (qv, rest, true) else (Lib.trimRightS (cutA r [59]).1 blanks, (cutA r [59]).2, !(Lib.trimRightS (cutA r [59]).1 blanks).isEmpty)) := by
                        show _ = _
                        unfold valueB
                        rw [hqn]
                        simp only [hc]
                      have HC0 : Hid (n = 0 → cutA r [59] = (v0, rest)) := by
                        intro h
                        rw [h] at hc
                        simpa using hc
                      have HSP : Hid (stepP g ps nm (c :: r) = paramsB g (if (valueB r).2.2 && !ps.any (·.1 == nm) && isTok nm && quotB (valueB r).1 then ps ++ [(nm, (valueB r).1)] else ps) (valueB r).2.1) := stepP_eq g ps nm c r h61
                      have CR : Hid (∀ w, Calls Tryz.prog 33 #[.string (sOf v0), .string ⟨#[9, 10, 13, 32]⟩] w fun e w' => e = .returned (.string (sOf (Lib.trimRightS v0 blanks))) ∧ w = w') := fun w => rend_calls v0 blanks w (by omega) (by decide)
                      have hkb : (L.drop q6).length ≤ g := by
                        have h := HP.out.1
                        simp only [List.length_drop] at h ⊢
                        omega
                      have hkq6 : k + 1 ≤ q6 := by omega
                      have hv0l : v0.length ≤ 1000000 := by omega
                      have hqvl : qv.length ≤ 1000000 := by omega
                      clear hqn hf hc hl3 HR3 HR4 HR5 h59 h61 HR0H
                      generalize r.drop n = rr at hfind hex5 hrd hlen4
                      go_wp2_with fail
                      refine (CQD.out _).mono ?_
                      rintro e wb ⟨rfl, hbb⟩
                      have HRSa := Lib.hid (HRSb.out.step hbb)
                      have HPRDa := Lib.hid (HPRDb.out.below hbb)
                      clear hbb HRSb HPRDb CQD hbk hexr
                      go_wp2_with fail
                      refine (hfind.out _).mono ?_
                      rintro e w' ⟨rfl, rfl⟩
                      clear hfind hex5 hq5i hq4i
                      have x2 := HRSa.out.c2
                      have CG := Lib.hid (rget_calls A cc ps nm wb HPRDa.out)
                      have hgb := getB_any ps nm
                      generalize getB ps nm = gb at CG hgb
                      obtain ⟨gv, gt⟩ := gb
                      simp only at CG hgb
                      subst hgb
                      by_cases hn : n = 0
                      · have hni : (n : Int) = 0 := by omega
                        have hc0 := HC0.out hn
                        have HV0 : Hid (stepP g ps nm (c :: r) = paramsB g (if !(Lib.trimRightS v0 blanks).isEmpty && !ps.any (·.1 == nm) && isTok nm && quotB (Lib.trimRightS v0 blanks) then ps ++ [(nm, Lib.trimRightS v0 blanks)] else ps) rest) := by
                          have h := HSP.out
                          have e := HVB.out
                          rw [if_neg (by omega), hc0] at e
                          rw [e] at h
                          exact h
                        have hvl : (Lib.trimRightS v0 blanks).length ≤ 1000000 := Nat.le_trans (trimRight_len _ _) hv0l
                        clear HSP HVB HC0 hc0 hn
                        generalize Lib.trimRightS v0 blanks = val at HV0 CR hvl
                        by_cases hve : val = []
                        · subst hve
                          have hts : (sOf []).toList = [] := toList_sOf []
                          have HV : Hid (stepP g ps nm (c :: r) = paramsB g ps rest) := HV0.out
                          clear HV0
                          have HV4 : Hid (paramsB g ps (L.drop q6) = P) := by
                            show _ = _
                            rw [HR6.out, ← HP.out.2, HQ.out, HV.out]
                            try exact rfl
                          clear HQ HV
                          go_wp2_with (first | (go_at_call 33; refine (CR.out _).mono ?_; rintro e w' ⟨rfl, rfl⟩) | (go_at_call 19; refine Calls.mono CG.out ?_; rintro e w' ⟨rfl, rfl⟩))
                          go_roundg g
                          case measure => omega
                          case rel => exact ⟨q6, ps, _, rfl, hq6l, ⟨hkb, HV4.out⟩, HRSa.out, by omega⟩
                        · have hS3 : (sOf val).toList.isEmpty = false := by rw [toList_sOf]; simpa using hve
                          have hS4 : ¬ (sOf val).toList = [] := by rw [toList_sOf]; exact hve
                          have hie : val.isEmpty = false := by simpa using hve
                          have HV : Hid (stepP g ps nm (c :: r) = paramsB g (if !ps.any (·.1 == nm) && isTok nm && quotB val then ps ++ [(nm, val)] else ps) rest) := by
                            have h := HV0.out
                            rw [hie] at h
                            exact h
                          clear HV0 hie hve
                          have CI := Lib.hid (fun w => ris_calls (sOf nm) w (by rw [size_sOf]; omega))
                          have CQ := Lib.hid (fun w => rquot_calls val w (by omega))
                          rw [data_sOf] at CI
                          cases hth : ps.any (fun x => x.1 == nm) with
                          | true =>
                            have HV4 : Hid (paramsB g ps (L.drop q6) = P) := by
                              show _ = _
                              rw [HR6.out, ← HP.out.2, HQ.out, HV.out, hth]
                              try exact rfl
                            rw [hth] at CG
                            clear HQ HV hth CI CQ
                            go_wp2_with (first | (go_at_call 33; refine (CR.out _).mono ?_; rintro e w' ⟨rfl, rfl⟩) | (go_at_call 19; refine Calls.mono CG.out ?_; rintro e w' ⟨rfl, rfl⟩))
                            go_roundg g
                            case measure => omega
                            case rel => exact ⟨q6, ps, _, rfl, hq6l, ⟨hkb, HV4.out⟩, HRSa.out, by omega⟩
                          | false =>
                            rw [hth] at CG
                            cases htok : isTok nm with
                            | false =>
                              have HV4 : Hid (paramsB g ps (L.drop q6) = P) := by
                                show _ = _
                                rw [HR6.out, ← HP.out.2, HQ.out, HV.out, hth, htok]
                                try exact rfl
                              rw [htok] at CI
                              clear HQ HV hth htok CQ
                              go_wp2_with (first | (go_at_call 33; refine (CR.out _).mono ?_; rintro e w' ⟨rfl, rfl⟩) | (go_at_call 19; refine Calls.mono CG.out ?_; rintro e w' ⟨rfl, rfl⟩) | (go_at_call 31; refine (CI.out _).mono ?_; rintro e w' ⟨rfl, rfl⟩))
                              go_roundg g
                              case measure => omega
                              case rel => exact ⟨q6, ps, _, rfl, hq6l, ⟨hkb, HV4.out⟩, HRSa.out, by omega⟩
                            | true =>
                              rw [htok] at CI
                              cases hq : quotB val with
                              | false =>
                                have HV4 : Hid (paramsB g ps (L.drop q6) = P) := by
                                  show _ = _
                                  rw [HR6.out, ← HP.out.2, HQ.out, HV.out, hth, htok, hq]
                                  try exact rfl
                                rw [hq] at CQ
                                clear HQ HV hth htok hq
                                go_wp2_with (first | (go_at_call 33; refine (CR.out _).mono ?_; rintro e w' ⟨rfl, rfl⟩) | (go_at_call 19; refine Calls.mono CG.out ?_; rintro e w' ⟨rfl, rfl⟩) | (go_at_call 31; refine (CI.out _).mono ?_; rintro e w' ⟨rfl, rfl⟩))
                                refine (CQ.out _).mono ?_
                                rintro e w9 ⟨rfl, hb9⟩
                                have HRS9 := Lib.hid (HRSa.out.step hb9)
                                clear hb9
                                go_wp2_with fail
                                go_roundg g
                                case measure => omega
                                case rel => exact ⟨q6, ps, _, rfl, hq6l, ⟨hkb, HV4.out⟩, HRS9.out, by omega⟩
                              | true =>
                                have HV4 : Hid (paramsB g (ps ++ [(nm, val)]) (L.drop q6) = P) := by
                                  show _ = _
                                  rw [HR6.out, ← HP.out.2, HQ.out, HV.out, hth, htok, hq]
                                  try exact rfl
                                rw [hq] at CQ
                                clear HQ HV hth htok hq
                                go_wp2_with (first | (go_at_call 33; refine (CR.out _).mono ?_; rintro e w' ⟨rfl, rfl⟩) | (go_at_call 19; refine Calls.mono CG.out ?_; rintro e w' ⟨rfl, rfl⟩) | (go_at_call 31; refine (CI.out _).mono ?_; rintro e w' ⟨rfl, rfl⟩))
                                refine (CQ.out _).mono ?_
                                rintro e w9 ⟨rfl, hb9⟩
                                have HRS9 := Lib.hid (HRSa.out.step hb9)
                                clear hb9 HRSa x2
                                have x2 := HRS9.out.c2
                                obtain ⟨i0, hi, hz0, hz1, hz2⟩ := info_parts info36
                                go_wp2_with (at_builtin; refine wpList_append_own _ rfl (.tmp 141) (.tmp 145) _ rfl w.heap.size 36 i0 _ 2 32 Tryz.underlying23 hi hz0 hz1 hz2 rfl (by omega) _ ps.length (cellsP ps) rfl (HRS9.out.own.alloc _) ⟨w9.heap.size, 0, none⟩ 1 1 (encP (nm, val)) rfl rfl ?c1 ?c2 ?c3 ?c4 ?c5 ?_)
                                case c1 =>
                                  intro j u hj
                                  match j, hj with
                                  | 0, hj => simp [encP] at hj; subst hj; simp [Addr.add]
                                  | 1, hj => simp [encP] at hj; subst hj; simp [Addr.add]
                                case c2 =>
                                  intro u hu
                                  simp [encP] at hu
                                  rcases hu with rfl | rfl <;> rfl
                                case c3 => unfold maxLen; omega
                                case c4 => omega
                                case c5 => have := HRS9.out.below.size; simp; omega
                                · intro v' w10 hown hg _
                                  have hown2 : w10.ownsRow w.heap.size 36 2 v' (ps ++ [(nm, val)]).length (cellsP (ps ++ [(nm, val)])) := by
                                    rw [cellsP_snoc, List.length_append]
                                    exact hown
                                  obtain ⟨A', cc', hv', _, _⟩ := prd_of_own hown2
                                  have hv2 : v' = .slice A' (ps.length + 1) cc' := by rw [hv', List.length_append]; rfl
                                  clear hv' hown2
                                  subst hv2
                                  have HRSx := HRS9.out.step (w1 := w9.alloc (.cells #[.string (sOf nm), .string (sOf val)] 36)) ((Below.refl _ w9).alloc (Nat.le_refl _) _)
                                  have hz := HRSx.grownK hg
                                  have HRSf := Lib.hid (HRSx.push (p := (nm, val)) hown hg)
                                  have z2 : w10.cell? ⟨K, 2, none⟩ = some (.slice A ps.length cc) := by simp [World.cell?, hz]
                                  have f2 : w10.frozen? ⟨K, 2, none⟩ = false := by simp [World.frozen?, hz]
                                  clear hown hg HRS9 HRSx x2 hz hz0 hz1 hz2 hi
                                  go_wp2_with fail
                                  go_roundg g
                                  case measure => omega
                                  case rel => exact ⟨q6, ps ++ [(nm, val)], _, rfl, hq6l, ⟨hkb, HV4.out⟩, HRSf.out, by rw [List.length_append]; simp; omega⟩
                      · have hn0 : 0 < n := by omega
                        have hni : ¬ (n : Int) = 0 := by omega
                        have hnp : (0 : Int) < (n : Int) := by omega
                        have HV : Hid (stepP g ps nm (c :: r) = paramsB g (if !ps.any (·.1 == nm) && isTok nm && quotB qv then ps ++ [(nm, qv)] else ps) rest) := by
                          have h := HSP.out
                          have e := HVB.out
                          rw [if_pos hn0] at e
                          rw [e] at h
                          exact h
                        clear HSP HVB HC0 hn hn0 CR
                        obtain ⟨val, hval⟩ : ∃ val, val = qv := ⟨_, rfl⟩
                        rw [← hval] at HV hqvl ⊢
                        clear hval
                        have CI := Lib.hid (fun w => ris_calls (sOf nm) w (by rw [size_sOf]; omega))
                        have CQ := Lib.hid (fun w => rquot_calls val w (by omega))
                        rw [data_sOf] at CI
                        cases hth : ps.any (fun x => x.1 == nm) with
                        | true =>
                          have HV4 : Hid (paramsB g ps (L.drop q6) = P) := by
                            show _ = _
                            rw [HR6.out, ← HP.out.2, HQ.out, HV.out, hth]
                            try exact rfl
                          rw [hth] at CG
                          clear HQ HV hth CI CQ
                          go_wp2_with (first | (go_at_call 19; refine Calls.mono CG.out ?_; rintro e w' ⟨rfl, rfl⟩))
                          go_roundg g
                          case measure => omega
                          case rel => exact ⟨q6, ps, _, rfl, hq6l, ⟨hkb, HV4.out⟩, HRSa.out, by omega⟩
                        | false =>
                          rw [hth] at CG
                          cases htok : isTok nm with
                          | false =>
                            have HV4 : Hid (paramsB g ps (L.drop q6) = P) := by
                              show _ = _
                              rw [HR6.out, ← HP.out.2, HQ.out, HV.out, hth, htok]
                              try exact rfl
                            rw [htok] at CI
                            clear HQ HV hth htok CQ
                            go_wp2_with (first | (go_at_call 19; refine Calls.mono CG.out ?_; rintro e w' ⟨rfl, rfl⟩) | (go_at_call 31; refine (CI.out _).mono ?_; rintro e w' ⟨rfl, rfl⟩))
                            go_roundg g
                            case measure => omega
                            case rel => exact ⟨q6, ps, _, rfl, hq6l, ⟨hkb, HV4.out⟩, HRSa.out, by omega⟩
                          | true =>
                            rw [htok] at CI
                            cases hq : quotB val with
                            | false =>
                              have HV4 : Hid (paramsB g ps (L.drop q6) = P) := by
                                show _ = _
                                rw [HR6.out, ← HP.out.2, HQ.out, HV.out, hth, htok, hq]
                                try exact rfl
                              rw [hq] at CQ
                              clear HQ HV hth htok hq
                              go_wp2_with (first | (go_at_call 19; refine Calls.mono CG.out ?_; rintro e w' ⟨rfl, rfl⟩) | (go_at_call 31; refine (CI.out _).mono ?_; rintro e w' ⟨rfl, rfl⟩))
                              refine (CQ.out _).mono ?_
                              rintro e w9 ⟨rfl, hb9⟩
                              have HRS9 := Lib.hid (HRSa.out.step hb9)
                              clear hb9
                              go_wp2_with fail
                              go_roundg g
                              case measure => omega
                              case rel => exact ⟨q6, ps, _, rfl, hq6l, ⟨hkb, HV4.out⟩, HRS9.out, by omega⟩
                            | true =>
                              have HV4 : Hid (paramsB g (ps ++ [(nm, val)]) (L.drop q6) = P) := by
                                show _ = _
                                rw [HR6.out, ← HP.out.2, HQ.out, HV.out, hth, htok, hq]
                                try exact rfl
                              rw [hq] at CQ
                              clear HQ HV hth htok hq
                              go_wp2_with (first | (go_at_call 19; refine Calls.mono CG.out ?_; rintro e w' ⟨rfl, rfl⟩) | (go_at_call 31; refine (CI.out _).mono ?_; rintro e w' ⟨rfl, rfl⟩))
                              refine (CQ.out _).mono ?_
                              rintro e w9 ⟨rfl, hb9⟩
                              have HRS9 := Lib.hid (HRSa.out.step hb9)
                              clear hb9 HRSa x2
                              have x2 := HRS9.out.c2
                              obtain ⟨i0, hi, hz0, hz1, hz2⟩ := info_parts info36
                              go_wp2_with (at_builtin; refine wpList_append_own _ rfl (.tmp 141) (.tmp 145) _ rfl w.heap.size 36 i0 _ 2 32 Tryz.underlying23 hi hz0 hz1 hz2 rfl (by omega) _ ps.length (cellsP ps) rfl (HRS9.out.own.alloc _) ⟨w9.heap.size, 0, none⟩ 1 1 (encP (nm, val)) rfl rfl ?c1 ?c2 ?c3 ?c4 ?c5 ?_)
                              case c1 =>
                                intro j u hj
                                match j, hj with
                                | 0, hj => simp [encP] at hj; subst hj; simp [Addr.add]
                                | 1, hj => simp [encP] at hj; subst hj; simp [Addr.add]
                              case c2 =>
                                intro u hu
                                simp [encP] at hu
                                rcases hu with rfl | rfl <;> rfl
                              case c3 => unfold maxLen; omega
                              case c4 => omega
                              case c5 => have := HRS9.out.below.size; simp; omega
                              · intro v' w10 hown hg _
                                have hown2 : w10.ownsRow w.heap.size 36 2 v' (ps ++ [(nm, val)]).length (cellsP (ps ++ [(nm, val)])) := by
                                  rw [cellsP_snoc, List.length_append]
                                  exact hown
                                obtain ⟨A', cc', hv', _, _⟩ := prd_of_own hown2
                                have hv2 : v' = .slice A' (ps.length + 1) cc' := by rw [hv', List.length_append]; rfl
                                clear hv' hown2
                                subst hv2
                                have HRSx := HRS9.out.step (w1 := w9.alloc (.cells #[.string (sOf nm), .string (sOf val)] 36)) ((Below.refl _ w9).alloc (Nat.le_refl _) _)
                                have hz := HRSx.grownK hg
                                have HRSf := Lib.hid (HRSx.push (p := (nm, val)) hown hg)
                                have z2 : w10.cell? ⟨K, 2, none⟩ = some (.slice A ps.length cc) := by simp [World.cell?, hz]
                                have f2 : w10.frozen? ⟨K, 2, none⟩ = false := by simp [World.frozen?, hz]
                                clear hown hg HRS9 HRSx x2 hz hz0 hz1 hz2 hi
                                go_wp2_with fail
                                go_roundg g
                                case measure => omega
                                case rel => exact ⟨q6, ps ++ [(nm, val)], _, rfl, hq6l, ⟨hkb, HV4.out⟩, HRSf.out, by rw [List.length_append]; simp; omega⟩
              · obtain rfl : q = L.length := by omega
                have hqi : ¬ ((L.length : Int) < (L.length : Int)) := by omega
                have hT0 : T = [] := by
                  have h := HTq.out
                  rw [List.drop_eq_nil_of_le (Nat.le_refl _)] at h
                  exact h.symm
                obtain rfl : P = ps := by
                  have e := paramsB_cons g ps c1 t
                  rw [HTT.out, hT0] at e
                  rw [← HP.out.2, HCT.out]
                  exact e
                have hexe : (sOf L).extract L.length L.length = sOf [] := by rw [sOf_ext]; simp
                have hfind : Hid (∀ w, Calls Tryz.prog 30 #[.string (sOf []), .string ⟨#[59, 61]⟩] w fun e w' => e = .returned (.int .i64 0) ∧ w = w') := fun w => rfind_calls [] [59, 61] w (by decide) (by decide)
                have LN := Lib.hid (fun w => rlower_calls (sOf []) w (by rw [size_sOf]; decide))
                clear HTq HTT HCT
                go_wp2_with fail
                refine (hfind.out _).mono ?_
                rintro e w' ⟨rfl, rfl⟩
                clear hfind
                go_wp2_with fail
                refine (LN.out _).mono ?_
                rintro e wa ⟨rfl, hba⟩
                have HRSb := Lib.hid (HRS.out.step hba)
                clear hba LN HRS HPRD
                have x0 := HRSb.out.c0
                have x1 := HRSb.out.c1
                have x2 := HRSb.out.c2
                have z0 := HRSb.out.ms.c0
                have z1 := HRSb.out.ms.c1
                have z2 := HRSb.out.ms.c2
                have f0 := HRSb.out.ms.frozen 0
                have f1 := HRSb.out.ms.frozen 1
                have f2 := HRSb.out.ms.frozen 2
                go_wp2_with fail
                have S := HRSb.out.ms.set (.string (sOf (low k0))) (.string (sOf (low sub))) (.slice A P.length cc)
                have y0 := S.c0
                have y1 := S.c1
                have y2 := S.c2
                refine bodyPost_ret (v := .tuple #[.agg #[.string (sOf (low k0)), .string (sOf (low sub)), .slice A P.length cc], .bool true]) (by simp [results, Tryz.results11, go_sem, y0, y1, y2]) rfl ⟨_, by rw [HF.out], ?_, S.below⟩
                rw [HF.out]
                exact HRSb.out.fin
          · obtain rfl : k = L.length := by omega
            have hki : ¬ ((L.length : Int) < (L.length : Int)) := by omega
            obtain rfl : P = ps := by
              have h := HP.out.2
              rw [List.drop_eq_nil_of_le (Nat.le_refl _), paramsB_nil] at h
              exact h.symm
            have x0 := HRS.out.c0
            have x1 := HRS.out.c1
            have x2 := HRS.out.c2
            have z0 := HRS.out.ms.c0
            have z1 := HRS.out.ms.c1
            have z2 := HRS.out.ms.c2
            have f0 := HRS.out.ms.frozen 0
            have f1 := HRS.out.ms.frozen 1
            have f2 := HRS.out.ms.frozen 2
            go_wp2_with fail
            have S := HRS.out.ms.set (.string (sOf (low k0))) (.string (sOf (low sub))) (.slice A P.length cc)
            have y0 := S.c0
            have y1 := S.c1
            have y2 := S.c2
            refine bodyPost_ret (v := .tuple #[.agg #[.string (sOf (low k0)), .string (sOf (low sub)), .slice A P.length cc], .bool true]) (by simp [results, Tryz.results11, go_sem, y0, y1, y2]) rfl ⟨_, by rw [HF.out], ?_, S.below⟩
            rw [HF.out]
            exact HRS.out.fin
end Go.Proofs.YtjmjmnagnbgmfaaGreatDoor
