import Derived.Test.YtjmjmnagnbgmfaaGreatDoorS30
/-! What is read is right; the first place of one of some bytes. -/
namespace Go.Proofs.YtjmjmnagnbgmfaaGreatDoor
open Go.Lib

theorem low_idem (c : UInt8) : lowB (lowB c) = lowB c := by
  apply UInt8.toNat_inj.1
  have h := lowB_nat c
  rw [lowB_nat (lowB c)]
  split
  · rename_i h2
    split at h <;> omega
  · rfl
theorem low_low (l : List UInt8) : low (low l) = low l := by
  induction l with
  | nil => rfl
  | cons c t ih =>
    simp only [low, List.map_cons, List.map_map] at ih ⊢
    rw [low_idem, ih]
theorem tok_low {c : UInt8} (h : tokB c = true) : tokB (lowB c) = true := by
  by_cases a : 65 ≤ c.toNat ∧ c.toNat ≤ 90
  · have hn := lowB_nat c
    rw [if_pos a] at hn
    have : letB (lowB c) = true := by
      unfold letB
      rw [hn]
      simp
      omega
    simp [tokB, this]
  · have : lowB c = c := by unfold lowB; rw [if_neg a]
    rw [this]; exact h
theorem isTok_low {l : List UInt8} (h : isTok l = true) : isTok (low l) = true := by
  obtain ⟨h1, h2⟩ := isTok_all h
  simp only [isTok, Bool.and_eq_true, List.all_eq_true, Bool.not_eq_true', List.isEmpty_eq_false_iff]
  refine ⟨fun b hb => ?_, by simpa [low] using h2⟩
  obtain ⟨c, hc, rfl⟩ := List.mem_map.1 hb
  exact tok_low (h1 c hc)
theorem small_low {l : List UInt8} (h : isTok l = true) : smallB (low l) = true := by
  simp [smallB, isTok_low h, low_low]
theorem goodP_app : ∀ (ps pre qs : List Pm), goodP pre (ps ++ qs) = (goodP pre ps && goodP (pre ++ ps) qs)
  | [], pre, qs => by simp [goodP]
  | p :: t, pre, qs => by
    have := goodP_app t (pre ++ [p]) qs
    simp only [List.cons_append, goodP, this, Bool.and_assoc, List.append_assoc, List.nil_append]
theorem params_good : ∀ (k : Nat) (out : List Pm) (l : List UInt8), goodP [] out = true → goodP [] (paramsB k out l) = true
  | 0, out, l, h => by cases l <;> exact h
  | k + 1, out, [], h => by rw [paramsB_nil]; exact h
  | k + 1, out, c0 :: t, h => by
    rw [paramsB_cons]
    generalize hr : (cutA (Lib.trimLeftS t blanks) [59, 61]).2 = r0
    generalize (cutA (Lib.trimLeftS t blanks) [59, 61]).1 = n0
    cases r0 with
    | nil => exact h
    | cons c r =>
      by_cases h61 : c.toNat = 61
      · rw [stepP_eq _ _ _ _ _ h61]
        apply params_good k
        split
        · rename_i h2
          simp only [Bool.and_eq_true, Bool.not_eq_true'] at h2
          rw [goodP_app, h]
          have : smallB (low n0) = true := by simp [smallB, h2.1.2, low_low]
          simp [goodP, h2.1.1.2, this, h2.2]
        · exact h
      · rw [stepP_ne _ _ _ _ (by rintro ⟨t', c', e, h'⟩; injection e with e1 e2; subst e1; exact h61 h')]
        exact params_good k out (c :: r) h
/-- What is read is right. -/
theorem parse_right (l : List UInt8) (h : (parseB l).2 = true) : rightB (parseB l).1 = true := by
  unfold parseB at h ⊢
  generalize hn : namesB l = o at h ⊢
  cases o with
  | none => cases h
  | some x =>
    obtain ⟨a, b, r⟩ := x
    unfold namesB at hn
    simp only at hn
    split at hn
    · rename_i hc
      simp only [Option.some.injEq, Prod.mk.injEq] at hn
      obtain ⟨e1, e2, e3⟩ := hn
      simp only [Bool.and_eq_true] at hc
      have h1 := small_low hc.1.2
      have h2 := small_low hc.2
      rw [e1] at h1
      rw [e2] at h2
      simp only [rightB, h1, h2, Bool.and_true]
      exact params_good _ _ _ rfl
    · cases hn

/-- The first place of one of some bytes; the length, if there is none. -/
def findB (l cs : List UInt8) : Nat := (cutA l cs).1.length
theorem findB_le (l cs : List UInt8) : findB l cs ≤ l.length := (cutA_len l cs).1
theorem findB_take (l cs : List UInt8) : l.take (findB l cs) = (cutA l cs).1 := by
  have h := cutA_app l cs
  unfold findB
  generalize cutA l cs = x at h ⊢
  rw [← h, List.take_left]
theorem findB_drop (l cs : List UInt8) : l.drop (findB l cs) = (cutA l cs).2 := by
  have h := cutA_app l cs
  unfold findB
  generalize cutA l cs = x at h ⊢
  rw [← h, List.drop_left]
/-- What begins the rest is one of those bytes. -/
theorem cutA_head {l cs : List UInt8} {c : UInt8} {t : List UInt8} (h : (cutA l cs).2 = c :: t) : cs.contains c = true := by
  unfold cutA at h
  simp only at h
  induction l with
  | nil => cases h
  | cons b l ih =>
    rw [List.dropWhile_cons] at h
    split at h
    · exact ih h
    · rename_i hb
      injection h with h1 h2
      subst h1
      simpa using hb
theorem cutB_cutA (l : List UInt8) (c : UInt8) : (cutB l c).1 = (cutA l [c]).1 ∧ (cutB l c).2.1 = (cutA l [c]).2.tail ∧ (cutB l c).2.2 = !(cutA l [c]).2.isEmpty := by
  have e : (fun b : UInt8 => !([c] : List UInt8).contains b) = (fun b => b != c) := by
    funext b
    by_cases h : b = c
    · subst h; simp
    · simp [h]
  unfold cutB cutA
  rw [e]
  refine ⟨rfl, rfl, ?_⟩
  simp only
  induction l with
  | nil => rfl
  | cons b l ih =>
    rw [List.dropWhile_cons]
    by_cases h : b = c
    · subst h; simp
    · have h2 : ¬ c = b := fun e => h e.symm
      have h3 : (b != c) = true := by simp [h]
      have h4 : (c == b) = false := by simp [h2]
      rw [if_pos h3, List.contains_cons, h4, Bool.false_or, ih]
end Go.Proofs.YtjmjmnagnbgmfaaGreatDoor
