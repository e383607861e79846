import Derived.Test.YtjmjmnagnbgmfaaGreatDoorS30
/-! The plain law of MimeTwice: a second parameter of a name that is there changes nothing. -/
namespace Go.Proofs.YtjmjmnagnbgmfaaGreatDoor
open Go.Lib

/-- A byte in a great letter. -/
def upB (c : UInt8) : UInt8 := if 97 ≤ c.toNat ∧ c.toNat ≤ 122 then UInt8.ofNat (c.toNat - 32) else c
def up (l : List UInt8) : List UInt8 := l.map upB

theorem trim_after (X s : List UInt8) : Lib.trimRightS (X ++ 61 :: s) blanks = X ++ 61 :: Lib.trimRightS s blanks := by
  unfold Lib.trimRightS
  have e : (X ++ 61 :: s).reverse = s.reverse ++ 61 :: X.reverse := by simp
  rw [e, List.dropWhile_append]
  have h61 : ¬ (blanks.contains (61 : UInt8)) = true := by decide
  split
  · rename_i h
    rw [List.isEmpty_iff] at h
    rw [h, List.dropWhile_cons_of_neg h61]
    simp
  · simp

theorem up_nat (c : UInt8) : (upB c).toNat = if 97 ≤ c.toNat ∧ c.toNat ≤ 122 then c.toNat - 32 else c.toNat := by
  unfold upB
  have := c.toNat_lt
  split
  · rw [UInt8.toNat_ofNat']; omega
  · rfl
theorem low_up {c : UInt8} (h : lowB c = c) : lowB (upB c) = c := by
  apply UInt8.toNat_inj.1
  have h1 : (lowB c).toNat = c.toNat := by rw [h]
  rw [lowB_nat] at h1
  rw [lowB_nat, up_nat]
  have := c.toNat_lt
  by_cases a : 97 ≤ c.toNat ∧ c.toNat ≤ 122
  · rw [if_pos a, if_pos (by omega)]; omega
  · rw [if_neg a]
    by_cases b : 65 ≤ c.toNat ∧ c.toNat ≤ 90
    · rw [if_pos b] at h1; omega
    · rw [if_neg b]
theorem tok_up {c : UInt8} (h : tokB c = true) : tokB (upB c) = true := by
  by_cases a : 97 ≤ c.toNat ∧ c.toNat ≤ 122
  · have hn := up_nat c
    rw [if_pos a] at hn
    have : letB (upB c) = true := by
      unfold letB
      rw [hn]
      simp
      omega
    simp [tokB, this]
  · have : upB c = c := by unfold upB; rw [if_neg a]
    rw [this]; exact h
theorem up_tok {l : List UInt8} (h : isTok l = true) : isTok (up l) = true := by
  obtain ⟨h1, h2⟩ := isTok_all h
  simp only [isTok, Bool.and_eq_true, List.all_eq_true, Bool.not_eq_true', List.isEmpty_eq_false_iff]
  refine ⟨fun b hb => ?_, by simpa [up] using h2⟩
  obtain ⟨c, hc, rfl⟩ := List.mem_map.1 hb
  exact tok_up (h1 c hc)
theorem low_up_all {l : List UInt8} (h : low l = l) : low (up l) = l := by
  induction l with
  | nil => rfl
  | cons c t ih =>
    simp only [low, List.map_cons, List.cons.injEq] at h
    have := ih h.2
    simp only [low, up, List.map_map] at this
    simp only [low, up, List.map_cons, List.map_map, low_up h.1, this]

theorem value_plain (s : List UInt8) (h : ∀ b ∈ s, b ≠ 59 ∧ b ≠ 34) : (valueB s).2.1 = [] := by
  have hq : (quotedB s).2 = 0 := by
    cases s with
    | nil => rfl
    | cons b t =>
      have := (h b (List.mem_cons_self ..)).2
      have hb : b.toNat ≠ 34 := fun e => this (UInt8.toNat_inj.1 e)
      simp [quotedB, hb]
  have hc := cut_tok (l := s) (cs := [59]) (fun b hb => by have := (h b hb).1; simpa using this) [] (.inl rfl)
  rw [List.append_nil] at hc
  unfold valueB
  rw [hq, hc]
  rfl

theorem twice_law (m : Mm) (hm : rightB m = true) (nm s : List UInt8) (hn : ∃ p ∈ m.2.2, p.1 = nm) (hs : ∀ b ∈ s, b ≠ 59 ∧ b ≠ 34) : parseB (printB m ++ 59 :: (up nm ++ 61 :: s)) = (m, true) := by
  obtain ⟨a, b, ps⟩ := m
  simp only [rightB, Bool.and_eq_true] at hm
  obtain ⟨⟨h1, h2⟩, h3⟩ := hm
  obtain ⟨a1, a2⟩ := smallB_tok h2
  obtain ⟨b1, b2⟩ := smallB_tok h3
  obtain ⟨at1, at2⟩ := isTok_all a1
  obtain ⟨bt1, bt2⟩ := isTok_all b1
  obtain ⟨p, hp, rfl⟩ := hn
  simp only at hp
  -- the name is a token in small letters
  have hsm : ∀ (qs pre : List Pm), goodP pre qs = true → ∀ q ∈ qs, smallB q.1 = true := by
    intro qs
    induction qs with
    | nil => intro _ _ q hq; cases hq
    | cons x t ih =>
      intro pre hg q hq
      simp only [goodP, Bool.and_eq_true] at hg
      rcases List.mem_cons.1 hq with rfl | hq
      · exact hg.1.1.2
      · exact ih _ hg.2 q hq
  obtain ⟨n1, n2⟩ := smallB_tok (hsm ps [] h1 p hp)
  have u1 := up_tok n1
  have u2 := low_up_all n2
  obtain ⟨ut1, _⟩ := isTok_all u1
  obtain ⟨s', hs'⟩ : ∃ s', s' = Lib.trimRightS s blanks := ⟨_, rfl⟩
  have hsub : ∀ b ∈ s', b ≠ 59 ∧ b ≠ 34 := by
    intro x hx
    refine hs x ?_
    rw [hs'] at hx
    unfold Lib.trimRightS at hx
    have := (List.dropWhile_sublist (fun x => blanks.contains x) (l := s.reverse)).subset (List.mem_reverse.1 hx)
    exact List.mem_reverse.1 this
  obtain ⟨R, hR⟩ : ∃ R, R = 59 :: (up p.1 ++ 61 :: s') := ⟨_, rfl⟩
  have e : printB (a, b, ps) = a ++ 47 :: (b ++ allPrint ps) := printB_eq a b ps
  have htrim : Lib.trimS (printB (a, b, ps) ++ 59 :: (up p.1 ++ 61 :: s)) blanks = a ++ 47 :: (b ++ (allPrint ps ++ R)) := by
    unfold Lib.trimS
    have e1 : printB (a, b, ps) ++ 59 :: (up p.1 ++ 61 :: s) = (printB (a, b, ps) ++ 59 :: up p.1) ++ 61 :: s := by simp
    rw [e1, trim_after, ← hs', e]
    have e2 : (a ++ 47 :: (b ++ allPrint ps) ++ 59 :: up p.1) ++ 61 :: s' = a ++ 47 :: (b ++ (allPrint ps ++ R)) := by rw [hR]; simp
    rw [e2]
    exact tok_left a1 _
  have hno : ∀ x ∈ a, (x != 47) = true := fun x hx => by have := (tok_ne (at1 x hx)).1; simpa using this
  have hcut : cutB (a ++ 47 :: (b ++ (allPrint ps ++ R))) 47 = (a, b ++ (allPrint ps ++ R), true) := by
    unfold cutB
    rw [List.takeWhile_append_of_pos hno, List.dropWhile_append_of_pos hno]
    simp
  have hRR : R = [] ∨ ∃ t, R = 59 :: t := .inr ⟨_, hR⟩
  have hr : allPrint ps ++ R = [] ∨ ∃ c t, allPrint ps ++ R = c :: t ∧ ([59] : List UInt8).contains c = true := by
    rcases allPrint_head ps with h | ⟨t, h⟩
    · rw [h, hR]; exact .inr ⟨59, _, rfl, by decide⟩
    · exact .inr ⟨59, t ++ R, by rw [h]; rfl, by decide⟩
  have hcut2 := cut_tok (l := b) (cs := [59]) (fun x hx => by have := (tok_ne (bt1 x hx)).2.1; simpa using this) (allPrint ps ++ R) hr
  have hn : namesB (printB (a, b, ps) ++ 59 :: (up p.1 ++ 61 :: s)) = some (a, b, allPrint ps ++ R) := by
    unfold namesB
    rw [htrim, hcut]
    simp only
    rw [hcut2]
    simp only
    rw [(tok_end b1).trim]
    simp [a1, b1]
  unfold parseB
  rw [hn]
  simp only
  obtain ⟨k', hk', hpar⟩ := params_tail R hRR ps [] _ h1 (Nat.le_refl _)
  rw [hpar, List.nil_append, a2, b2]
  have hlast : paramsB k' ps R = ps := by
    rw [hR] at hk' ⊢
    obtain ⟨k, rfl⟩ : ∃ j, k' = j + 1 := ⟨k' - 1, by simp at hk'; omega⟩
    have hc := cut_tok (l := up p.1) (cs := [59, 61]) (fun x hx => by have h1 := (tok_ne (ut1 x hx)).2.1; have h2 := (tok_ne (ut1 x hx)).2.2.1; simp [h1, h2]) (61 :: s') (.inr ⟨61, _, rfl, by decide⟩)
    rw [paramsB_cons, tok_left u1, hc]
    simp only
    rw [stepP_eq _ _ _ _ _ (by decide), u2, value_plain s' hsub]
    have hany : ps.any (fun x => x.1 == p.1) = true := List.any_eq_true.2 ⟨p, hp, by simp⟩
    simp only [hany, Bool.not_true, Bool.and_false, Bool.false_and, Bool.false_eq_true, if_false]
    exact paramsB_nil _ _
  rw [hlast]
end Go.Proofs.YtjmjmnagnbgmfaaGreatDoor
