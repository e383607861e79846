import Derived.Test.YtjmjmnagnbgmfaaGreatDoorS21
/-! The plain law: what is printed of a right type is read as it. -/
namespace Go.Proofs.YtjmjmnagnbgmfaaGreatDoor
open Go.Lib

theorem scanQ_esc (v rest : List UInt8) : scanQ (escB v ++ 34 :: rest) = (v, (escB v).length + 1) := by
  induction v with
  | nil => cases rest <;> simp [escB, scanQ]
  | cons b v ih =>
    cases hc : ch b with
    | true =>
      have e : escB (b :: v) ++ 34 :: rest = 92 :: b :: (escB v ++ 34 :: rest) := by simp [escB, hc]
      have e2 : (escB (b :: v)).length = (escB v).length + 2 := by simp [escB, hc]
      rw [e, e2]
      simp [scanQ, ih]
    | false =>
      have hb : b.toNat ≠ 34 ∧ b.toNat ≠ 92 := by
        simp only [ch, Bool.or_eq_false_iff, beq_eq_false_iff_ne] at hc
        exact ⟨fun e => hc.1 (UInt8.toNat_inj.1 e), fun e => hc.2 (UInt8.toNat_inj.1 e)⟩
      have e : escB (b :: v) ++ 34 :: rest = b :: (escB v ++ 34 :: rest) := by simp [escB, hc]
      have e2 : (escB (b :: v)).length = (escB v).length + 1 := by simp [escB, hc]
      obtain ⟨d, l', hd⟩ : ∃ d l', escB v ++ 34 :: rest = d :: l' := by
        cases h : escB v ++ 34 :: rest with
        | nil => simp at h
        | cons d l' => exact ⟨d, l', rfl⟩
      rw [e, e2]
      rw [hd] at ih ⊢
      simp [scanQ, ih, hb.1, hb.2]

theorem tok_ne {b : UInt8} (h : tokB b = true) : b ≠ 47 ∧ b ≠ 59 ∧ b ≠ 61 ∧ b ≠ 34 ∧ blanks.contains b = false := by
  refine ⟨?_, ?_, ?_, ?_, ?_⟩
  · rintro rfl; exact absurd h (by decide)
  · rintro rfl; exact absurd h (by decide)
  · rintro rfl; exact absurd h (by decide)
  · rintro rfl; exact absurd h (by decide)
  · cases hc : blanks.contains b with
    | false => rfl
    | true =>
      have hm : b ∈ blanks := by simpa using hc
      simp only [blanks, List.mem_cons, List.not_mem_nil, or_false] at hm
      rcases hm with rfl | rfl | rfl | rfl <;> exact absurd h (by decide)
theorem isTok_all {l : List UInt8} (h : isTok l = true) : (∀ b ∈ l, tokB b = true) ∧ l ≠ [] := by
  simp only [isTok, Bool.and_eq_true, List.all_eq_true, Bool.not_eq_true', List.isEmpty_eq_false_iff] at h
  exact h
theorem smallB_tok {l : List UInt8} (h : smallB l = true) : isTok l = true ∧ low l = l := by
  simpa [smallB] using h

def EndOK (l : List UInt8) : Prop := ∃ q x, l = q ++ [x] ∧ blanks.contains x = false
theorem EndOK.app {l : List UInt8} (h : EndOK l) (p : List UInt8) : EndOK (p ++ l) := by
  obtain ⟨q, x, rfl, hx⟩ := h
  exact ⟨p ++ q, x, by simp, hx⟩
theorem EndOK.trim {l : List UInt8} (h : EndOK l) : Lib.trimRightS l blanks = l := by
  obtain ⟨q, x, rfl, hx⟩ := h
  unfold Lib.trimRightS
  rw [List.reverse_append, List.reverse_singleton, List.singleton_append, List.dropWhile_cons_of_neg (by simpa using hx)]
  simp
theorem tok_end {l : List UInt8} (h : isTok l = true) : EndOK l := by
  obtain ⟨h1, h2⟩ := isTok_all h
  refine ⟨l.dropLast, l.getLast h2, (List.dropLast_concat_getLast h2).symm, (tok_ne (h1 _ (List.getLast_mem h2))).2.2.2.2⟩
theorem tok_left {l : List UInt8} (h : isTok l = true) (r : List UInt8) : Lib.trimLeftS (l ++ r) blanks = l ++ r := by
  obtain ⟨h1, h2⟩ := isTok_all h
  cases l with
  | nil => exact absurd rfl h2
  | cons b t =>
    unfold Lib.trimLeftS
    rw [List.cons_append, List.dropWhile_cons_of_neg]
    have := (tok_ne (h1 b (List.mem_cons_self ..))).2.2.2.2
    simpa using this
theorem cut_tok {l cs : List UInt8} (h : ∀ b ∈ l, cs.contains b = false) (r : List UInt8) (hr : r = [] ∨ ∃ c t, r = c :: t ∧ cs.contains c = true) : cutA (l ++ r) cs = (l, r) := by
  unfold cutA
  rw [List.takeWhile_append_of_pos (by intro b hb; simpa using h b hb), List.dropWhile_append_of_pos (by intro b hb; simpa using h b hb)]
  rcases hr with rfl | ⟨c, t, rfl, hc⟩
  · simp
  · rw [List.takeWhile_cons_of_neg (by simpa using hc), List.dropWhile_cons_of_neg (by simpa using hc), List.append_nil]
theorem allPrint_head (ps : List Pm) : allPrint ps = [] ∨ ∃ t, allPrint ps = 59 :: t := by
  cases ps with
  | nil => exact .inl rfl
  | cons p t => exact .inr ⟨_, rfl⟩

/-- A value's text. -/
def valT (v : List UInt8) : List UInt8 := if isTok v then v else quoteB v
theorem value_back (v R : List UInt8) (hR : R = [] ∨ ∃ t, R = 59 :: t) : valueB (valT v ++ R) = (v, R, true) := by
  have h59 : ([59] : List UInt8).contains 59 = true := by decide
  have hr : R = [] ∨ ∃ c t, R = c :: t ∧ ([59] : List UInt8).contains c = true := by
    rcases hR with h | ⟨t, h⟩
    · exact .inl h
    · exact .inr ⟨59, t, h, h59⟩
  unfold valT
  cases ht : isTok v with
  | true =>
    obtain ⟨h1, h2⟩ := isTok_all ht
    have hq : (quotedB (v ++ R)).2 = 0 := by
      cases v with
      | nil => exact absurd rfl h2
      | cons b t =>
        have := (tok_ne (h1 b (List.mem_cons_self ..))).2.2.2.1
        have hb : b.toNat ≠ 34 := fun e => this (UInt8.toNat_inj.1 e)
        simp [quotedB, hb]
    have hc := cut_tok (l := v) (cs := [59]) (fun b hb => by have := (tok_ne (h1 b hb)).2.1; simpa using this) (R) hr
    simp only [if_true]
    unfold valueB
    rw [hq, hc, (tok_end ht).trim]
    simp [h2]
  | false =>
    have e : quoteB v ++ R = 34 :: (escB v ++ 34 :: R) := by simp [quoteB]
    have hq : quotedB (34 :: (escB v ++ 34 :: R)) = (v, (escB v).length + 2) := by
      simp [quotedB, scanQ_esc]
    have hd : (34 :: (escB v ++ 34 :: R)).drop ((escB v).length + 2) = R := by
      rw [List.drop_succ_cons, show (escB v).length + 1 = (escB v).length + (0 + 1) by omega, List.drop_append]
      simp
    have hc := cut_tok (l := []) (cs := [59]) (fun b hb => by cases hb) (R) hr
    rw [List.nil_append] at hc
    simp only [Bool.false_eq_true, if_false]
    rw [e]
    unfold valueB
    rw [hq]
    simp only [hd, hc]
    simp

theorem params_tail (R : List UInt8) (hR : R = [] ∨ ∃ t, R = 59 :: t) : ∀ (ps out : List Pm) (k : Nat), goodP out ps = true → (allPrint ps ++ R).length ≤ k → ∃ k', R.length ≤ k' ∧ paramsB k out (allPrint ps ++ R) = paramsB k' (out ++ ps) R
  | [], out, k, _, hk => ⟨k, by simpa [allPrint] using hk, by simp [allPrint]⟩
  | (nm, v) :: ps, out, k, hg, hk => by
    have e : allPrint ((nm, v) :: ps) ++ R = 59 :: (nm ++ 61 :: (valT v ++ (allPrint ps ++ R))) := by simp [allPrint, onePrint, valT]
    rw [e] at hk ⊢
    obtain ⟨k, rfl⟩ : ∃ j, k = j + 1 := ⟨k - 1, by simp at hk; omega⟩
    simp only [goodP, Bool.and_eq_true] at hg
    obtain ⟨⟨⟨g1, g2⟩, g3⟩, g4⟩ := hg
    obtain ⟨t1, t2⟩ := smallB_tok g2
    obtain ⟨a1, a2⟩ := isTok_all t1
    have hR2 : allPrint ps ++ R = [] ∨ ∃ t, allPrint ps ++ R = 59 :: t := by
      rcases allPrint_head ps with h | ⟨t, h⟩
      · rw [h]; exact hR
      · exact .inr ⟨t ++ R, by rw [h]; rfl⟩
    have hc := cut_tok (l := nm) (cs := [59, 61]) (fun b hb => by have h1 := (tok_ne (a1 b hb)).2.1; have h2 := (tok_ne (a1 b hb)).2.2.1; simp [h1, h2]) (61 :: (valT v ++ (allPrint ps ++ R))) (.inr ⟨61, _, rfl, by decide⟩)
    rw [paramsB_cons, tok_left t1, hc]
    simp only
    rw [stepP_eq _ _ _ _ _ (by decide), value_back _ _ hR2, t2]
    simp only [g1, t1, g3, Bool.and_true, if_true]
    have hk2 : (allPrint ps ++ R).length ≤ k := by simp at hk ⊢; omega
    obtain ⟨k', h1, h2⟩ := params_tail R hR ps (out ++ [(nm, v)]) k g4 hk2
    exact ⟨k', h1, by rw [h2, List.append_assoc]; rfl⟩
theorem params_back (ps out : List Pm) (k : Nat) (hg : goodP out ps = true) (hk : (allPrint ps).length ≤ k) : paramsB k out (allPrint ps) = out ++ ps := by
  obtain ⟨k', _, h⟩ := params_tail [] (.inl rfl) ps out k hg (by simpa using hk)
  rw [List.append_nil] at h
  rw [h, paramsB_nil]

theorem print_end (a b : List UInt8) (ps : List Pm) (hb : isTok b = true) : EndOK (printB (a, b, ps)) := by
  have hone : ∀ p : Pm, EndOK (onePrint p) := by
    intro p
    unfold onePrint
    cases ht : isTok p.2 with
    | true => exact (tok_end ht).app _
    | false => exact (show EndOK (quoteB p.2) from ⟨[34] ++ escB p.2, 34, by simp [quoteB], by decide⟩).app _
  have hall : ∀ (ps : List Pm) (pre : List UInt8), EndOK pre → EndOK (pre ++ allPrint ps) := by
    intro ps
    induction ps with
    | nil => intro pre h; simpa [allPrint] using h
    | cons p t ih =>
      intro pre _
      rw [allPrint, ← List.append_assoc]
      exact ih _ ((hone p).app pre)
  exact hall ps _ ((tok_end hb).app _)

theorem parse_print (m : Mm) (h : rightB m = true) : parseB (printB m) = (m, true) := by
  obtain ⟨a, b, ps⟩ := m
  simp only [rightB, Bool.and_eq_true] at h
  obtain ⟨⟨h1, h2⟩, h3⟩ := h
  obtain ⟨a1, a2⟩ := smallB_tok h2
  obtain ⟨b1, b2⟩ := smallB_tok h3
  obtain ⟨at1, at2⟩ := isTok_all a1
  obtain ⟨bt1, bt2⟩ := isTok_all b1
  have e : printB (a, b, ps) = a ++ 47 :: (b ++ allPrint ps) := printB_eq a b ps
  have htrim : Lib.trimS (printB (a, b, ps)) blanks = a ++ 47 :: (b ++ allPrint ps) := by
    unfold Lib.trimS
    rw [(print_end a b ps b1).trim, e]
    exact tok_left a1 _
  have hno : ∀ x ∈ a, (x != 47) = true := fun x hx => by have := (tok_ne (at1 x hx)).1; simpa using this
  have hcut : cutB (a ++ 47 :: (b ++ allPrint ps)) 47 = (a, b ++ allPrint ps, true) := by
    unfold cutB
    rw [List.takeWhile_append_of_pos hno, List.dropWhile_append_of_pos hno]
    simp
  have hr : allPrint ps = [] ∨ ∃ c t, allPrint ps = c :: t ∧ ([59] : List UInt8).contains c = true := by
    rcases allPrint_head ps with h | ⟨t, h⟩
    · exact .inl h
    · exact .inr ⟨59, t, h, by decide⟩
  have hcut2 := cut_tok (l := b) (cs := [59]) (fun x hx => by have := (tok_ne (bt1 x hx)).2.1; simpa using this) (allPrint ps) hr
  have hn : namesB (printB (a, b, ps)) = some (a, b, allPrint ps) := by
    unfold namesB
    rw [htrim, hcut]
    simp only
    rw [hcut2]
    simp only
    rw [(tok_end b1).trim]
    simp [a1, b1]
  unfold parseB
  rw [hn]
  simp only
  rw [params_back ps [] _ h1 (Nat.le_refl _), a2, b2]
  rfl
theorem print_inj {m n : Mm} (hm : rightB m = true) (hn : rightB n = true) (h : printB m = printB n) : m = n := by
  have h1 := parse_print m hm
  rw [h, parse_print n hn] at h1
  exact (Prod.mk.inj h1).1.symm
end Go.Proofs.YtjmjmnagnbgmfaaGreatDoor
