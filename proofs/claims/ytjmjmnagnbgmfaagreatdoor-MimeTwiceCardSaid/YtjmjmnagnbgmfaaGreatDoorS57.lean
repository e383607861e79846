import Derived.Test.YtjmjmnagnbgmfaaGreatDoorS30
import Derived.Test.YtjmjmnagnbgmfaaGreatDoorS42
import Derived.Deep.RegionHeld3
import Derived.BigGuard
import Derived.StillTailTactics
/-! The plain law of MimeTwice: a second parameter of a name that is there changes nothing. -/
namespace Go.Proofs.YtjmjmnagnbgmfaaGreatDoor
open Go.Lib

/-- A byte in a great letter. -/
def upB (c : UInt8) : UInt8 := if 97 ≤ c.toNat ∧ c.toNat ≤ 122 then UInt8.ofNat (c.toNat - 32) else c
def up (l : List UInt8) : List UInt8 := l.map upB

theorem trim_after (X s : List UInt8) : Lib.trimRightS (X ++ 61 :: s) blanks = X ++ 61 :: Lib.trimRightS s blanks := by
  unfold Lib.trimRightS
  have e : (X ++ 61 :: s).reverse = s.reverse ++ 61 :: X.reverse := by simp
  rw [e, List.dropWhile_append]
  have h61 : ¬ (blanks.contains (61 : UInt8)) = true := by decide
  split
  · rename_i h
    rw [List.isEmpty_iff] at h
    rw [h, List.dropWhile_cons_of_neg h61]
    simp
  · simp

theorem up_nat (c : UInt8) : (upB c).toNat = if 97 ≤ c.toNat ∧ c.toNat ≤ 122 then c.toNat - 32 else c.toNat := by
  unfold upB
  have := c.toNat_lt
  split
  · rw [UInt8.toNat_ofNat']; omega
  · rfl
theorem low_up {c : UInt8} (h : lowB c = c) : lowB (upB c) = c := by
  apply UInt8.toNat_inj.1
  have h1 : (lowB c).toNat = c.toNat := by rw [h]
  rw [lowB_nat] at h1
  rw [lowB_nat, up_nat]
  have := c.toNat_lt
  by_cases a : 97 ≤ c.toNat ∧ c.toNat ≤ 122
  · rw [if_pos a, if_pos (by omega)]; omega
  · rw [if_neg a]
    by_cases b : 65 ≤ c.toNat ∧ c.toNat ≤ 90
    · rw [if_pos b] at h1; omega
    · rw [if_neg b]
theorem tok_up {c : UInt8} (h : tokB c = true) : tokB (upB c) = true := by
  by_cases a : 97 ≤ c.toNat ∧ c.toNat ≤ 122
  · have hn := up_nat c
    rw [if_pos a] at hn
    have : letB (upB c) = true := by
      unfold letB
      rw [hn]
      simp
      omega
    simp [tokB, this]
  · have : upB c = c := by unfold upB; rw [if_neg a]
    rw [this]; exact h
theorem up_tok {l : List UInt8} (h : isTok l = true) : isTok (up l) = true := by
  obtain ⟨h1, h2⟩ := isTok_all h
  simp only [isTok, Bool.and_eq_true, List.all_eq_true, Bool.not_eq_true', List.isEmpty_eq_false_iff]
  refine ⟨fun b hb => ?_, by simpa [up] using h2⟩
  obtain ⟨c, hc, rfl⟩ := List.mem_map.1 hb
  exact tok_up (h1 c hc)
theorem low_up_all {l : List UInt8} (h : low l = l) : low (up l) = l := by
  induction l with
  | nil => rfl
  | cons c t ih =>
    simp only [low, List.map_cons, List.cons.injEq] at h
    have := ih h.2
    simp only [low, up, List.map_map] at this
    simp only [low, up, List.map_cons, List.map_map, low_up h.1, this]

theorem value_plain (s : List UInt8) (h : ∀ b ∈ s, b ≠ 59 ∧ b ≠ 34) : (valueB s).2.1 = [] := by
  have hq : (quotedB s).2 = 0 := by
    cases s with
    | nil => rfl
    | cons b t =>
      have := (h b (List.mem_cons_self ..)).2
      have hb : b.toNat ≠ 34 := fun e => this (UInt8.toNat_inj.1 e)
      simp [quotedB, hb]
  have hc := cut_tok (l := s) (cs := [59]) (fun b hb => by have := (h b hb).1; simpa using this) [] (.inl rfl)
  rw [List.append_nil] at hc
  unfold valueB
  rw [hq, hc]
  rfl

theorem twice_law (m : Mm) (hm : rightB m = true) (nm s : List UInt8) (hn : ∃ p ∈ m.2.2, p.1 = nm) (hs : ∀ b ∈ s, b ≠ 59 ∧ b ≠ 34) : parseB (printB m ++ 59 :: (up nm ++ 61 :: s)) = (m, true) := by
  obtain ⟨a, b, ps⟩ := m
  simp only [rightB, Bool.and_eq_true] at hm
  obtain ⟨⟨h1, h2⟩, h3⟩ := hm
  obtain ⟨a1, a2⟩ := smallB_tok h2
  obtain ⟨b1, b2⟩ := smallB_tok h3
  obtain ⟨at1, at2⟩ := isTok_all a1
  obtain ⟨bt1, bt2⟩ := isTok_all b1
  obtain ⟨p, hp, rfl⟩ := hn
  simp only at hp
  -- the name is a token in small letters
  have hsm : ∀ (qs pre : List Pm), goodP pre qs = true → ∀ q ∈ qs, smallB q.1 = true := by
    intro qs
    induction qs with
    | nil => intro _ _ q hq; cases hq
    | cons x t ih =>
      intro pre hg q hq
      simp only [goodP, Bool.and_eq_true] at hg
      rcases List.mem_cons.1 hq with rfl | hq
      · exact hg.1.1.2
      · exact ih _ hg.2 q hq
  obtain ⟨n1, n2⟩ := smallB_tok (hsm ps [] h1 p hp)
  have u1 := up_tok n1
  have u2 := low_up_all n2
  obtain ⟨ut1, _⟩ := isTok_all u1
  obtain ⟨s', hs'⟩ : ∃ s', s' = Lib.trimRightS s blanks := ⟨_, rfl⟩
  have hsub : ∀ b ∈ s', b ≠ 59 ∧ b ≠ 34 := by
    intro x hx
    refine hs x ?_
    rw [hs'] at hx
    unfold Lib.trimRightS at hx
    have := (List.dropWhile_sublist (fun x => blanks.contains x) (l := s.reverse)).subset (List.mem_reverse.1 hx)
    exact List.mem_reverse.1 this
  obtain ⟨R, hR⟩ : ∃ R, R = 59 :: (up p.1 ++ 61 :: s') := ⟨_, rfl⟩
  have e : printB (a, b, ps) = a ++ 47 :: (b ++ allPrint ps) := printB_eq a b ps
  have htrim : Lib.trimS (printB (a, b, ps) ++ 59 :: (up p.1 ++ 61 :: s)) blanks = a ++ 47 :: (b ++ (allPrint ps ++ R)) := by
    unfold Lib.trimS
    have e1 : printB (a, b, ps) ++ 59 :: (up p.1 ++ 61 :: s) = (printB (a, b, ps) ++ 59 :: up p.1) ++ 61 :: s := by simp
    rw [e1, trim_after, ← hs', e]
    have e2 : (a ++ 47 :: (b ++ allPrint ps) ++ 59 :: up p.1) ++ 61 :: s' = a ++ 47 :: (b ++ (allPrint ps ++ R)) := by rw [hR]; simp
    rw [e2]
    exact tok_left a1 _
  have hno : ∀ x ∈ a, (x != 47) = true := fun x hx => by have := (tok_ne (at1 x hx)).1; simpa using this
  have hcut : cutB (a ++ 47 :: (b ++ (allPrint ps ++ R))) 47 = (a, b ++ (allPrint ps ++ R), true) := by
    unfold cutB
    rw [List.takeWhile_append_of_pos hno, List.dropWhile_append_of_pos hno]
    simp
  have hRR : R = [] ∨ ∃ t, R = 59 :: t := .inr ⟨_, hR⟩
  have hr : allPrint ps ++ R = [] ∨ ∃ c t, allPrint ps ++ R = c :: t ∧ ([59] : List UInt8).contains c = true := by
    rcases allPrint_head ps with h | ⟨t, h⟩
    · rw [h, hR]; exact .inr ⟨59, _, rfl, by decide⟩
    · exact .inr ⟨59, t ++ R, by rw [h]; rfl, by decide⟩
  have hcut2 := cut_tok (l := b) (cs := [59]) (fun x hx => by have := (tok_ne (bt1 x hx)).2.1; simpa using this) (allPrint ps ++ R) hr
  have hn : namesB (printB (a, b, ps) ++ 59 :: (up p.1 ++ 61 :: s)) = some (a, b, allPrint ps ++ R) := by
    unfold namesB
    rw [htrim, hcut]
    simp only
    rw [hcut2]
    simp only
    rw [(tok_end b1).trim]
    simp [a1, b1]
  unfold parseB
  rw [hn]
  simp only
  obtain ⟨k', hk', hpar⟩ := params_tail R hRR ps [] _ h1 (Nat.le_refl _)
  rw [hpar, List.nil_append, a2, b2]
  have hlast : paramsB k' ps R = ps := by
    rw [hR] at hk' ⊢
    obtain ⟨k, rfl⟩ : ∃ j, k' = j + 1 := ⟨k' - 1, by simp at hk'; omega⟩
    have hc := cut_tok (l := up p.1) (cs := [59, 61]) (fun x hx => by have h1 := (tok_ne (ut1 x hx)).2.1; have h2 := (tok_ne (ut1 x hx)).2.2.1; simp [h1, h2]) (61 :: s') (.inr ⟨61, _, rfl, by decide⟩)
    rw [paramsB_cons, tok_left u1, hc]
    simp only
    rw [stepP_eq _ _ _ _ _ (by decide), u2, value_plain s' hsub]
    have hany : ps.any (fun x => x.1 == p.1) = true := List.any_eq_true.2 ⟨p, hp, by simp⟩
    simp only [hany, Bool.not_true, Bool.and_false, Bool.false_and, Bool.false_eq_true, if_false]
    exact paramsB_nil _ _
  rw [hlast]
end Go.Proofs.YtjmjmnagnbgmfaaGreatDoor

/-! MimeTwice: what stands in memory. -/
namespace Go.Proofs.YtjmjmnagnbgmfaaGreatDoor
open Go.RowKit Go.Shelf Go.Lib Go.Proofs.YtjmjmnagnbgmfaaGreatDoorW.PrintWords

/-- The first bytes in great letters. -/
def upTo (l : List UInt8) (k : Nat) : List UInt8 := (l.take k).map upB ++ l.drop k
theorem upTo_length (l : List UInt8) (k : Nat) : (upTo l k).length = l.length := by
  simp only [upTo, List.length_append, List.length_map, List.length_take, List.length_drop]
  omega
theorem upTo_zero (l : List UInt8) : upTo l 0 = l := by simp [upTo]
theorem upTo_all (l : List UInt8) : upTo l l.length = up l := by simp [upTo, up]
theorem upTo_at (l : List UInt8) (k : Nat) (h : k < l.length) : (upTo l k).getD k 0 = l.getD k 0 := by
  rw [List.getD_eq_getElem?_getD, List.getD_eq_getElem?_getD, upTo, List.getElem?_append_right (by simp; omega)]
  simp [Nat.min_eq_left (Nat.le_of_lt h)]
theorem upTo_succ (l : List UInt8) (k : Nat) (h : k < l.length) : upTo l (k + 1) = (upTo l k).set k (upB (l.getD k 0)) := by
  have hk : ((l.take k).map upB).length = k := by simp; omega
  have hd : (l.drop k).set 0 (upB (l.getD k 0)) = upB l[k] :: l.drop (k + 1) := by
    rw [List.drop_eq_getElem_cons h, List.set_cons_zero, List.getD_eq_getElem?_getD, List.getElem?_eq_getElem h]
    rfl
  unfold upTo
  rw [List.set_append_right _ _ (by omega), hk, Nat.sub_self, hd, List.take_succ_eq_append_getElem h, List.map_append]
  simp

/-- The type's variable, the row of the name's bytes. -/
structure UP (w wr : World) (M K : Nat) (x y z : Value) (row : List UInt8) : Prop where
  ms : MS w wr M x y z
  lt : M < K
  klt : K < wr.heap.size
  row : RowB wr K row
namespace UP
variable {w wr w1 : World} {M K : Nat} {x y z : Value} {row : List UInt8}
theorem step (h : UP w wr M K x y z row) (hb : Below wr.heap.size wr w1) : UP w w1 M K x y z row :=
  ⟨h.ms.step hb, h.lt, Nat.lt_of_lt_of_le h.klt hb.size, fun j hj => by
    have h1 := h.row j hj
    rw [hb.cell (p := ⟨K, j, none⟩) h.klt, hb.frozen (p := ⟨K, j, none⟩) h.klt]
    exact h1⟩
theorem put (h : UP w wr M K x y z row) (k : Nat) (hk : k < row.length) (b : UInt8) : UP w (wr.setCell ⟨K, k, none⟩ (.int .u8 b.toNat)) M K x y z (row.set k b) :=
  ⟨⟨h.ms.below.setCell (Nat.le_trans h.ms.ge (Nat.le_of_lt h.lt)) _, h.ms.ge, by rw [Below.heap_setCell _ _ _ _ (Nat.ne_of_lt h.lt)]; exact h.ms.blk⟩, h.lt, by simpa [World.setCell] using h.klt, rowB_set h.row k hk b⟩
theorem conv (h : UP w wr M K x y z row) (cap : Nat) : (convert 34 9 (.slice (some ⟨K, 0, none⟩) row.length cap)).run Tryz.prog wr = .ok (.string (sOf row)) wr := rowB_string h.row cap 9 Tryz.underlying9
end UP

/-- A new Mime's block, behind one call. -/
theorem z25b {w7 w8 : World} (hb : Below (w7.alloc (.cells #[.string ⟨#[]⟩, .string ⟨#[]⟩, .slice none 0 0] 25)).heap.size (w7.alloc (.cells #[.string ⟨#[]⟩, .string ⟨#[]⟩, .slice none 0 0] 25)) w8) :
    w8.heap[w7.heap.size]? = some (.cells #[.string ⟨#[]⟩, .string ⟨#[]⟩, .slice none 0 0] 25 (0, 0)) :=
  (hb.block w7.heap.size (by simp)).trans (heap_alloc_new w7 _)
/-- .. behind two. -/
theorem z25c {w5 w7 w8 : World} (hb7 : Below (w5.alloc (.cells #[.string ⟨#[]⟩, .string ⟨#[]⟩, .slice none 0 0] 25)).drew.heap.size (w5.alloc (.cells #[.string ⟨#[]⟩, .string ⟨#[]⟩, .slice none 0 0] 25)).drew w7) (hb8 : Below w7.heap.size w7 w8) :
    w8.heap[w5.heap.size]? = some (.cells #[.string ⟨#[]⟩, .string ⟨#[]⟩, .slice none 0 0] 25 (0, 0)) :=
  (hb8.block w5.heap.size (by have h := hb7.size; simp at h; omega)).trans (z25 hb7)

/-- The new Mime's block was made ahead of the last call. -/
theorem twoD {w WN w8 : World} {M B : Nat} {a b : Value} {A A5 : Option Addr} {c c5 : Nat} {ps : List Pm} (hm : MS w WN M a b (.slice A ps.length c)) (hr : PRd WN A ps) {x0 x1 x2 : Value}
    (hb : Below WN.heap.size WN w8) (h25 : w8.heap[WN.heap.size]? = some (.cells #[x0, x1, x2] 25 (0, 0))) (ho5 : w8.ownsRow B 36 2 (.slice A5 ps.length c5) ps.length (cellsP ps)) :
    Two w (((w8.setCell ⟨WN.heap.size, 0, none⟩ a).setCell ⟨WN.heap.size, 1, none⟩ b).setCell ⟨WN.heap.size, 2, none⟩ (.slice A5 ps.length c5)) M WN.heap.size a b A A5 c c5 ps := by
  have h1 := hm.step hb
  have hoth : ∀ k, k ≠ WN.heap.size → (((w8.setCell ⟨WN.heap.size, 0, none⟩ a).setCell ⟨WN.heap.size, 1, none⟩ b).setCell ⟨WN.heap.size, 2, none⟩ (.slice A5 ps.length c5)).heap[k]? = w8.heap[k]? := fun k hk => by
    rw [Below.heap_setCell _ _ _ _ hk, Below.heap_setCell _ _ _ _ hk, Below.heap_setCell _ _ _ _ hk]
  have hN : MS w w8 WN.heap.size x0 x1 x2 := ⟨h1.below, hm.below.size, h25⟩
  have hN2 := hN.set a b (.slice A5 ps.length c5)
  have hM : M ≠ WN.heap.size := by have := hm.lt; omega
  have hbW : Below WN.heap.size w8 (((w8.setCell ⟨WN.heap.size, 0, none⟩ a).setCell ⟨WN.heap.size, 1, none⟩ b).setCell ⟨WN.heap.size, 2, none⟩ (.slice A5 ps.length c5)) :=
    (((Below.refl _ w8).setCell (p := ⟨WN.heap.size, 0, none⟩) (Nat.le_refl _) _).setCell (p := ⟨WN.heap.size, 1, none⟩) (Nat.le_refl _) _).setCell (p := ⟨WN.heap.size, 2, none⟩) (Nat.le_refl _) _
  refine ⟨⟨hN2.below, hm.ge, (hoth M hM).trans h1.blk⟩, hN2, hr.below (hb.trans hbW), ?_⟩
  have hk := own_move (w1 := ((w8.setCell ⟨WN.heap.size, 0, none⟩ a).setCell ⟨WN.heap.size, 1, none⟩ b).setCell ⟨WN.heap.size, 2, none⟩ (.slice A5 ps.length c5)) ho5 (fun k hk => hoth k (fun e => by
    obtain ⟨cc, hc⟩ := own_typed ho5 k hk
    rw [e, h25] at hc
    injection hc with hc
    injection hc with _ ht
    exact absurd ht (by decide)))
  obtain ⟨A', c', he, _, hrd⟩ := prd_of_own hk
  injection he with e1 e2 e3
  subst e1
  exact hrd
theorem two1 {w w5 w7 w8 : World} {M B : Nat} {a b : Value} {A A5 : Option Addr} {c c5 : Nat} {ps : List Pm} (hm : MS w w5 M a b (.slice A ps.length c)) (hr : PRd w5 A ps)
    (hb7 : Below w5.drew.heap.size w5.drew w7) (hb8 : Below w7.heap.size w7 w8) (ho5 : w8.ownsRow B 36 2 (.slice A5 ps.length c5) ps.length (cellsP ps)) : Two w (w8.alloc (.cells #[a, b, .slice A5 ps.length c5] 25)) M w8.heap.size a b A A5 c c5 ps := by
  have hb7' : Below w5.heap.size w5 w7 := ⟨hb7.os, hb7.tape, hb7.output, hb7.size, hb7.block⟩
  have hb := hb7'.trans (hb8.mono hb7'.size)
  have h1 := hm.step hb
  have hA : Below w8.heap.size w8 (w8.alloc (.cells #[a, b, .slice A5 ps.length c5] 25)) := (Below.refl _ w8).alloc (Nat.le_refl _) _
  have h2 := h1.step hA
  obtain ⟨A', c', he, _, hrd⟩ := prd_of_own ho5
  injection he with e1 e2 e3
  subst e1
  exact ⟨h2, ⟨h2.below, h1.below.size, heap_alloc_new w8 _⟩, (hr.below hb).below hA, hrd.below hA⟩
theorem two2 {w w5 w7 w8 : World} {M B : Nat} {a b : Value} {A A5 : Option Addr} {c c5 : Nat} {ps : List Pm} (hm : MS w w5 M a b (.slice A ps.length c)) (hr : PRd w5 A ps)
    (hb7 : Below w5.drew.heap.size w5.drew w7) (hb8 : Below (w7.alloc (.cells #[.string ⟨#[]⟩, .string ⟨#[]⟩, .slice none 0 0] 25)).heap.size (w7.alloc (.cells #[.string ⟨#[]⟩, .string ⟨#[]⟩, .slice none 0 0] 25)) w8)
    (ho5 : w8.ownsRow B 36 2 (.slice A5 ps.length c5) ps.length (cellsP ps)) : Two w (((w8.setCell ⟨w7.heap.size, 0, none⟩ a).setCell ⟨w7.heap.size, 1, none⟩ b).setCell ⟨w7.heap.size, 2, none⟩ (.slice A5 ps.length c5)) M w7.heap.size a b A A5 c c5 ps := by
  have hb7' : Below w5.heap.size w5 w7 := ⟨hb7.os, hb7.tape, hb7.output, hb7.size, hb7.block⟩
  have hA : Below w7.heap.size w7 (w7.alloc (.cells #[.string ⟨#[]⟩, .string ⟨#[]⟩, .slice none 0 0] 25)) := (Below.refl _ w7).alloc (Nat.le_refl _) _
  exact twoD (hm.step hb7') (hr.below hb7') (hA.trans (hb8.mono (by simp))) (z25b hb8) ho5
theorem two3 {w w5 w7 w8 : World} {M B : Nat} {a b : Value} {A A5 : Option Addr} {c c5 : Nat} {ps : List Pm} (hm : MS w w5 M a b (.slice A ps.length c)) (hr : PRd w5 A ps)
    (hb7 : Below (w5.alloc (.cells #[.string ⟨#[]⟩, .string ⟨#[]⟩, .slice none 0 0] 25)).drew.heap.size (w5.alloc (.cells #[.string ⟨#[]⟩, .string ⟨#[]⟩, .slice none 0 0] 25)).drew w7) (hb8 : Below w7.heap.size w7 w8)
    (ho5 : w8.ownsRow B 36 2 (.slice A5 ps.length c5) ps.length (cellsP ps)) : Two w (((w8.setCell ⟨w5.heap.size, 0, none⟩ a).setCell ⟨w5.heap.size, 1, none⟩ b).setCell ⟨w5.heap.size, 2, none⟩ (.slice A5 ps.length c5)) M w5.heap.size a b A A5 c c5 ps := by
  have hA : Below w5.heap.size w5 (w5.alloc (.cells #[.string ⟨#[]⟩, .string ⟨#[]⟩, .slice none 0 0] 25)) := (Below.refl _ w5).alloc (Nat.le_refl _) _
  have hs : (w5.alloc (.cells #[.string ⟨#[]⟩, .string ⟨#[]⟩, .slice none 0 0] 25)).heap.size = w5.heap.size + 1 := by simp
  have hs7 : w5.heap.size + 1 ≤ w7.heap.size := by have h := hb7.size; simp at h; omega
  have hb7' : Below (w5.heap.size + 1) (w5.alloc (.cells #[.string ⟨#[]⟩, .string ⟨#[]⟩, .slice none 0 0] 25)) w7 := ⟨hb7.os, hb7.tape, hb7.output, by rw [hs]; exact hs7, fun k hk => hb7.block k (by simp; omega)⟩
  have hb := (hA.trans (hb7'.mono (by omega))).trans (hb8.mono (Nat.le_of_lt hs7))
  exact twoD hm hr hb (z25c hb7 hb8) ho5
end Go.Proofs.YtjmjmnagnbgmfaaGreatDoor

/-! MimeTwice. -/
namespace Go.Proofs.YtjmjmnagnbgmfaaGreatDoor
open Go.RowKit Go.Shelf Go.Lib

set_option maxHeartbeats 16000000 in
set_option maxRecDepth 1000000 in
theorem law7_calls (a b : List UInt8) (A : Option Addr) (c : Nat) (ps : List Pm) (s : List UInt8) (u : Nat) (w : World) (ha : a.length ≤ 140737488351232) (hb : b.length ≤ 140737488351232) (hm2 : Mod2 ps) (hc : ps.length ≤ c) (hr : PRd w A ps) (hu : u < 256) (hT : Tabs w) :
    Calls Tryz.prog 7 #[.agg #[.string (sOf a), .string (sOf b), .slice A ps.length c], .string (sOf s), .int .u8 (u : Int)] w fun e w' => e = .returned (.bool true) ∧ Below w.heap.size w w' := by
  have HP := Lib.hid hr
  have HT := Lib.hid hT
  have HM2 := Lib.hid hm2
  clear hr hT hm2
  have hsz : (sOf s).size = s.length := size_sOf s
  have HS0 : Hid (MS w (w.alloc (.cells #[.string (sOf a), .string (sOf b), .slice A ps.length c] 25)) w.heap.size (.string (sOf a)) (.string (sOf b)) (.slice A ps.length c)) :=
    ⟨(Below.refl _ w).alloc (Nat.le_refl _) _, Nat.le_refl _, heap_alloc_new w _⟩
  go_enter Tryz.func7, Tryz.ntmps7
  go_wp2_with fail
  refine (awake_calls _ (HT.out.below HS0.out.below)).mono ?_
  rintro e w1 ⟨rfl, hb1⟩
  have HS1 := Lib.hid (HS0.out.step hb1)
  clear hb1 HS0
  have c0 := HS1.out.c0
  have c1 := HS1.out.c1
  have c2 := HS1.out.c2
  go_wp2_with fail
  refine (few_calls a b A c ps w1 (HP.out.below HS1.out.below) ha hb HM2.out).mono ?_
  rintro e w2 ⟨rfl, hb2⟩
  have HS2 := Lib.hid (HS1.out.step hb2)
  clear hb2 HS1 c0 c1 c2
  have c0 := HS2.out.c0
  have c1 := HS2.out.c1
  have c2 := HS2.out.c2
  cases hf : fewB (a, b, ps) with
  | false =>
    clear hf
    go_wp2_with fail
    refine (awake_calls _ (HT.out.below HS2.out.below)).mono ?_
    rintro e w3 ⟨rfl, hb3⟩
    have HS3 := Lib.hid (HS2.out.step hb3)
    clear hb3
    go_wp2_with fail
    go_ret
    exact ⟨rfl, HS3.out.below⟩
  | true =>
    obtain ⟨f1, f2, f3⟩ := few_mod hf
    have HMOD := Lib.hid (few_Mod hf)
    have HPL := Lib.hid (print_few hf)
    have HF3 := Lib.hid f3
    clear hf f3
    go_wp2_with fail
    refine (rright_calls a b A c ps w2 (by omega) (by omega) HMOD.out hc (HP.out.below HS2.out.below) (by omega)).mono ?_
    rintro e w3 ⟨rfl, hb3⟩
    have HS3 := Lib.hid (HS2.out.step hb3)
    clear hb3 HS2 c0 c1 c2
    have c0 := HS3.out.c0
    have c1 := HS3.out.c1
    have c2 := HS3.out.c2
    cases hR : rightB (a, b, ps) with
    | false =>
      clear hR
      go_wp2_with fail
      refine (awake_calls _ (HT.out.below HS3.out.below)).mono ?_
      rintro e w4 ⟨rfl, hb4⟩
      have HS4 := Lib.hid (HS3.out.step hb4)
      clear hb4
      go_wp2_with fail
      go_ret
      exact ⟨rfl, HS4.out.below⟩
    | true =>
      by_cases hpl : ps.length = 0
      · have hpi : (ps.length : Int) = 0 := by omega
        clear hR
        go_wp2_with fail
        refine (awake_calls _ (HT.out.below HS3.out.below)).mono ?_
        rintro e w4 ⟨rfl, hb4⟩
        have HS4 := Lib.hid (HS3.out.step hb4)
        clear hb4
        go_wp2_with fail
        go_ret
        exact ⟨rfl, HS4.out.below⟩
      · have hpi : ¬ (ps.length : Int) = 0 := by omega
        have hpe : ¬ ps = [] := fun e => hpl (by rw [e]; rfl)
        have hpb : ((ps.length : Int) == 0) = false := by simpa using hpe
        by_cases h100 : s.length ≤ 100
        · have h5' : ¬ ((100 : Int) < (s.length : Int)) := by omega
          obtain ⟨i, hi⟩ : ∃ i, i = u % ps.length := ⟨_, rfl⟩
          have hil : i < ps.length := by rw [hi]; exact Nat.mod_lt _ (by omega)
          have hrx : (u : Int).tmod (ps.length : Int) = (i : Int) := by
            rw [Int.tmod_eq_emod_of_nonneg (by omega), hi]
            rfl
          have hii : (i : Int) < (ps.length : Int) := by omega
          have h0i : (0 : Int) ≤ (i : Int) := by omega
          have hwu : IntKind.i64.wrap (u : Int) = (u : Int) := by rw [IntKind.wrap_i64]; omega
          obtain ⟨nm, v, hp⟩ : ∃ nm v, ps[i]'hil = (nm, v) := ⟨_, _, rfl⟩
          have hpk : ps[i]? = some (nm, v) := by rw [List.getElem?_eq_getElem hil, hp]
          have hnml := HF3.out (nm, v) (List.mem_of_getElem? hpk)
          simp only at hnml
          have hnm : nm.length ≤ 200 := by omega
          have HNM : Hid (∃ p ∈ ps, p.1 = nm) := ⟨_, List.mem_of_getElem? hpk, rfl⟩
          obtain ⟨bl, off, rfl, hbl, hcells⟩ := HP.out.2 (by omega)
          have HD0 : Hid (∀ W, Below w.heap.size w W → W.cell? ⟨bl, off + i * 2, none⟩ = some (.string (sOf nm))) := fun W hW => by
            have d0 := hcells i (nm, v) hpk 0 _ rfl
            rw [Nat.add_zero] at d0
            exact (hW.cell hbl).trans d0
          have HR := Lib.hid hR
          clear hR hcells hpk hp hi hnml HF3 HM2
          have d0 := HD0.out _ HS3.out.below
          have hB3 : Below w3.heap.size w3 (Lib.bytesWorld w3.drew 5 (sOf nm)) := Below.trans (b := w3.drew) ⟨rfl, rfl, rfl, Nat.le_refl _, fun _ _ => rfl⟩ ⟨rfl, rfl, rfl, by rw [Lib.bytesWorld_size]; simp, fun k hk => Lib.bytesWorld_at_old w3.drew 5 (sOf nm) k hk⟩
          have HS4 := Lib.hid (HS3.out.step hB3)
          have e2 := HS4.out.c2
          have e0 := HD0.out _ HS4.out.below
          have kb := Lib.run_convert_string_bytes (P := Tryz.prog) w3.drew 9 34 5 (sOf nm) Tryz.underlying9 Tryz.underlying34 Tryz.underlying5
          have hrow := rowB_new w3.drew (sOf nm)
          rw [data_sOf] at hrow
          have HUP : Hid (UP w (Lib.bytesWorld w3.drew 5 (sOf nm)) w.heap.size w3.heap.size (.string (sOf a)) (.string (sOf b)) (.slice (some ⟨bl, off, none⟩) ps.length c) (upTo nm 0)) :=
            { ms := HS4.out, lt := HS3.out.lt, klt := by rw [Lib.bytesWorld_size]; simp, row := by rw [upTo_zero]; exact hrow }
          generalize hcap : grownCap w3.drew (sOf nm).size 0 5 = cap at kb
          have hsn : (sOf nm).size = nm.length := size_sOf nm
          clear hB3 hrow hcap
          go_wp2
          go_still_tail 11, (by kernel_rfl)
          change wpList _ _ _ _ _ w3.drew
          go_wp2
          generalize Lib.bytesWorld w3.drew 5 (sOf nm) = W5 at HUP ⊢
          generalize w3.heap.size = K at HUP ⊢
          clear kb e2 e0 d0 c0 c1 c2 HS4 HS3 hrx hii h0i hwu hsn
          go_loopg [50] nm.length (fun g i wr => ∃ k : Nat, nm.length - k = g ∧ k ≤ nm.length ∧ i = .int .i64 k ∧ Hid (UP w wr w.heap.size K (.string (sOf a)) (.string (sOf b)) (.slice (some ⟨bl, off, none⟩) ps.length c) (upTo nm k)))
          case atStart => exact ⟨0, by omega, by omega, rfl, HUP⟩
          case round =>
            clear HUP
            obtain ⟨k, rfl, hk, rfl, HK⟩ := hrel
            by_cases hlt : k < nm.length
            · have hki : (k : Int) < (nm.length : Int) := by omega
              have hc8 := HK.out.row k (by rw [upTo_length]; omega)
              have hv8 : nat8 (upTo nm k) k = nat8 nm k := by unfold nat8; rw [upTo_at nm k (by omega)]
              rw [hv8] at hc8
              obtain ⟨hc1, hf1⟩ := hc8
              have hbd := nat8_bd nm k
              clear hv8
              have HX : Hid (nat8 nm k = ((nm.getD k 0).toNat : Int)) := rfl
              generalize nat8 nm k = x at hc1 hbd HX
              by_cases h1 : 97 ≤ x ∧ x ≤ 122
              · obtain ⟨hxa, hxb⟩ := h1
                have hne : (upB (nm.getD k 0)).toNat = (x - 32).toNat := by
                  rw [up_nat, if_pos (by have := HX.out; omega)]
                  have := HX.out
                  omega
                have hset := HK.out.put k (by rw [upTo_length]; omega) (upB (nm.getD k 0))
                rw [← upTo_succ nm k (by omega), hne, show (((x - 32).toNat : Nat) : Int) = x - 32 by omega] at hset
                have HS := Lib.hid hset
                clear hset hne
                go_wp2
                go_roundg (nm.length - (k + 1))
                case measure => omega
                case rel => exact ⟨k + 1, rfl, by omega, by go_num, HS⟩
              · have hne : upB (nm.getD k 0) = nm.getD k 0 := by
                  unfold upB
                  rw [if_neg (by have := HX.out; omega)]
                have hst : UP w wr w.heap.size K (.string (sOf a)) (.string (sOf b)) (.slice (some ⟨bl, off, none⟩) ps.length c) (upTo nm (k + 1)) := by
                  rw [upTo_succ nm k (by omega), hne]
                  have : (upTo nm k).set k (nm.getD k 0) = upTo nm k := by
                    rw [← upTo_at nm k (by omega)]
                    rw [List.getD_eq_getElem?_getD, List.getElem?_eq_getElem (by rw [upTo_length]; omega)]
                    simp
                  rw [this]
                  exact HK.out
                have HS := Lib.hid hst
                clear hst hne
                by_cases hxa : 97 ≤ x
                all_goals
                  go_wp2
                  go_roundg (nm.length - (k + 1))
                  case measure => omega
                  case rel => exact ⟨k + 1, rfl, by omega, by go_num, HS⟩
            · obtain rfl : k = nm.length := by omega
              have hki : ¬ ((nm.length : Int) < (nm.length : Int)) := by omega
              have HU : Hid (UP w wr w.heap.size K (.string (sOf a)) (.string (sOf b)) (.slice (some ⟨bl, off, none⟩) ps.length c) (up nm)) := by
                have h := HK.out
                rw [upTo_all] at h
                exact h
              clear HK
              go_wp2
              go_loopg [76] s.length (fun g j wr2 => ∃ q : Nat, s.length - q = g ∧ q ≤ s.length ∧ j = .int .i64 q ∧ Hid (∀ b ∈ s.take q, b ≠ 59 ∧ b ≠ 34) ∧ wr = wr2)
              case atStart => exact ⟨0, by omega, by omega, rfl, (fun b hb => by simp at hb), rfl⟩
              case round =>
                obtain ⟨q, rfl, hq, rfl, HQ, rfl⟩ := hrel
                by_cases hltq : q < s.length
                · have hqi : (q : Int) < (s.length : Int) := by omega
                  obtain ⟨t, ht⟩ : ∃ t, s[q]'hltq = t := ⟨_, rfl⟩
                  have htk : ∀ h, (sOf s)[q]'h = t := fun h => by rw [← ht]; rfl
                  have ht256 := t.toNat_lt
                  obtain ⟨n, hn⟩ : ∃ n : Int, (t.toNat : Int) = n := ⟨_, rfl⟩
                  have HTK : Hid (s.take (q + 1) = s.take q ++ [t]) := by
                    show _ = _
                    rw [List.take_succ_eq_append_getElem hltq, ht]
                  clear ht
                  by_cases h59 : t = 59
                  · have hi59 : n = 59 := by rw [← hn, h59]; rfl
                    clear h59 HTK
                    go_wp2
                    go_ret
                    exact ⟨rfl, HU.out.ms.below⟩
                  · have hn59 : ¬ n = 59 := fun e => h59 (UInt8.toNat_inj.1 (show t.toNat = 59 by omega))
                    have hn59b : (n == 59) = false := by simpa using hn59
                    by_cases h34 : t = 34
                    · have hi34 : n = 34 := by rw [← hn, h34]; rfl
                      clear h59 h34 HTK
                      go_wp2
                      go_ret
                      exact ⟨rfl, HU.out.ms.below⟩
                    · have hn34 : ¬ n = 34 := fun e => h34 (UInt8.toNat_inj.1 (show t.toNat = 34 by omega))
                      have hn34b : (n == 34) = false := by simpa using hn34
                      have HQ2 : Hid (∀ b ∈ s.take (q + 1), b ≠ 59 ∧ b ≠ 34) := by
                        intro b hb
                        rw [HTK.out] at hb
                        rcases List.mem_append.1 hb with hb | hb
                        · exact HQ.out b hb
                        · rw [List.mem_singleton] at hb
                          rw [hb]
                          exact ⟨h59, h34⟩
                      clear h59 h34 HTK
                      go_wp2
                      go_roundg (s.length - (q + 1))
                      case measure => omega
                      case rel => exact ⟨q + 1, rfl, by omega, by go_num, HQ2, rfl⟩
                · obtain rfl : q = s.length := by omega
                  have hqi : ¬ ((s.length : Int) < (s.length : Int)) := by omega
                  have hsall : ∀ b ∈ s, b ≠ 59 ∧ b ≠ 34 := by
                    have h := HQ.out
                    rw [List.take_of_length_le (Nat.le_refl _)] at h
                    exact h
                  have htw := twice_law (a, b, ps) HR.out nm s HNM.out hsall
                  have hul : (up nm).length = nm.length := by simp [up]
                  have hplen := HPL.out
                  have CQ0 : ∀ W, Tabs W → Calls Tryz.prog 10 #[.string (sOf (printB (a, b, ps) ++ 59 :: (up nm ++ 61 :: s)))] W fun e w' => ∃ v, e = .returned (.tuple #[.agg #[.string (sOf a), .string (sOf b), v], .bool true]) ∧ w'.ownsRow W.heap.size 36 2 v ps.length (cellsP ps) ∧ Below W.heap.size W w' := fun W hW => by
                    have h := parse_calls (printB (a, b, ps) ++ 59 :: (up nm ++ 61 :: s)) W (by simp only [List.length_append, List.length_cons]; omega) hW
                    rw [htw] at h
                    exact h
                  have hX : sOf (printB (a, b, ps) ++ 59 :: (up nm ++ 61 :: s)) = sOf (printB (a, b, ps)) ++ ⟨#[59]⟩ ++ sOf (up nm) ++ ⟨#[61]⟩ ++ sOf s := by
                    have e : printB (a, b, ps) ++ 59 :: (up nm ++ 61 :: s) = printB (a, b, ps) ++ [59] ++ up nm ++ [61] ++ s := by simp
                    rw [e, ← sOf_app, ← sOf_app, ← sOf_app, ← sOf_app]
                    rfl
                  rw [hX] at CQ0
                  have CQ := Lib.hid CQ0
                  have HCV0 : ∀ W, UP w W w.heap.size K (.string (sOf a)) (.string (sOf b)) (.slice (some ⟨bl, off, none⟩) ps.length c) (up nm) → (convert 34 9 (.slice (some ⟨K, 0, none⟩) nm.length cap)).run Tryz.prog W = .ok (.string (sOf (up nm))) W := fun W h => by
                    have h2 := h.conv cap
                    rw [hul] at h2
                    exact h2
                  have HCV := Lib.hid HCV0
                  have CP := Lib.hid (fun (W : World) (hW : PRd W (some ⟨bl, off, none⟩) ps) => print_calls a b (some ⟨bl, off, none⟩) c ps W (by omega) (by omega) HMOD.out hW (by omega))
                  have es1 : (sOf (printB (a, b, ps))).size ≤ 30000 := by rw [size_sOf]; exact hplen
                  have es2 : (sOf (up nm)).size ≤ 200 := by rw [size_sOf, hul]; exact hnm
                  have es3 : (sOf s).size ≤ 100 := by rw [hsz]; exact h100
                  clear hX CQ0 HCV0 htw hsall hul hplen HQ HR HNM HPL HD0
                  have g1 : ¬ 9223372036854775807 < (sOf (printB (a, b, ps))).size + 1 := by omega
                  have g2 : ¬ 9223372036854775807 < (sOf (printB (a, b, ps))).size + 1 + (sOf (up nm)).size := by omega
                  have g3 : ¬ 9223372036854775807 < (sOf (printB (a, b, ps))).size + 1 + (sOf (up nm)).size + 1 := by omega
                  have g4 : ¬ 9223372036854775807 < (sOf (printB (a, b, ps))).size + 1 + (sOf (up nm)).size + 1 + (sOf s).size := by omega
                  have g5 : ¬ 9223372036854775807 < (sOf (printB (a, b, ps))).size + 1 + (sOf (up nm)).size + 1 + s.length := by omega
                  have HU6 : Hid (UP w wr.drew w.heap.size K (.string (sOf a)) (.string (sOf b)) (.slice (some ⟨bl, off, none⟩) ps.length c) (up nm)) := HU.out.step ⟨rfl, rfl, rfl, Nat.le_refl _, fun _ _ => rfl⟩
                  have HU6a : Hid (UP w (wr.alloc (.cells #[.string ⟨#[]⟩, .string ⟨#[]⟩, .slice none 0 0] 25)).drew w.heap.size K (.string (sOf a)) (.string (sOf b)) (.slice (some ⟨bl, off, none⟩) ps.length c) (up nm)) := HU.out.step (((Below.refl _ wr).alloc (Nat.le_refl _) _).drew)
                  have cv6 := HCV.out _ HU6.out
                  have cv6a := HCV.out _ HU6a.out
                  have HP6 := Lib.hid (HP.out.below HU6.out.ms.below)
                  have HP6a := Lib.hid (HP.out.below HU6a.out.ms.below)
                  have HPR := Lib.hid (HP.out.below HU.out.ms.below)
                  have HMS := Lib.hid HU.out.ms
                  generalize sOf (printB (a, b, ps)) = E at *
                  generalize sOf (up nm) = F at *
                  have c0 := HMS.out.c0
                  have c1 := HMS.out.c1
                  have c2 := HMS.out.c2
                  have c06 := HU6.out.ms.c0
                  have c16 := HU6.out.ms.c1
                  have c26 := HU6.out.ms.c2
                  have c06a := HU6a.out.ms.c0
                  have c16a := HU6a.out.ms.c1
                  have c26a := HU6a.out.ms.c2
                  clear es1 es2 es3
                  go_wp2
                  first | go_region_with (first | (go_at_call 16; refine Calls.mono (CP.out _ (by first | exact HP6.out | exact HP6a.out)) ?_; rintro e w7 ⟨rfl, hb7⟩; have HU7 : Hid (UP w w7 w.heap.size K (.string (sOf a)) (.string (sOf b)) (.slice (some ⟨bl, off, none⟩) ps.length c) (up nm)) := (by first | exact HU6.out.step hb7 | exact HU6a.out.step hb7); have HU7a : Hid (UP w (w7.alloc (.cells #[.string ⟨#[]⟩, .string ⟨#[]⟩, .slice none 0 0] 25)) w.heap.size K (.string (sOf a)) (.string (sOf b)) (.slice (some ⟨bl, off, none⟩) ps.length c) (up nm)) := HU7.out.step ((Below.refl _ w7).alloc (Nat.le_refl _) _); have cv7 := HCV.out w7 HU7.out; have cv7a := HCV.out _ HU7a.out; have HT7 := Lib.hid (HT.out.below HU7.out.ms.below); have HT7a := Lib.hid (HT.out.below HU7a.out.ms.below)) | (go_at_call 10; refine Calls.mono (CQ.out _ (by first | exact HT7.out | exact HT7a.out)) ?_; rintro e w8 ⟨v8, rfl, hown8, hb8⟩; obtain ⟨A8, c8, rfl, hc8, hrd8⟩ := prd_of_own hown8; first | (have hz := z25b hb8; have z0 := cell_of_heap hz 0; have z1 := cell_of_heap hz 1; have z2 := cell_of_heap hz 2; have zf := frozen_of_heap hz; simp only [List.getElem?_toArray, List.getElem?_cons_zero, List.getElem?_cons_succ] at z0 z1 z2; clear hz) | (have hz := z25c hb7 hb8; have z0 := cell_of_heap hz 0; have z1 := cell_of_heap hz 1; have z2 := cell_of_heap hz 2; have zf := frozen_of_heap hz; simp only [List.getElem?_toArray, List.getElem?_cons_zero, List.getElem?_cons_succ] at z0 z1 z2; clear hz) | skip)) | fail
                  all_goals
                    first
                      | (have HE := Lib.hid (two1 (c5 := c8) HMS.out HPR.out hb7 hb8 hown8))
                      | (have HE := Lib.hid (two2 (c5 := c8) HMS.out HPR.out hb7 hb8 hown8))
                      | (have HE := Lib.hid (two3 (c5 := c8) HMS.out HPR.out hb7 hb8 hown8))
                    have y0 := HE.out.m.c0
                    have y1 := HE.out.m.c1
                    have y2 := HE.out.m.c2
                    have k0 := HE.out.n.c0
                    have k1 := HE.out.n.c1
                    have k2 := HE.out.n.c2
                    have CS := Lib.hid (same_calls (a, b, ps) (a, b, ps) A8 (some ⟨bl, off, none⟩) c8 c _ HE.out.rn hc8 HE.out.rm hc)
                    rw [decide_eq_true rfl] at CS
                    go_wp2_with fail
                    refine Calls.mono CS.out ?_
                    rintro e w9 ⟨rfl, hb9⟩
                    have HB9 := Lib.hid (HE.out.m.below.trans (hb9.mono HE.out.m.below.size))
                    clear hb9
                    go_wp2_with fail
                    go_ret
                    exact ⟨rfl, HB9.out⟩
        · have h5' : (100 : Int) < (s.length : Int) := by omega
          clear hR
          go_wp2_with fail
          refine (awake_calls _ (HT.out.below HS3.out.below)).mono ?_
          rintro e w4 ⟨rfl, hb4⟩
          have HS4 := Lib.hid (HS3.out.step hb4)
          clear hb4
          go_wp2_with fail
          go_ret
          exact ⟨rfl, HS4.out.below⟩
end Go.Proofs.YtjmjmnagnbgmfaaGreatDoor
