import Derived.Test.YtjmjmnagnbgmfaaGreatDoorS23
import Derived.Deep.RegionWith
/-! MimeBlanks. -/
namespace Go.Proofs.YtjmjmnagnbgmfaaGreatDoor
open Go.RowKit Go.Shelf Go.Lib

theorem all_app {l q cs : List UInt8} (hq : ∀ b ∈ q, cs.contains b = true) : Lib.trimRightS (l ++ q) cs = Lib.trimRightS l cs := by
  unfold Lib.trimRightS
  rw [List.reverse_append, List.dropWhile_append_of_pos (by intro b hb; exact hq b (List.mem_reverse.1 hb))]
theorem all_pre {l p cs : List UInt8} (hp : ∀ b ∈ p, cs.contains b = true) : Lib.trimS (p ++ l) cs = Lib.trimS l cs := by
  unfold Lib.trimS Lib.trimRightS Lib.trimLeftS
  rw [List.reverse_append, List.dropWhile_append]
  split
  · rename_i h
    rw [List.isEmpty_iff] at h
    have h2 : List.dropWhile (fun x => cs.contains x) p.reverse = [] := by
      have := List.dropWhile_append_of_pos (p := fun x => cs.contains x) (l₁ := p.reverse) (l₂ := []) (by intro b hb; exact hp b (List.mem_reverse.1 hb))
      simpa using this
    rw [h, h2]
  · rw [List.reverse_append, List.reverse_reverse, List.dropWhile_append_of_pos (fun b hb => hp b hb)]
theorem trim_both {l p q : List UInt8} (hp : ∀ b ∈ p, blanks.contains b = true) (hq : ∀ b ∈ q, blanks.contains b = true) : Lib.trimS (p ++ l ++ q) blanks = Lib.trimS l blanks := by
  rw [← all_pre (l := l) hp]
  unfold Lib.trimS
  rw [all_app hq]
theorem parse_both {l p q : List UInt8} (hp : ∀ b ∈ p, blanks.contains b = true) (hq : ∀ b ∈ q, blanks.contains b = true) : parseB (p ++ l ++ q) = parseB l := by
  have h : namesB (p ++ l ++ q) = namesB l := by
    unfold namesB
    rw [trim_both hp hq]
  unfold parseB
  rw [h]

def endS : Nat → List UInt8
  | 1 => [32]
  | 2 => [9]
  | 3 => [13, 10]
  | _ => []
theorem endS_all (k : Nat) : ∀ b ∈ endS k, blanks.contains b = true := by
  match k with
  | 0 => decide
  | 1 => decide
  | 2 => decide
  | 3 => decide
  | k + 4 => intro b hb; cases hb
theorem endS_len (k : Nat) : (endS k).length ≤ 2 := by
  match k with
  | 0 => decide
  | 1 => decide
  | 2 => decide
  | 3 => decide
  | k + 4 => exact Nat.zero_le _

/-- A new Mime's block, behind a call. -/
theorem z25 {w w5 : World} (hb : Below (w.alloc (.cells #[.string ⟨#[]⟩, .string ⟨#[]⟩, .slice none 0 0] 25)).drew.heap.size (w.alloc (.cells #[.string ⟨#[]⟩, .string ⟨#[]⟩, .slice none 0 0] 25)).drew w5) :
    w5.heap[w.heap.size]? = some (.cells #[.string ⟨#[]⟩, .string ⟨#[]⟩, .slice none 0 0] 25 (0, 0)) :=
  (hb.block w.heap.size (by simp)).trans (heap_alloc_new w _)

/-- Two types in blocks of their own. -/
structure Two (w W : World) (M N : Nat) (a b : Value) (A A5 : Option Addr) (c c5 : Nat) (ps : List Pm) : Prop where
  m : MS w W M a b (.slice A ps.length c)
  n : MS w W N a b (.slice A5 ps.length c5)
  rm : PRd W A ps
  rn : PRd W A5 ps
theorem twoA {w W1 w5 : World} {M : Nat} {a b : Value} {A A5 : Option Addr} {c c5 : Nat} {ps : List Pm} (hm : MS w W1 M a b (.slice A ps.length c)) (hr : PRd W1 A ps)
    (hb : Below W1.drew.heap.size W1.drew w5) (hr5 : PRd w5 A5 ps) : Two w (w5.alloc (.cells #[a, b, .slice A5 ps.length c5] 25)) M w5.heap.size a b A A5 c c5 ps := by
  have hb' : Below W1.heap.size W1 w5 := ⟨hb.os, hb.tape, hb.output, hb.size, hb.block⟩
  have h1 := hm.step hb'
  have hA : Below w5.heap.size w5 (w5.alloc (.cells #[a, b, .slice A5 ps.length c5] 25)) := (Below.refl _ w5).alloc (Nat.le_refl _) _
  have h2 := h1.step hA
  exact ⟨h2, ⟨h2.below, h1.below.size, heap_alloc_new w5 _⟩, (hr.below hb').below hA, hr5.below hA⟩
theorem twoB {w W1 w5 : World} {M : Nat} {a b : Value} {A A5 : Option Addr} {c c5 : Nat} {ps : List Pm} (hm : MS w W1 M a b (.slice A ps.length c)) (hr : PRd W1 A ps) {x0 x1 x2 : Value}
    (hb : Below (W1.alloc (.cells #[x0, x1, x2] 25)).drew.heap.size (W1.alloc (.cells #[x0, x1, x2] 25)).drew w5) (ho5 : w5.ownsRow (W1.alloc (.cells #[x0, x1, x2] 25)).drew.heap.size 36 2 (.slice A5 ps.length c5) ps.length (cellsP ps)) :
    Two w (((w5.setCell ⟨W1.heap.size, 0, none⟩ a).setCell ⟨W1.heap.size, 1, none⟩ b).setCell ⟨W1.heap.size, 2, none⟩ (.slice A5 ps.length c5)) M W1.heap.size a b A A5 c c5 ps := by
  have hs : (W1.alloc (.cells #[x0, x1, x2] 25)).drew.heap.size = W1.heap.size + 1 := by simp
  have hbA : Below W1.heap.size W1 (W1.alloc (.cells #[x0, x1, x2] 25)) := (Below.refl _ W1).alloc (Nat.le_refl _) _
  have hb2 : Below (W1.heap.size + 1) (W1.alloc (.cells #[x0, x1, x2] 25)) w5 := ⟨hb.os, hb.tape, hb.output, by have := hb.size; rw [hs] at this; simpa using this, fun k hk => hb.block k (by omega)⟩
  have hb' : Below W1.heap.size W1 w5 := hbA.trans (hb2.mono (by omega))
  have h1 := hm.step hb'
  have h25 : w5.heap[W1.heap.size]? = some (.cells #[x0, x1, x2] 25 (0, 0)) := (hb2.block _ (by omega)).trans (heap_alloc_new W1 _)
  have hoth : ∀ k, k ≠ W1.heap.size → (((w5.setCell ⟨W1.heap.size, 0, none⟩ a).setCell ⟨W1.heap.size, 1, none⟩ b).setCell ⟨W1.heap.size, 2, none⟩ (.slice A5 ps.length c5)).heap[k]? = w5.heap[k]? := fun k hk => by
    rw [Below.heap_setCell _ _ _ _ hk, Below.heap_setCell _ _ _ _ hk, Below.heap_setCell _ _ _ _ hk]
  have hsz : (((w5.setCell ⟨W1.heap.size, 0, none⟩ a).setCell ⟨W1.heap.size, 1, none⟩ b).setCell ⟨W1.heap.size, 2, none⟩ (.slice A5 ps.length c5)).heap.size = w5.heap.size := by simp
  have hN : MS w w5 W1.heap.size x0 x1 x2 := ⟨h1.below, hm.below.size, h25⟩
  have hN2 := hN.set a b (.slice A5 ps.length c5)
  have hM : M ≠ W1.heap.size := by have := hm.lt; omega
  have hbW : Below W1.heap.size w5 (((w5.setCell ⟨W1.heap.size, 0, none⟩ a).setCell ⟨W1.heap.size, 1, none⟩ b).setCell ⟨W1.heap.size, 2, none⟩ (.slice A5 ps.length c5)) :=
    (((Below.refl _ w5).setCell (p := ⟨W1.heap.size, 0, none⟩) (Nat.le_refl _) _).setCell (p := ⟨W1.heap.size, 1, none⟩) (Nat.le_refl _) _).setCell (p := ⟨W1.heap.size, 2, none⟩) (Nat.le_refl _) _
  refine ⟨⟨hN2.below, hm.ge, (hoth M hM).trans h1.blk⟩, hN2, hr.below (hb'.trans hbW), ?_⟩
  have hk := ho5.kept (row := some W1.heap.size) (w' := ((w5.setCell ⟨W1.heap.size, 0, none⟩ a).setCell ⟨W1.heap.size, 1, none⟩ b).setCell ⟨W1.heap.size, 2, none⟩ (.slice A5 ps.length c5))
    ⟨rfl, rfl, rfl, by simp, fun k _ hk => hoth k (fun e => hk (by rw [e]))⟩ (by
      rcases ho5.2 with ⟨h', _⟩ | ⟨g, cap, cur, h', hg, _⟩
      · left
        rw [h']
        rfl
      · right
        rw [h']
        simp only [Value.ownBlock]
        intro e
        injection e with e
        omega)
  obtain ⟨A', c', he, _, hrd⟩ := prd_of_own hk
  injection he with e1 e2 e3
  subst e1
  exact hrd

set_option maxHeartbeats 8000000 in
set_option maxRecDepth 1000000 in
theorem law6_calls (l : List UInt8) (x y : Nat) (w : World) (hx : x < 256) (hy : y < 256) (hT : Tabs w) :
    Calls Tryz.prog 6 #[.string (sOf l), .int .u8 (x : Int), .int .u8 (y : Int)] w fun e w' => e = .returned (.bool true) ∧ Below w.heap.size w w' := by
  have HT := Lib.hid hT
  have hsz : (sOf l).size = l.length := size_sOf l
  by_cases h5 : l.length ≤ 500
  · have h5' : ¬ ((500 : Int) < (l.length : Int)) := by omega
    have hl : l.length ≤ 1000000 := by omega
    go_enter Tryz.func6, Tryz.ntmps6
    go_wp2_with fail
    refine (awake_calls w HT.out).mono ?_
    rintro e w1 ⟨rfl, hb1⟩
    have HB1 := Lib.hid hb1
    clear hb1
    go_wp2_with fail
    have hA : Below w1.heap.size w1 (w1.alloc (.cells #[.string ⟨#[]⟩, .string ⟨#[32]⟩, .string ⟨#[9]⟩, .string ⟨#[13, 10]⟩] 9)) := (Below.refl _ w1).alloc (Nat.le_refl _) _
    have HLB : Hid ((w1.alloc (.cells #[.string ⟨#[]⟩, .string ⟨#[32]⟩, .string ⟨#[9]⟩, .string ⟨#[13, 10]⟩] 9)).heap[w1.heap.size]? = some (.cells #[.string ⟨#[]⟩, .string ⟨#[32]⟩, .string ⟨#[9]⟩, .string ⟨#[13, 10]⟩] 9 (0, 0))) := heap_alloc_new w1 _
    refine (parse_calls l _ hl (HT.out.below (HB1.out.trans (hA.mono HB1.out.size)))).mono ?_
    rintro e w2 ⟨v, rfl, hown, hb2⟩
    obtain ⟨A, c, rfl, hc, hrd⟩ := prd_of_own hown
    clear hown
    have hLB2 : w2.heap[w1.heap.size]? = some (.cells #[.string ⟨#[]⟩, .string ⟨#[32]⟩, .string ⟨#[9]⟩, .string ⟨#[13, 10]⟩] 9 (0, 0)) := (hb2.block _ (by simp)).trans HLB.out
    have hL2 : w1.heap.size < w2.heap.size := by have := hb2.size; simp at this; omega
    have HB2 : Hid (Below w.heap.size w w2) := HB1.out.trans ((hA.trans (hb2.mono (by simp))).mono HB1.out.size)
    have hLc : ∀ k, k < 4 → w2.cell? ⟨w1.heap.size, k, none⟩ = some (.string (sOf (endS k))) := by
      intro k hk
      simp only [World.cell?, hLB2]
      match k, hk with
      | 0, _ => rfl
      | 1, _ => rfl
      | 2, _ => rfl
      | 3, _ => rfl
    have HM1 : Hid (MS w (w2.alloc (.cells #[.string (sOf (parseB l).1.1), .string (sOf (parseB l).1.2.1), .slice A (parseB l).1.2.2.length c] 25)) w2.heap.size (.string (sOf (parseB l).1.1)) (.string (sOf (parseB l).1.2.1)) (.slice A (parseB l).1.2.2.length c)) := ⟨HB2.out.alloc HB2.out.size _, HB2.out.size, heap_alloc_new w2 _⟩
    have HR1 := Lib.hid (hrd.below ((Below.refl _ w2).alloc (Nat.le_refl _) (.cells #[.string (sOf (parseB l).1.1), .string (sOf (parseB l).1.2.1), .slice A (parseB l).1.2.2.length c] 25)))
    have hp0 := parse_both (l := l) (endS_all (x % 4)) (endS_all (y % 4))
    have hlen : (endS (x % 4) ++ l ++ endS (y % 4)).length ≤ 1000000 := by
      have := endS_len (x % 4)
      have := endS_len (y % 4)
      simp only [List.length_append]
      omega
    have CP := fun w hT => parse_calls (endS (x % 4) ++ l ++ endS (y % 4)) w hlen hT
    rw [hp0, ← sOf_app, ← sOf_app] at CP
    have CP := Lib.hid CP
    clear hp0 hlen hA HLB hb2 hLB2 hrd
    generalize parseB l = M at *
    obtain ⟨⟨a, b, ps⟩, ok⟩ := M
    simp only at *
    have hxa : x % 4 < 4 := Nat.mod_lt _ (by decide)
    have hya : y % 4 < 4 := Nat.mod_lt _ (by decide)
    have d0 := hLc _ hxa
    have d1 := hLc _ hya
    have hs0 : (sOf (endS (x % 4))).size ≤ 2 := by rw [size_sOf]; exact endS_len _
    have hs1 : (sOf (endS (y % 4))).size ≤ 2 := by rw [size_sOf]; exact endS_len _
    have hrx : (x : Int).tmod 4 = ((x % 4 : Nat) : Int) := by rw [Int.tmod_eq_emod_of_nonneg (by omega)]; omega
    have hry : (y : Int).tmod 4 = ((y % 4 : Nat) : Int) := by rw [Int.tmod_eq_emod_of_nonneg (by omega)]; omega
    have hg1 : ¬ 9223372036854775807 < (sOf (endS (x % 4))).size + l.length := by omega
    have hg2 : ¬ 9223372036854775807 < (sOf (endS (x % 4))).size + l.length + (sOf (endS (y % 4))).size := by omega
    clear hLc
    generalize x % 4 = xa at *
    generalize y % 4 = ya at *
    have kx : decide ((xa : Int) < 4) = true := by simp; omega
    have ky : decide ((ya : Int) < 4) = true := by simp; omega
    have jx : (xa : Int) < 4 := by omega
    have jy : (ya : Int) < 4 := by omega
    go_wp2_with fail
    have hT5 : Hid (Tabs (w2.alloc (.cells #[.string (sOf a), .string (sOf b), .slice A ps.length c] 25)).drew) := HT.out.below HM1.out.below.drew
    have hT6 : Hid (Tabs ((w2.alloc (.cells #[.string (sOf a), .string (sOf b), .slice A ps.length c] 25)).alloc (.cells #[.string ⟨#[]⟩, .string ⟨#[]⟩, .slice none 0 0] 25)).drew) := HT.out.below ((HM1.out.below.alloc HM1.out.below.size _).drew)
    have hs3 : (w2.alloc (.cells #[.string (sOf a), .string (sOf b), .slice A ps.length c] 25)).heap.size = w2.heap.size + 1 := by simp
    go_region_with (go_at_call 10; refine (CP.out _ (by first | exact hT5.out | exact hT6.out)).mono ?_; rintro e w5 ⟨v5, rfl, hown5, hb5⟩; obtain ⟨A5, c5, rfl, hc5, hrd5⟩ := prd_of_own hown5; first | (have hz := z25 hb5; rw [hs3] at hz; have z0 := cell_of_heap hz 0; have z1 := cell_of_heap hz 1; have z2 := cell_of_heap hz 2; have zf := frozen_of_heap hz; simp only [List.getElem?_toArray, List.getElem?_cons_zero, List.getElem?_cons_succ] at z0 z1 z2; clear hz) | skip)
    all_goals
      first
        | (have HE := Lib.hid (twoA (c5 := c5) HM1.out HR1.out hb5 hrd5))
        | (have HE := Lib.hid (twoB (c5 := c5) HM1.out HR1.out hb5 hown5); rw [hs3] at HE)
      have g0 := HE.out.m.c0
      have g1 := HE.out.m.c1
      have g2 := HE.out.m.c2
      have k0 := HE.out.n.c0
      have k1 := HE.out.n.c1
      have k2 := HE.out.n.c2
      have CS := Lib.hid (same_calls (a, b, ps) (a, b, ps) A A5 c c5 _ HE.out.rm hc HE.out.rn hc5)
      rw [decide_eq_true rfl] at CS
      go_wp2_with fail
      refine Calls.mono CS.out ?_
      rintro e w6 ⟨rfl, hb6⟩
      have HB6 := Lib.hid (HE.out.m.below.trans (hb6.mono HE.out.m.below.size))
      clear hb6
      go_wp2_with fail
      go_ret
      exact ⟨rfl, HB6.out⟩
  · have h5' : (500 : Int) < (l.length : Int) := by omega
    go_enter Tryz.func6, Tryz.ntmps6
    go_wp2_with fail
    refine (awake_calls w HT.out).mono ?_
    rintro e w1 ⟨rfl, hb1⟩
    have HB1 := Lib.hid hb1
    clear hb1
    go_wp2_with fail
    refine (awake_calls w1 (HT.out.below HB1.out)).mono ?_
    rintro e w2 ⟨rfl, hb2⟩
    have HB2 := Lib.hid (HB1.out.trans (hb2.mono HB1.out.size))
    clear hb2
    go_wp2_with fail
    go_ret
    exact ⟨rfl, HB2.out⟩
end Go.Proofs.YtjmjmnagnbgmfaaGreatDoor
