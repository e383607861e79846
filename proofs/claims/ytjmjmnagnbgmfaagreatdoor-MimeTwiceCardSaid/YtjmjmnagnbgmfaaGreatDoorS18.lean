import Derived.Test.YtjmjmnagnbgmfaaGreatDoorS14
import Derived.Test.YtjmjmnagnbgmfaaGreatDoorS3
import Derived.Laws.MakeOwn
import Derived.Deep.WholeRow
import Derived.Lib.AtoiErrMem
/-! strings.Replacer.build of token.Quote's four texts. -/
namespace Go.Proofs.YtjmjmnagnbgmfaaGreatDoor
open Go.Lib Go.Shelf Go.RowKit

theorem blkSet {w : World} {g : Nat} {t : TypeId} {cs : Array Value} (h : w.heap[g]? = some (.cells cs t (0, 0))) (i : Nat) (u : Value) : (w.setCell ⟨g, i, none⟩ u).heap[g]? = some (.cells (cs.setIfInBounds i u) t (0, 0)) := by
  simp [World.setCell, Array.getElem?_modify, h]

structure Olds (w : World) (b q : Nat) (c : Nat) : Prop where
  bl : b < w.heap.size
  ql : q < w.heap.size
  sl : w.cell? ⟨b, 4, none⟩ = some (.slice (some ⟨q, 0, none⟩) 4 c)
  c0 : w.cell? ⟨q, 0, none⟩ = some (.string ⟨#[92]⟩)
  c1 : w.cell? ⟨q, 1, none⟩ = some (.string ⟨#[92, 92]⟩)
  c2 : w.cell? ⟨q, 2, none⟩ = some (.string ⟨#[34]⟩)
  c3 : w.cell? ⟨q, 3, none⟩ = some (.string ⟨#[92, 34]⟩)

theorem Olds.below {w w' : World} {b q c : Nat} (h : Olds w b q c) (hb : Below w.heap.size w w') : Olds w' b q c :=
  ⟨Nat.lt_of_lt_of_le h.bl hb.size, Nat.lt_of_lt_of_le h.ql hb.size, (hb.cell h.bl).trans h.sl, (hb.cell h.ql).trans h.c0, (hb.cell h.ql).trans h.c1, (hb.cell h.ql).trans h.c2, (hb.cell h.ql).trans h.c3⟩

/-- The row of what stands in place of byte k. -/
def Esc (w : World) (z k : Nat) : Prop := ∃ p c : Nat, z < p ∧ p < w.heap.size ∧ w.cell? ⟨z, k, none⟩ = some (.slice (some ⟨p, 0, none⟩) 2 c) ∧ w.cell? ⟨p, 0, none⟩ = some (.int .u8 92) ∧ w.cell? ⟨p, 1, none⟩ = some (.int .u8 (k : Int))
theorem Esc.keep {w w' : World} {z k : Nat} (h : Esc w z k) (hs : w.heap.size ≤ w'.heap.size) (hk : ∀ i, z ≤ i → i < w.heap.size → w'.heap[i]? = w.heap[i]?) : Esc w' z k := by
  obtain ⟨p, c, h1, h2, h3, h4, h5⟩ := h
  have a := hk z (Nat.le_refl _) (by omega)
  have b := hk p (by omega) h2
  exact ⟨p, c, h1, by omega, (World.cell?_of_block a).trans h3, (World.cell?_of_block b).trans h4, (World.cell?_of_block b).trans h5⟩

def TR : List Value := [.string ⟨#[34]⟩, .string ⟨#[92]⟩]

structure BS (w wr : World) (t n : Nat) (d34 d92 : Bool) : Prop where
  below : Below w.heap.size w wr
  row : ∃ C : Array Value, wr.heap[w.heap.size + 1]? = some (.cells C 135 (0, 0)) ∧ C.size = 257
  emp : ∀ k, k < 256 → (k = 34 → d34 = false) → (k = 92 → d92 = false) → wr.cell? ⟨w.heap.size + 1, k, none⟩ = some (.slice none 0 0)
  c34 : d34 = true → Esc wr (w.heap.size + 1) 34
  c92 : d92 = true → Esc wr (w.heap.size + 1) 92
  tr : wr.cell? ⟨w.heap.size + 1, 256, none⟩ = some (.slice (some ⟨w.heap.size, 0, none⟩) t 2)
  own : wr.ownsRow w.heap.size 9 1 (.slice (some ⟨w.heap.size, 0, none⟩) n 2) n (TR.take n)

namespace BS
variable {w wr : World} {t n : Nat} {d34 d92 : Bool}
theorem lt (h : BS w wr t n d34 d92) : w.heap.size + 1 < wr.heap.size := by
  obtain ⟨C, hC, _⟩ := h.row
  exact (Array.getElem?_eq_some_iff.1 hC).1
theorem frozen (h : BS w wr t n d34 d92) (k : Nat) : wr.frozen? ⟨w.heap.size + 1, k, none⟩ = false := by
  obtain ⟨C, hC, _⟩ := h.row
  simp [World.frozen?, hC]
theorem keep {w' : World} {n' : Nat} (h : BS w wr t n d34 d92) (hb : Below w.heap.size w w') (hs : wr.heap.size ≤ w'.heap.size) (hk : ∀ i, w.heap.size + 1 ≤ i → i < wr.heap.size → w'.heap[i]? = wr.heap[i]?)
    (ho : w'.ownsRow w.heap.size 9 1 (.slice (some ⟨w.heap.size, 0, none⟩) n' 2) n' (TR.take n')) : BS w w' t n' d34 d92 := by
  have hz := hk (w.heap.size + 1) (Nat.le_refl _) h.lt
  exact ⟨hb, by rw [hz]; exact h.row, fun k h1 h2 h3 => (World.cell?_of_block hz).trans (h.emp k h1 h2 h3), fun e => (h.c34 e).keep hs hk, fun e => (h.c92 e).keep hs hk, (World.cell?_of_block hz).trans h.tr, ho⟩
theorem ownK {w' : World} {a b : Nat} (h : wr.ownsRow w.heap.size 9 1 (.slice (some ⟨w.heap.size, 0, none⟩) a b) a (TR.take a)) (hk : w'.heap[w.heap.size]? = wr.heap[w.heap.size]?) :
    w'.ownsRow w.heap.size 9 1 (.slice (some ⟨w.heap.size, 0, none⟩) a b) a (TR.take a) := by
  refine ⟨h.1, ?_⟩
  rcases h.2 with h' | ⟨g, cap, cur, e1, e2, e3, e4⟩
  · exact .inl h'
  · refine .inr ⟨g, cap, cur, e1, e2, ?_, e4⟩
    simp only [Value.slice.injEq, Option.some.injEq, Addr.mk.injEq, and_true, true_and] at e1
    obtain ⟨rfl, rfl⟩ := e1
    rw [hk]
    exact e3
theorem step {w' : World} (h : BS w wr t n d34 d92) (hb : Below wr.heap.size wr w') : BS w w' t n d34 d92 :=
  h.keep (h.below.trans (hb.mono h.below.size)) hb.size (fun i _ hi => hb.block i hi) (ownK h.own (hb.block _ (by have := h.lt; omega)))
theorem grow {w' : World} {n' : Nat} (h : BS w wr t n d34 d92) (hg : wr.grownBy w' (some w.heap.size)) (ho : w'.ownsRow w.heap.size 9 1 (.slice (some ⟨w.heap.size, 0, none⟩) n' 2) n' (TR.take n')) : BS w w' t n' d34 d92 :=
  h.keep (h.below.grown hg h.below.size (fun k hk => by injection hk with hk; omega)) hg.size (fun i h1 h2 => hg.block i h2 (by simp; omega)) ho
theorem set (h : BS w wr t n d34 d92) : BS w (wr.setCell ⟨w.heap.size + 1, 256, none⟩ (.slice (some ⟨w.heap.size, 0, none⟩) n 2)) n n d34 d92 := by
  have hoth : ∀ i, i ≠ w.heap.size + 1 → (wr.setCell ⟨w.heap.size + 1, 256, none⟩ (.slice (some ⟨w.heap.size, 0, none⟩) n 2)).heap[i]? = wr.heap[i]? := fun i hi => Below.heap_setCell _ _ _ _ hi
  have hesc : ∀ k, k < 256 → Esc wr (w.heap.size + 1) k → Esc (wr.setCell ⟨w.heap.size + 1, 256, none⟩ (.slice (some ⟨w.heap.size, 0, none⟩) n 2)) (w.heap.size + 1) k := by
    rintro k hk ⟨p, c, h1, h2, h3, h4, h5⟩
    refine ⟨p, c, h1, by simpa using h2, ?_, (World.cell?_of_block (hoth p (by omega))).trans h4, (World.cell?_of_block (hoth p (by omega))).trans h5⟩
    rw [World.cell?_setCell_other _ _ _ _ (by simp <;> omega)]
    exact h3
  refine ⟨h.below.setCell (by simp) _, ?_, ?_, fun e => hesc 34 (by omega) (h.c34 e), fun e => hesc 92 (by omega) (h.c92 e), World.cell?_setCell_same _ _ _ h.tr, ownK h.own (hoth _ (by omega))⟩
  · obtain ⟨C, hC, hz⟩ := h.row
    exact ⟨_, YtjmjmnagnbgmfaaGreatDoor.blkSet hC 256 _, by simpa using hz⟩
  · intro k h1 h2 h3
    rw [World.cell?_setCell_other _ _ _ _ (by simp <;> omega)]
    exact h.emp k h1 h2 h3
theorem setEsc (h : BS w wr t n d34 d92) (k : Nat) (hk : k = 34 ∨ k = 92) (p c : Nat) (hp : w.heap.size + 1 < p) (hpl : p < wr.heap.size) (h0 : wr.cell? ⟨p, 0, none⟩ = some (.int .u8 92)) (h1 : wr.cell? ⟨p, 1, none⟩ = some (.int .u8 (k : Int))) :
    BS w (wr.setCell ⟨w.heap.size + 1, k, none⟩ (.slice (some ⟨p, 0, none⟩) 2 c)) t n (d34 || k == 34) (d92 || k == 92) := by
  have hoth : ∀ i, i ≠ w.heap.size + 1 → (wr.setCell ⟨w.heap.size + 1, k, none⟩ (.slice (some ⟨p, 0, none⟩) 2 c)).heap[i]? = wr.heap[i]? := fun i hi => Below.heap_setCell _ _ _ _ hi
  have hcz : ∀ j, ∃ v, j < 257 → wr.cell? ⟨w.heap.size + 1, j, none⟩ = some v := by
    intro j
    obtain ⟨C, hC, hz⟩ := h.row
    by_cases hj : j < 257
    · exact ⟨C[j]'(by omega), fun _ => by simp [World.cell?, hC, show j < C.size by omega]⟩
    · exact ⟨.bool true, fun h => absurd h hj⟩
  have hnew : Esc (wr.setCell ⟨w.heap.size + 1, k, none⟩ (.slice (some ⟨p, 0, none⟩) 2 c)) (w.heap.size + 1) k := by
    refine ⟨p, c, hp, by simpa using hpl, ?_, (World.cell?_of_block (hoth p (by omega))).trans h0, (World.cell?_of_block (hoth p (by omega))).trans h1⟩
    obtain ⟨v, hv⟩ := hcz k
    exact World.cell?_setCell_same _ _ _ (hv (by omega))
  have hesc : ∀ k', k' ≠ k → Esc wr (w.heap.size + 1) k' → Esc (wr.setCell ⟨w.heap.size + 1, k, none⟩ (.slice (some ⟨p, 0, none⟩) 2 c)) (w.heap.size + 1) k' := by
    rintro k' hne ⟨p', c', g1, g2, g3, g4, g5⟩
    refine ⟨p', c', g1, by simpa using g2, ?_, (World.cell?_of_block (hoth p' (by omega))).trans g4, (World.cell?_of_block (hoth p' (by omega))).trans g5⟩
    rw [World.cell?_setCell_other _ _ _ _ (by simp <;> omega)]
    exact g3
  refine ⟨h.below.setCell (by simp) _, ?_, ?_, ?_, ?_, ?_, ownK h.own (hoth _ (by omega))⟩
  · obtain ⟨C, hC, hz⟩ := h.row
    exact ⟨_, YtjmjmnagnbgmfaaGreatDoor.blkSet hC k _, by simpa using hz⟩
  · intro k' h1 h2 h3
    have hne : k' ≠ k := by
      rintro rfl
      rcases hk with rfl | rfl
      · simpa using h2 rfl
      · simpa using h3 rfl
    rw [World.cell?_setCell_other _ _ _ _ (by simp <;> omega)]
    refine h.emp k' h1 (fun e => ?_) (fun e => ?_)
    · have := h2 e; simp at this; exact this.1
    · have := h3 e; simp at this; exact this.1
  · intro e
    by_cases hk34 : k = 34
    · subst hk34; exact hnew
    · refine hesc 34 (fun e => hk34 e.symm) (h.c34 ?_)
      simpa [hk34] using e
  · intro e
    by_cases hk92 : k = 92
    · subst hk92; exact hnew
    · refine hesc 92 (fun e => hk92 e.symm) (h.c92 ?_)
      simpa [hk92] using e
  · rw [World.cell?_setCell_other _ _ _ _ (by simp <;> omega)]
    exact h.tr
end BS

theorem info9 : (Tryz.prog.info? 9).map (fun i => (i.zero, i.size, i.bytes)) = some (some (.string ⟨#[]⟩), 1, 16) := by kernel_rfl
end Go.Proofs.YtjmjmnagnbgmfaaGreatDoor
/-! strings.Replacer.build: the walk. -/
namespace Go.Proofs.YtjmjmnagnbgmfaaGreatDoor
open Go.Lib Go.Shelf Go.RowKit

noncomputable def repC (K : Nat) : Array Value := (Tryz.zeroCells135.toList.set 256 (Value.slice (some ⟨K, 0, none⟩) 0 2)).toArray
theorem repC_size (K : Nat) : (repC K).size = 257 := by
  have : Tryz.zeroCells135.size = 257 := by kernel_rfl
  simp [repC, this]
theorem repC_all (K : Nat) : (repC K).all (·.oneCell') = true := by
  have h : Tryz.zeroCells135.toList.all (·.oneCell') = true := by kernel_rfl
  rw [Array.all_eq_true_iff_forall_mem]
  intro x hx
  simp only [repC, List.mem_toArray] at hx
  rcases List.mem_or_eq_of_mem_set hx with h' | h'
  · exact List.all_eq_true.1 h x h'
  · subst h'; rfl
def isNilS : Option Value → Bool
  | some (.slice none 0 0) => true
  | _ => false
theorem isNilS_eq {v : Option Value} (h : isNilS v = true) : v = some (.slice none 0 0) := by
  unfold isNilS at h
  split at h
  · rfl
  · cases h
theorem zero135_at (k : Nat) (hk : k < 256) : Tryz.zeroCells135[k]? = some (.slice none 0 0) := by
  have h : (List.range 256).all (fun k => isNilS Tryz.zeroCells135[k]?) = true := by kernel_rfl
  exact isNilS_eq (List.all_eq_true.1 h k (List.mem_range.2 hk))
theorem repC_at (K k : Nat) (hk : k < 256) : (repC K)[k]? = some (.slice none 0 0) := by
  rw [repC, List.getElem?_toArray, List.getElem?_set_ne (by omega), Array.getElem?_toList]
  exact zero135_at k hk
theorem repC_last (K : Nat) : (repC K)[256]? = some (.slice (some ⟨K, 0, none⟩) 0 2) := by
  have : Tryz.zeroCells135.size = 257 := by kernel_rfl
  rw [repC, List.getElem?_toArray, List.getElem?_set_self (by simp [this])]

theorem bs_start (w : World) : BS w ((w.alloc (.cells (madeCells #[.string ⟨#[]⟩] 2) 9)).alloc (.cells (repC w.heap.size) 135)) 0 0 false false := by
  have hrow : ((w.alloc (.cells (madeCells #[.string ⟨#[]⟩] 2) 9)).alloc (.cells (repC w.heap.size) 135)).heap[w.heap.size + 1]? = some (.cells (repC w.heap.size) 135 (0, 0)) := by
    have := heap_alloc_new (w.alloc (.cells (madeCells #[.string ⟨#[]⟩] 2) 9)) (.cells (repC w.heap.size) 135)
    simpa using this
  refine ⟨((Below.refl _ w).alloc (Nat.le_refl _) _).alloc (by simp) _, ⟨_, hrow, repC_size _⟩, ?_, by simp, by simp, ?_, ?_⟩
  · intro k hk _ _
    simp only [World.cell?, hrow]
    simp [repC_at _ k hk]
  · simp only [World.cell?, hrow]
    simp [repC_last]
  · refine ⟨rfl, .inr ⟨w.heap.size, 2, madeCells #[.string ⟨#[]⟩] 2, rfl, Nat.le_refl _, ?_, by omega, by decide, by rw [size_madeCells], rfl⟩⟩
    rw [heap_alloc_old _ _ (by simp)]
    exact heap_alloc_new w _

theorem storeRep (W : World) (n : Nat) (hn : n = W.heap.size) (K : Nat) : (storeCells ⟨n, 0, none⟩ (Tryz.zeroCells135.toList.set 256 (Value.slice (some ⟨K, 0, none⟩) 0 2))).run Tryz.prog (W.alloc (.cells Tryz.zeroCells135 135)) = .ok () (W.alloc (.cells (repC K) 135)) := by
  subst hn
  have h135 : (Tryz.prog.info? 135).map (·.size) = some 257 := by kernel_rfl
  have hz : Tryz.zeroCells135.size = 257 := by kernel_rfl
  exact run_storeCells_new (P := Tryz.prog) W 135 Tryz.zeroCells135 (repC K) (by rw [repC_size]; exact h135) (by rw [repC_size]; exact hz) (repC_all K)

theorem conv1 (W : World) (n : Nat) (hn : n = W.heap.size) (c : UInt8) : (convert 34 9 (.slice (some ⟨n, 0, none⟩) 1 1)).run Tryz.prog (W.alloc (.cells #[.int .u8 (c.toNat : Int)] 5)) = .ok (.string (sOf [c])) (W.alloc (.cells #[.int .u8 (c.toNat : Int)] 5)) := by
  subst hn
  have hr : RowB (W.alloc (.cells #[.int .u8 (c.toNat : Int)] 5)) W.heap.size [c] := by
    intro j hj
    have : j = 0 := by simp at hj; omega
    subst this
    exact ⟨by simp [nat8], by simp⟩
  exact rowB_string hr 1 9 Tryz.underlying9

set_option maxRecDepth 100000 in
set_option maxHeartbeats 1600000 in
theorem build_calls (b q c : Nat) (w : World) (h : Olds w b q c) :
    Calls Tryz.prog 97 #[.pointer (some ⟨b, 0, none⟩)] w fun e w' => e = .returned (.iface 136 (.pointer (some ⟨w.heap.size + 1, 0, none⟩))) ∧ BS w w' 2 2 true true := by
  have HO := Lib.hid h
  obtain ⟨bl, ql, sl, c0, c1, c2, c3⟩ := h
  have hmk : ∀ W : World, (Instr.makeSlice 32 (.int .i64 0) (.int .i64 2)).run Tryz.prog W = .ok (.slice (some ⟨W.heap.size, 0, none⟩) 0 2) (W.alloc (.cells (madeCells #[.string ⟨#[]⟩] 2) 9)) := by
    intro W
    obtain ⟨i0, hi, hz0, hz1, hz2⟩ := info_parts info9
    have := run_makeSlice (P := Tryz.prog) (w := W) 32 9 i0 (.string ⟨#[]⟩) Tryz.underlying32 hi hz0 .i64 .i64 0 2 (by omega) (by omega) (by rw [hz1]; decide) (by rw [hz2]; decide) (by decide)
    rw [hz1] at this
    exact this
  have hst := storeRep (w.alloc (.cells (madeCells #[.string ⟨#[]⟩] 2) 9)) (w.heap.size + 1) (by simp) w.heap.size
  go_enter Tryz.func97, Tryz.ntmps97
  go_wp2
  go_loopg [4, 5] 2 (fun g r s wr => ∃ j : Nat, 2 - j = g ∧ wr = w ∧ ((j = 0 ∧ r = .bool true ∧ s = .int .i64 0) ∨ (j = 1 ∧ r = .bool false ∧ s = .int .i64 2) ∨ (j = 2 ∧ r = .bool false ∧ s = .int .i64 4)))
  case atStart => exact ⟨0, rfl, rfl, .inl ⟨rfl, rfl, rfl⟩⟩
  case round =>
    obtain ⟨j, rfl, he, hj⟩ := hrel
    have he' := he.symm
    clear he
    subst he'
    rcases hj with ⟨rfl, rfl, rfl⟩ | ⟨rfl, rfl, rfl⟩ | ⟨rfl, rfl, rfl⟩
    · go_wp2
      go_roundg 1
      case measure => omega
      case rel => exact ⟨1, rfl, rfl, .inr (.inl ⟨rfl, rfl, rfl⟩)⟩
    · go_wp2
      go_roundg 0
      case measure => omega
      case rel => exact ⟨2, rfl, rfl, .inr (.inr ⟨rfl, rfl, rfl⟩)⟩
    · go_wp2
      have HB0 := Lib.hid (bs_start w)
      generalize (w.alloc (.cells (madeCells #[.string ⟨#[]⟩] 2) 9)).alloc (.cells (repC w.heap.size) 135) = w1 at HB0 ⊢
      clear hst hmk
      go_loopg [12] 2 (fun g i wr => ∃ j : Nat, 2 - j = g ∧ ((j = 0 ∧ i = .int .i64 2 ∧ Hid (BS w wr 0 0 false false)) ∨ (j = 1 ∧ i = .int .i64 0 ∧ Hid (BS w wr 1 1 true false)) ∨ (j = 2 ∧ i = .int .i64 (-2) ∧ Hid (BS w wr 2 2 true true))))
      case atStart => exact ⟨0, rfl, .inl ⟨rfl, rfl, HB0⟩⟩
      case round =>
        obtain ⟨j, rfl, hj⟩ := hrel
        clear HB0
        rcases hj with ⟨rfl, rfl, HB⟩ | ⟨rfl, rfl, HB⟩ | ⟨rfl, rfl, HB⟩
        · have HO2 := Lib.hid (HO.out.below HB.out.below)
          obtain ⟨_, _, _, _, _, _, _⟩ := HO2.out
          have e0 := HB.out.emp 34 (by omega) (by simp) (by simp)
          have e1 := HB.out.tr
          have hf := HB.out.frozen
          have hnil : ∀ W : World, (binOp .eql 34 (.slice none 0 0) (.slice none 0 0)).run Tryz.prog W = .ok (.bool true) W := fun _ => rfl
          have hcv : (convert 34 9 (.slice (some ⟨wr.heap.size, 0, none⟩) 1 1)).run Tryz.prog (wr.alloc (.cells #[.int .u8 34] 5)) = .ok (.string ⟨#[34]⟩) (wr.alloc (.cells #[.int .u8 34] 5)) := conv1 wr _ rfl 34
          have hg0 : ∀ h, ((⟨#[34]⟩ : ByteArray)[0]'h).toNat = 34 := fun _ => rfl
          obtain ⟨i0, hi, hz0, hz1, hz2⟩ := info_parts info9
          have HS1 : Hid (BS w ((wr.alloc (.cells #[.int .u8 34] 5)).alloc (.cells #[.string ⟨#[34]⟩] 9)) 0 0 false false) := HB.out.step (((Below.refl _ wr).alloc (Nat.le_refl _) _).alloc (by simp) _)
          go_wp2_with (at_builtin; refine wpList_append_fits _ rfl (.tmp 119) (.tmp 123) 32 rfl w.heap.size 9 i0 1 Tryz.underlying32 hi hz1 w.heap.size 0 2 (TR.take 0) rfl HS1.out.own _ 1 1 [.string ⟨#[34]⟩] rfl rfl ?cs ?oc (by omega) ?_)
          case cs =>
            intro j u hj
            match j, hj with
            | 0, hj => simp at hj; subst hj; simp [Addr.add]
          case oc =>
            intro u hu
            simp at hu
            subst hu
            rfl
          intro w3 hown hg
          have HS2 : Hid (BS w w3 0 1 false false) := HS1.out.grow hg hown
          have hc2 := HS2.out.tr
          have hf2 := HS2.out.frozen 256
          clear hown hg HS1 hcv hnil e0 e1 hf hi hz0 hz1 hz2
          go_wp2_with fail
          have HS3 := Lib.hid HS2.out.set
          clear hc2 hf2 HS2
          generalize w3.setCell ⟨w.heap.size + 1, 256, none⟩ (.slice (some ⟨w.heap.size, 0, none⟩) 1 2) = w4 at HS3 ⊢
          have kb := Lib.run_convert_string_bytes (P := Tryz.prog) w4 9 34 5 ⟨#[92, 34]⟩ Tryz.underlying9 Tryz.underlying34 Tryz.underlying5
          have hsz : (⟨#[92, 34]⟩ : ByteArray).size = 2 := rfl
          rw [hsz] at kb
          have HS4 := Lib.hid (HS3.out.step (bytesWorld_below w4 5 ⟨#[92, 34]⟩))
          have p0 : (Lib.bytesWorld w4 5 ⟨#[92, 34]⟩).cell? ⟨w4.heap.size, 0, none⟩ = some (.int .u8 92) := Lib.bytesWorld_cell w4 5 ⟨#[92, 34]⟩ 0 (by decide)
          have p1 : (Lib.bytesWorld w4 5 ⟨#[92, 34]⟩).cell? ⟨w4.heap.size, 1, none⟩ = some (.int .u8 (34 : Nat)) := Lib.bytesWorld_cell w4 5 ⟨#[92, 34]⟩ 1 (by decide)
          have hlt := HS3.out.lt
          have hlt2 : w4.heap.size < (Lib.bytesWorld w4 5 ⟨#[92, 34]⟩).heap.size := by rw [Lib.bytesWorld_size]; omega
          have e4 := HS4.out.emp 34 (by omega) (by simp) (by simp)
          have f4 := HS4.out.frozen 34
          have HS5 := Lib.hid (HS4.out.setEsc 34 (by decide) w4.heap.size (grownCap w4 2 0 5) hlt hlt2 p0 p1)
          have hr : ((false || 34 == 34) = true) ∧ ((false || 34 == 92) = false) := by decide
          rw [hr.1, hr.2] at HS5
          clear hr p0 p1 hlt hlt2 HS4 HS3
          generalize grownCap w4 2 0 5 = cap at kb HS5
          generalize Lib.bytesWorld w4 5 ⟨#[92, 34]⟩ = w5 at *
          go_wp2_with fail
          rw [kb]
          go_wp2_with fail
          go_roundg 1
          case measure => omega
          case rel => exact ⟨1, rfl, .inr (.inl ⟨rfl, rfl, HS5⟩)⟩
        · have HO2 := Lib.hid (HO.out.below HB.out.below)
          obtain ⟨_, _, _, _, _, _, _⟩ := HO2.out
          have e0 := HB.out.emp 92 (by omega) (by simp) (by simp)
          have e1 := HB.out.tr
          have hf := HB.out.frozen
          have hnil : ∀ W : World, (binOp .eql 34 (.slice none 0 0) (.slice none 0 0)).run Tryz.prog W = .ok (.bool true) W := fun _ => rfl
          have hcv : (convert 34 9 (.slice (some ⟨wr.heap.size, 0, none⟩) 1 1)).run Tryz.prog (wr.alloc (.cells #[.int .u8 92] 5)) = .ok (.string ⟨#[92]⟩) (wr.alloc (.cells #[.int .u8 92] 5)) := conv1 wr _ rfl 92
          have hg0 : ∀ h, ((⟨#[92]⟩ : ByteArray)[0]'h).toNat = 92 := fun _ => rfl
          obtain ⟨i0, hi, hz0, hz1, hz2⟩ := info_parts info9
          have HS1 : Hid (BS w ((wr.alloc (.cells #[.int .u8 92] 5)).alloc (.cells #[.string ⟨#[92]⟩] 9)) 1 1 true false) := HB.out.step (((Below.refl _ wr).alloc (Nat.le_refl _) _).alloc (by simp) _)
          go_wp2_with (at_builtin; refine wpList_append_fits _ rfl (.tmp 119) (.tmp 123) 32 rfl w.heap.size 9 i0 1 Tryz.underlying32 hi hz1 w.heap.size 1 2 (TR.take 1) rfl HS1.out.own _ 1 1 [.string ⟨#[92]⟩] rfl rfl ?cs ?oc (by omega) ?_)
          case cs =>
            intro j u hj
            match j, hj with
            | 0, hj => simp at hj; subst hj; simp [Addr.add]
          case oc =>
            intro u hu
            simp at hu
            subst hu
            rfl
          intro w3 hown hg
          have HS2 : Hid (BS w w3 1 2 true false) := HS1.out.grow hg hown
          have hc2 := HS2.out.tr
          have hf2 := HS2.out.frozen 256
          clear hown hg HS1 hcv hnil e0 e1 hf hi hz0 hz1 hz2
          go_wp2_with fail
          have HS3 := Lib.hid HS2.out.set
          clear hc2 hf2 HS2
          generalize w3.setCell ⟨w.heap.size + 1, 256, none⟩ (.slice (some ⟨w.heap.size, 0, none⟩) 2 2) = w4 at HS3 ⊢
          have kb := Lib.run_convert_string_bytes (P := Tryz.prog) w4 9 34 5 ⟨#[92, 92]⟩ Tryz.underlying9 Tryz.underlying34 Tryz.underlying5
          have hsz : (⟨#[92, 92]⟩ : ByteArray).size = 2 := rfl
          rw [hsz] at kb
          have HS4 := Lib.hid (HS3.out.step (bytesWorld_below w4 5 ⟨#[92, 92]⟩))
          have p0 : (Lib.bytesWorld w4 5 ⟨#[92, 92]⟩).cell? ⟨w4.heap.size, 0, none⟩ = some (.int .u8 92) := Lib.bytesWorld_cell w4 5 ⟨#[92, 92]⟩ 0 (by decide)
          have p1 : (Lib.bytesWorld w4 5 ⟨#[92, 92]⟩).cell? ⟨w4.heap.size, 1, none⟩ = some (.int .u8 (92 : Nat)) := Lib.bytesWorld_cell w4 5 ⟨#[92, 92]⟩ 1 (by decide)
          have hlt := HS3.out.lt
          have hlt2 : w4.heap.size < (Lib.bytesWorld w4 5 ⟨#[92, 92]⟩).heap.size := by rw [Lib.bytesWorld_size]; omega
          have e4 := HS4.out.emp 92 (by omega) (by simp) (by simp)
          have f4 := HS4.out.frozen 92
          have HS5 := Lib.hid (HS4.out.setEsc 92 (by decide) w4.heap.size (grownCap w4 2 0 5) hlt hlt2 p0 p1)
          have hr : ((true || 92 == 34) = true) ∧ ((false || 92 == 92) = true) := by decide
          rw [hr.1, hr.2] at HS5
          clear hr p0 p1 hlt hlt2 HS4 HS3
          generalize grownCap w4 2 0 5 = cap at kb HS5
          generalize Lib.bytesWorld w4 5 ⟨#[92, 92]⟩ = w5 at *
          go_wp2_with fail
          rw [kb]
          go_wp2_with fail
          go_roundg 0
          case measure => omega
          case rel => exact ⟨2, rfl, .inr (.inr ⟨rfl, rfl, HS5⟩)⟩
        · go_wp2
          go_ret
          exact ⟨rfl, HB.out⟩
end Go.Proofs.YtjmjmnagnbgmfaaGreatDoor
/-! strings.Replacer.buildOnce under its sync.Once. -/
namespace Go.Proofs.YtjmjmnagnbgmfaaGreatDoor
open Go.Lib Go.Shelf Go.RowKit

/-- A Replacer's block. -/
def RB (w : World) (b : Nat) (d s : Int) (x3 x4 : Value) : Prop := w.heap[b]? = some (.cells #[.int .u32 d, .int .i32 s, .int .u32 0, x3, x4] 103 (0, 0))
namespace RB
variable {w : World} {b : Nat} {d s : Int} {x3 x4 : Value}
theorem lt (h : RB w b d s x3 x4) : b < w.heap.size := (Array.getElem?_eq_some_iff.1 h).1
theorem f (h : RB w b d s x3 x4) (k : Nat) : w.frozen? ⟨b, k, none⟩ = false := by
  have h' : w.heap[b]? = _ := h
  simp [World.frozen?, h']
theorem c0 (h : RB w b d s x3 x4) : w.cell? ⟨b, 0, none⟩ = some (.int .u32 d) := by
  have h' : w.heap[b]? = _ := h
  simp [World.cell?, h']
theorem c1 (h : RB w b d s x3 x4) : w.cell? ⟨b, 1, none⟩ = some (.int .i32 s) := by
  have h' : w.heap[b]? = _ := h
  simp [World.cell?, h']
theorem c3 (h : RB w b d s x3 x4) : w.cell? ⟨b, 3, none⟩ = some x3 := by
  have h' : w.heap[b]? = _ := h
  simp [World.cell?, h']
theorem c4 (h : RB w b d s x3 x4) : w.cell? ⟨b, 4, none⟩ = some x4 := by
  have h' : w.heap[b]? = _ := h
  simp [World.cell?, h']
theorem keep {w' : World} (h : RB w b d s x3 x4) (hk : w'.heap[b]? = w.heap[b]?) : RB w' b d s x3 x4 := hk.trans h
theorem s0 (h : RB w b d s x3 x4) (d' : Int) : RB (w.setCell ⟨b, 0, none⟩ (.int .u32 d')) b d' s x3 x4 := blkSet h 0 _
theorem s1 (h : RB w b d s x3 x4) (s' : Int) : RB (w.setCell ⟨b, 1, none⟩ (.int .i32 s')) b d s' x3 x4 := blkSet h 1 _
theorem s3 (h : RB w b d s x3 x4) (x : Value) : RB (w.setCell ⟨b, 3, none⟩ x) b d s x x4 := blkSet h 3 _
theorem s4 (h : RB w b d s x3 x4) (x : Value) : RB (w.setCell ⟨b, 4, none⟩ x) b d s x3 x := blkSet h 4 _
end RB

/-- The table that build has laid. -/
structure Rdy (w : World) (B z : Nat) : Prop where
  ge : B ≤ z
  lt : z < w.heap.size
  emp : ∀ k, k < 256 → k ≠ 34 → k ≠ 92 → w.cell? ⟨z, k, none⟩ = some (.slice none 0 0)
  c34 : Esc w z 34
  c92 : Esc w z 92
  tr : ∃ p, B ≤ p ∧ p < w.heap.size ∧ w.cell? ⟨z, 256, none⟩ = some (.slice (some ⟨p, 0, none⟩) 2 2) ∧ w.cell? ⟨p, 0, none⟩ = some (.string ⟨#[34]⟩) ∧ w.cell? ⟨p, 1, none⟩ = some (.string ⟨#[92]⟩)
theorem Rdy.keep {w w' : World} {B z : Nat} (h : Rdy w B z) (hs : w.heap.size ≤ w'.heap.size) (hk : ∀ i, B ≤ i → i < w.heap.size → w'.heap[i]? = w.heap[i]?) : Rdy w' B z := by
  obtain ⟨p, p1, p2, p3, p4, p5⟩ := h.tr
  have hz := hk z h.ge h.lt
  have hp := hk p p1 p2
  exact ⟨h.ge, by have := h.lt; omega, fun k a b c => (World.cell?_of_block hz).trans (h.emp k a b c), h.c34.keep hs (fun i hi => hk i (by have := h.ge; omega)), h.c92.keep hs (fun i hi => hk i (by have := h.ge; omega)),
    p, p1, by omega, (World.cell?_of_block hz).trans p3, (World.cell?_of_block hp).trans p4, (World.cell?_of_block hp).trans p5⟩
theorem Rdy.set {w : World} {B z : Nat} (h : Rdy w B z) (a : Addr) (ha : a.block < B) (u : Value) : Rdy (w.setCell a u) B z :=
  h.keep (by simp) (fun i hi _ => Below.heap_setCell w a u i (by omega))
theorem Rdy.of {w w' : World} (h : BS w w' 2 2 true true) : Rdy w' w.heap.size (w.heap.size + 1) := by
  refine ⟨by omega, h.lt, fun k a b c => h.emp k a (fun e => absurd e b) (fun e => absurd e c), h.c34 rfl, h.c92 rfl, w.heap.size, Nat.le_refl _, by have := h.lt; omega, h.tr, ?_⟩
  have ho := h.own
  rcases ho.2 with h' | ⟨g, cap, cur, e1, e2, e3, e4, e5, e6, e7⟩
  · simp at h'
  · simp only [Value.slice.injEq, Option.some.injEq, Addr.mk.injEq, and_true, true_and] at e1
    obtain ⟨rfl, rfl⟩ := e1
    have ht : cur.toList.take 2 = [.string ⟨#[34]⟩, .string ⟨#[92]⟩] := e7
    have hx : ∀ k, k < 2 → cur[k]? = ([.string ⟨#[34]⟩, .string ⟨#[92]⟩] : List Value)[k]? := by
      intro k hk
      rw [← ht, List.getElem?_take_of_lt hk, Array.getElem?_toList]
    exact ⟨by simp only [World.cell?, e3]; simpa using hx 0 (by omega), by simp only [World.cell?, e3]; simpa using hx 1 (by omega)⟩

/-- What building leaves. -/
structure Done (w w' : World) (b : Nat) (d s : Int) (z : Nat) : Prop where
  below : Below b w w'
  size : w.heap.size ≤ w'.heap.size
  rb : RB w' b d s (.iface 136 (.pointer (some ⟨z, 0, none⟩))) (.slice none 0 0)
  rdy : Rdy w' (b + 1) z

set_option maxRecDepth 100000 in
set_option maxHeartbeats 1600000 in
theorem once_calls (b q c : Nat) (d s : Int) (w : World) (h : Olds w b q c) (hr : RB w b d s .nilIface (.slice (some ⟨q, 0, none⟩) 4 c)) :
    Calls Tryz.prog 84 #[.pointer (some ⟨b, 0, none⟩)] w fun e w' => e = .returned (.tuple #[]) ∧ ∃ z, Done w w' b d s z := by
  have HO := Lib.hid h
  have HR := Lib.hid hr
  clear h hr
  go_enter Tryz.func84, Tryz.ntmps84
  go_wp2_with fail
  refine (build_calls b q c w HO.out).mono ?_
  rintro e w1 ⟨rfl, hb⟩
  have HR1 := Lib.hid (HR.out.keep (hb.below.block b HR.out.lt))
  have HD := Lib.hid (Rdy.of hb)
  have HB := Lib.hid hb.below
  clear hb
  have c3 := HR1.out.c3
  have f3 := HR1.out.f 3
  have HR2 := Lib.hid (HR1.out.s3 (.iface 136 (.pointer (some ⟨w.heap.size + 1, 0, none⟩))))
  have c4 := HR2.out.c4
  have f4 := HR2.out.f 4
  have HR3 := Lib.hid (HR2.out.s4 (.slice none 0 0))
  go_wp2_with fail
  go_end0
  have hlt := HR.out.lt
  refine ⟨rfl, w.heap.size + 1, ⟨((HB.out.mono (by omega)).setCell (by simp) _).setCell (by simp) _, by simpa using HB.out.size, HR3.out, ?_⟩⟩
  have := (HD.out.set ⟨b, 3, none⟩ hlt (.iface 136 (.pointer (some ⟨w.heap.size + 1, 0, none⟩)))).set ⟨b, 4, none⟩ hlt (.slice none 0 0)
  obtain ⟨p, p1, p2⟩ := this.tr
  exact ⟨by omega, this.lt, this.emp, this.c34, this.c92, p, by omega, p2⟩
end Go.Proofs.YtjmjmnagnbgmfaaGreatDoor
/-! sync.Once.Do of a Replacer. -/
namespace Go.Proofs.YtjmjmnagnbgmfaaGreatDoor
open Go.Lib Go.Shelf Go.RowKit

theorem Olds.keep {w w' : World} {b q c : Nat} {d s : Int} {x3 : Value} (h : Olds w b q c) (hr : RB w' b d s x3 (.slice (some ⟨q, 0, none⟩) 4 c)) (hs : w.heap.size ≤ w'.heap.size) (hk : w'.heap[q]? = w.heap[q]?) : Olds w' b q c :=
  ⟨hr.lt, Nat.lt_of_lt_of_le h.ql hs, hr.c4, (World.cell?_of_block hk).trans h.c0, (World.cell?_of_block hk).trans h.c1, (World.cell?_of_block hk).trans h.c2, (World.cell?_of_block hk).trans h.c3⟩

theorem Done.set0 {w w' : World} {b z : Nat} {d s : Int} (h : Done w w' b d s z) (d' : Int) : Done w (w'.setCell ⟨b, 0, none⟩ (.int .u32 d')) b d' s z :=
  ⟨h.below.setCell (Nat.le_refl _) _, by simpa using h.size, h.rb.s0 d', h.rdy.set _ (by simp) _⟩
theorem Done.set1 {w w' : World} {b z : Nat} {d s : Int} (h : Done w w' b d s z) (s' : Int) : Done w (w'.setCell ⟨b, 1, none⟩ (.int .i32 s')) b d s' z :=
  ⟨h.below.setCell (Nat.le_refl _) _, by simpa using h.size, h.rb.s1 s', h.rdy.set _ (by simp) _⟩
theorem Done.drew {w w' : World} {b z : Nat} {d s : Int} (h : Done w w' b d s z) : Done w w'.drew b d s z :=
  ⟨h.below.drew, h.size, h.rb, h.rdy.keep (Nat.le_refl _) (fun _ _ _ => rfl)⟩

set_option maxRecDepth 100000 in
set_option maxHeartbeats 1600000 in
theorem slow_calls (b q c : Nat) (w : World) (h : Olds w b q c) (hbq : q ≠ b) (hr : RB w b 0 0 .nilIface (.slice (some ⟨q, 0, none⟩) 4 c)) :
    Calls Tryz.prog 96 #[.pointer (some ⟨b, 0, none⟩), .func (.func 84) #[.pointer (some ⟨b, 0, none⟩)] #[]] w fun e w' => e = .returned (.tuple #[]) ∧ ∃ z, Done w w' b 1 0 z := by
  have HR := Lib.hid hr
  have HR1 := Lib.hid (hr.s1 1)
  have HO1 : Hid (Olds (w.setCell ⟨b, 1, none⟩ (.int .i32 1)) b q c) := h.keep HR1.out (by simp) (Below.heap_setCell _ _ _ _ hbq)
  have hl := run_call_load (P := Tryz.prog) Tryz.func103 (by kernel_rfl) (by kernel_rfl) (by kernel_rfl) .u32 (by kernel_rfl) (w := w.setCell ⟨b, 1, none⟩ (.int .i32 1)) (a := ⟨b, 0, none⟩) (x := 0) HR1.out.c0
  have hnot : ∀ (x : Bool) (w : World), (Op.unary .not (.bool x)).run Tryz.prog w = .ok (.bool (!x)) w := fun _ _ => rfl
  have hBl : Hid (Below b w (w.setCell ⟨b, 1, none⟩ (.int .i32 1))) := (Below.refl b w).setCell (p := ⟨b, 1, none⟩) (Nat.le_refl _) _
  clear h hr
  go_enter_defers Tryz.func96, Tryz.ntmps96
  go_wp2_with (first | (go_at_call 104; refine (lock_free ⟨b, 1, none⟩ _ HR.out.c1 (HR.out.f 1)).mono ?_; rintro e w' ⟨rfl, rfl⟩) | (go_at_call 84; refine (once_calls b q c 0 1 _ HO1.out HR1.out).mono ?_; rintro e w' ⟨rfl, hd⟩) | (go_at_call 95; go_in))
  obtain ⟨z, hd⟩ := hd
  have hD : Done w w' b 0 1 z := ⟨hBl.out.trans hd.below, by simpa using hd.size, hd.rb, hd.rdy⟩
  have HD := Lib.hid hD
  clear hd hD
  refine leaves_cons (f := 106) (args := #[.pointer (some ⟨b, 0, none⟩), .bool true]) (by simp) (by simp [go_sem]) ?_
  refine (store_deferred ⟨b, 0, none⟩ (.int .u32 0) .returning _ HD.out.rb.c0 (HD.out.rb.f 0)).mono ?_
  rintro e u' w'' ⟨rfl, rfl, rfl⟩
  have HD2 := Lib.hid (HD.out.drew.set0 1)
  refine leaves_cons (f := 105) (args := #[.pointer (some ⟨b, 1, none⟩)]) (by simp [settle]) (by simp [go_sem]) ?_
  refine (unlock_deferred ⟨b, 1, none⟩ _ _ HD2.out.rb.c1 (HD2.out.rb.f 1)).mono ?_
  rintro e u' w'' ⟨rfl, rfl, rfl⟩
  have HD3 := HD2.out.set1 0
  simp [Leaves, settle, results, Tryz.results96]
  exact ⟨z, HD3⟩

set_option maxRecDepth 100000 in
set_option maxHeartbeats 1600000 in
theorem do_calls (b q c : Nat) (w : World) (h : Olds w b q c) (hbq : q ≠ b) (hr : RB w b 0 0 .nilIface (.slice (some ⟨q, 0, none⟩) 4 c)) :
    Calls Tryz.prog 83 #[.pointer (some ⟨b, 0, none⟩), .func (.func 84) #[.pointer (some ⟨b, 0, none⟩)] #[]] w fun e w' => e = .returned (.tuple #[]) ∧ ∃ z, Done w w' b 1 0 z := by
  have hl := run_call_load (P := Tryz.prog) Tryz.func103 (by kernel_rfl) (by kernel_rfl) (by kernel_rfl) .u32 (by kernel_rfl) hr.c0
  have hnot : ∀ (x : Bool) (w : World), (Op.unary .not (.bool x)).run Tryz.prog w = .ok (.bool (!x)) w := fun _ _ => rfl
  go_enter Tryz.func83, Tryz.ntmps83
  go_wp2_with (first | (go_at_call 96; refine (slow_calls b q c _ h hbq hr).mono ?_; rintro e w' ⟨rfl, hd⟩) | (go_at_call 95; go_in))
  go_end0
  exact ⟨rfl, hd⟩
end Go.Proofs.YtjmjmnagnbgmfaaGreatDoor
