import Derived.Test.YtjmjmnagnbgmfaaGreatDoorS14
import Derived.Test.YtjmjmnagnbgmfaaGreatDoorS3
import Derived.Laws.MakeOwn
import Derived.Deep.WholeRow
import Derived.Lib.AtoiErrMem
/-! strings.Replacer.build of token.Quote's four texts. -/
namespace Go.Proofs.YtjmjmnagnbgmfaaGreatDoor
open Go.Lib Go.Shelf Go.RowKit

theorem blkSet {w : World} {g : Nat} {t : TypeId} {cs : Array Value} (h : w.heap[g]? = some (.cells cs t (0, 0))) (i : Nat) (u : Value) : (w.setCell ⟨g, i, none⟩ u).heap[g]? = some (.cells (cs.setIfInBounds i u) t (0, 0)) := by
  simp [World.setCell, Array.getElem?_modify, h]

structure Olds (w : World) (b q : Nat) (c : Nat) : Prop where
  bl : b < w.heap.size
  ql : q < w.heap.size
  sl : w.cell? ⟨b, 4, none⟩ = some (.slice (some ⟨q, 0, none⟩) 4 c)
  c0 : w.cell? ⟨q, 0, none⟩ = some (.string ⟨#[92]⟩)
  c1 : w.cell? ⟨q, 1, none⟩ = some (.string ⟨#[92, 92]⟩)
  c2 : w.cell? ⟨q, 2, none⟩ = some (.string ⟨#[34]⟩)
  c3 : w.cell? ⟨q, 3, none⟩ = some (.string ⟨#[92, 34]⟩)

theorem Olds.below {w w' : World} {b q c : Nat} (h : Olds w b q c) (hb : Below w.heap.size w w') : Olds w' b q c :=
  ⟨Nat.lt_of_lt_of_le h.bl hb.size, Nat.lt_of_lt_of_le h.ql hb.size, (hb.cell h.bl).trans h.sl, (hb.cell h.ql).trans h.c0, (hb.cell h.ql).trans h.c1, (hb.cell h.ql).trans h.c2, (hb.cell h.ql).trans h.c3⟩

/-- The row of what stands in place of byte k. -/
def Esc (w : World) (z k : Nat) : Prop := ∃ p c : Nat, z < p ∧ p < w.heap.size ∧ w.cell? ⟨z, k, none⟩ = some (.slice (some ⟨p, 0, none⟩) 2 c) ∧ w.cell? ⟨p, 0, none⟩ = some (.int .u8 92) ∧ w.cell? ⟨p, 1, none⟩ = some (.int .u8 (k : Int))
theorem Esc.keep {w w' : World} {z k : Nat} (h : Esc w z k) (hs : w.heap.size ≤ w'.heap.size) (hk : ∀ i, z ≤ i → i < w.heap.size → w'.heap[i]? = w.heap[i]?) : Esc w' z k := by
  obtain ⟨p, c, h1, h2, h3, h4, h5⟩ := h
  have a := hk z (Nat.le_refl _) (by omega)
  have b := hk p (by omega) h2
  exact ⟨p, c, h1, by omega, (World.cell?_of_block a).trans h3, (World.cell?_of_block b).trans h4, (World.cell?_of_block b).trans h5⟩

def TR : List Value := [.string ⟨#[34]⟩, .string ⟨#[92]⟩]

structure BS (w wr : World) (t n : Nat) (d34 d92 : Bool) : Prop where
  below : Below w.heap.size w wr
  row : ∃ C : Array Value, wr.heap[w.heap.size + 1]? = some (.cells C 135 (0, 0)) ∧ C.size = 257
  emp : ∀ k, k < 256 → (k = 34 → d34 = false) → (k = 92 → d92 = false) → wr.cell? ⟨w.heap.size + 1, k, none⟩ = some (.slice none 0 0)
  c34 : d34 = true → Esc wr (w.heap.size + 1) 34
  c92 : d92 = true → Esc wr (w.heap.size + 1) 92
  tr : wr.cell? ⟨w.heap.size + 1, 256, none⟩ = some (.slice (some ⟨w.heap.size, 0, none⟩) t 2)
  own : wr.ownsRow w.heap.size 9 1 (.slice (some ⟨w.heap.size, 0, none⟩) n 2) n (TR.take n)

namespace BS
variable {w wr : World} {t n : Nat} {d34 d92 : Bool}
theorem lt (h : BS w wr t n d34 d92) : w.heap.size + 1 < wr.heap.size := by
  obtain ⟨C, hC, _⟩ := h.row
  exact (Array.getElem?_eq_some_iff.1 hC).1
theorem frozen (h : BS w wr t n d34 d92) (k : Nat) : wr.frozen? ⟨w.heap.size + 1, k, none⟩ = false := by
  obtain ⟨C, hC, _⟩ := h.row
  simp [World.frozen?, hC]
theorem keep {w' : World} {n' : Nat} (h : BS w wr t n d34 d92) (hb : Below w.heap.size w w') (hs : wr.heap.size ≤ w'.heap.size) (hk : ∀ i, w.heap.size + 1 ≤ i → i < wr.heap.size → w'.heap[i]? = wr.heap[i]?)
    (ho : w'.ownsRow w.heap.size 9 1 (.slice (some ⟨w.heap.size, 0, none⟩) n' 2) n' (TR.take n')) : BS w w' t n' d34 d92 := by
  have hz := hk (w.heap.size + 1) (Nat.le_refl _) h.lt
  exact ⟨hb, by rw [hz]; exact h.row, fun k h1 h2 h3 => (World.cell?_of_block hz).trans (h.emp k h1 h2 h3), fun e => (h.c34 e).keep hs hk, fun e => (h.c92 e).keep hs hk, (World.cell?_of_block hz).trans h.tr, ho⟩
theorem ownK {w' : World} {a b : Nat} (h : wr.ownsRow w.heap.size 9 1 (.slice (some ⟨w.heap.size, 0, none⟩) a b) a (TR.take a)) (hk : w'.heap[w.heap.size]? = wr.heap[w.heap.size]?) :
    w'.ownsRow w.heap.size 9 1 (.slice (some ⟨w.heap.size, 0, none⟩) a b) a (TR.take a) := by
  refine ⟨h.1, ?_⟩
  rcases h.2 with h' | ⟨g, cap, cur, e1, e2, e3, e4⟩
  · exact .inl h'
  · refine .inr ⟨g, cap, cur, e1, e2, ?_, e4⟩
    simp only [Value.slice.injEq, Option.some.injEq, Addr.mk.injEq, and_true, true_and] at e1
    obtain ⟨rfl, rfl⟩ := e1
    rw [hk]
    exact e3
theorem step {w' : World} (h : BS w wr t n d34 d92) (hb : Below wr.heap.size wr w') : BS w w' t n d34 d92 :=
  h.keep (h.below.trans (hb.mono h.below.size)) hb.size (fun i _ hi => hb.block i hi) (ownK h.own (hb.block _ (by have := h.lt; omega)))
theorem grow {w' : World} {n' : Nat} (h : BS w wr t n d34 d92) (hg : wr.grownBy w' (some w.heap.size)) (ho : w'.ownsRow w.heap.size 9 1 (.slice (some ⟨w.heap.size, 0, none⟩) n' 2) n' (TR.take n')) : BS w w' t n' d34 d92 :=
  h.keep (h.below.grown hg h.below.size (fun k hk => by injection hk with hk; omega)) hg.size (fun i h1 h2 => hg.block i h2 (by simp; omega)) ho
theorem set (h : BS w wr t n d34 d92) : BS w (wr.setCell ⟨w.heap.size + 1, 256, none⟩ (.slice (some ⟨w.heap.size, 0, none⟩) n 2)) n n d34 d92 := by
  have hoth : ∀ i, i ≠ w.heap.size + 1 → (wr.setCell ⟨w.heap.size + 1, 256, none⟩ (.slice (some ⟨w.heap.size, 0, none⟩) n 2)).heap[i]? = wr.heap[i]? := fun i hi => Below.heap_setCell _ _ _ _ hi
  have hesc : ∀ k, k < 256 → Esc wr (w.heap.size + 1) k → Esc (wr.setCell ⟨w.heap.size + 1, 256, none⟩ (.slice (some ⟨w.heap.size, 0, none⟩) n 2)) (w.heap.size + 1) k := by
    rintro k hk ⟨p, c, h1, h2, h3, h4, h5⟩
    refine ⟨p, c, h1, by simpa using h2, ?_, (World.cell?_of_block (hoth p (by omega))).trans h4, (World.cell?_of_block (hoth p (by omega))).trans h5⟩
    rw [World.cell?_setCell_other _ _ _ _ (by simp <;> omega)]
    exact h3
  refine ⟨h.below.setCell (by simp) _, ?_, ?_, fun e => hesc 34 (by omega) (h.c34 e), fun e => hesc 92 (by omega) (h.c92 e), World.cell?_setCell_same _ _ _ h.tr, ownK h.own (hoth _ (by omega))⟩
  · obtain ⟨C, hC, hz⟩ := h.row
    exact ⟨_, YtjmjmnagnbgmfaaGreatDoor.blkSet hC 256 _, by simpa using hz⟩
  · intro k h1 h2 h3
    rw [World.cell?_setCell_other _ _ _ _ (by simp <;> omega)]
    exact h.emp k h1 h2 h3
theorem setEsc (h : BS w wr t n d34 d92) (k : Nat) (hk : k = 34 ∨ k = 92) (p c : Nat) (hp : w.heap.size + 1 < p) (hpl : p < wr.heap.size) (h0 : wr.cell? ⟨p, 0, none⟩ = some (.int .u8 92)) (h1 : wr.cell? ⟨p, 1, none⟩ = some (.int .u8 (k : Int))) :
    BS w (wr.setCell ⟨w.heap.size + 1, k, none⟩ (.slice (some ⟨p, 0, none⟩) 2 c)) t n (d34 || k == 34) (d92 || k == 92) := by
  have hoth : ∀ i, i ≠ w.heap.size + 1 → (wr.setCell ⟨w.heap.size + 1, k, none⟩ (.slice (some ⟨p, 0, none⟩) 2 c)).heap[i]? = wr.heap[i]? := fun i hi => Below.heap_setCell _ _ _ _ hi
  have hcz : ∀ j, ∃ v, j < 257 → wr.cell? ⟨w.heap.size + 1, j, none⟩ = some v := by
    intro j
    obtain ⟨C, hC, hz⟩ := h.row
    by_cases hj : j < 257
    · exact ⟨C[j]'(by omega), fun _ => by simp [World.cell?, hC, show j < C.size by omega]⟩
    · exact ⟨.bool true, fun h => absurd h hj⟩
  have hnew : Esc (wr.setCell ⟨w.heap.size + 1, k, none⟩ (.slice (some ⟨p, 0, none⟩) 2 c)) (w.heap.size + 1) k := by
    refine ⟨p, c, hp, by simpa using hpl, ?_, (World.cell?_of_block (hoth p (by omega))).trans h0, (World.cell?_of_block (hoth p (by omega))).trans h1⟩
    obtain ⟨v, hv⟩ := hcz k
    exact World.cell?_setCell_same _ _ _ (hv (by omega))
  have hesc : ∀ k', k' ≠ k → Esc wr (w.heap.size + 1) k' → Esc (wr.setCell ⟨w.heap.size + 1, k, none⟩ (.slice (some ⟨p, 0, none⟩) 2 c)) (w.heap.size + 1) k' := by
    rintro k' hne ⟨p', c', g1, g2, g3, g4, g5⟩
    refine ⟨p', c', g1, by simpa using g2, ?_, (World.cell?_of_block (hoth p' (by omega))).trans g4, (World.cell?_of_block (hoth p' (by omega))).trans g5⟩
    rw [World.cell?_setCell_other _ _ _ _ (by simp <;> omega)]
    exact g3
  refine ⟨h.below.setCell (by simp) _, ?_, ?_, ?_, ?_, ?_, ownK h.own (hoth _ (by omega))⟩
  · obtain ⟨C, hC, hz⟩ := h.row
    exact ⟨_, YtjmjmnagnbgmfaaGreatDoor.blkSet hC k _, by simpa using hz⟩
  · intro k' h1 h2 h3
    have hne : k' ≠ k := by
      rintro rfl
      rcases hk with rfl | rfl
      · simpa using h2 rfl
      · simpa using h3 rfl
    rw [World.cell?_setCell_other _ _ _ _ (by simp <;> omega)]
    refine h.emp k' h1 (fun e => ?_) (fun e => ?_)
    · have := h2 e; simp at this; exact this.1
    · have := h3 e; simp at this; exact this.1
  · intro e
    by_cases hk34 : k = 34
    · subst hk34; exact hnew
    · refine hesc 34 (fun e => hk34 e.symm) (h.c34 ?_)
      simpa [hk34] using e
  · intro e
    by_cases hk92 : k = 92
    · subst hk92; exact hnew
    · refine hesc 92 (fun e => hk92 e.symm) (h.c92 ?_)
      simpa [hk92] using e
  · rw [World.cell?_setCell_other _ _ _ _ (by simp <;> omega)]
    exact h.tr
end BS

theorem info9 : (Tryz.prog.info? 9).map (fun i => (i.zero, i.size, i.bytes)) = some (some (.string ⟨#[]⟩), 1, 16) := by kernel_rfl
end Go.Proofs.YtjmjmnagnbgmfaaGreatDoor
