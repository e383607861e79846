import Derived.Test.YtjmjmnagnbgmfaaGreatDoorS48
import Derived.Test.YtjmjmnagnbgmfaaGreatDoorS40
import Derived.Test.YtjmjmnagnbgmfaaGreatDoorS34
/-! The reference's Parse. -/
namespace Go.Proofs.YtjmjmnagnbgmfaaGreatDoor
open Go.RowKit Go.Shelf Go.Lib Go.Proofs.YtjmjmnagnbgmfaaGreatDoorW.PrintWords PMimeReads

/-- The result's variable, the type's variable, the parameters' row. -/
structure RS (w wr : World) (K : Nat) (a b v : Value) (ps : List Pm) : Prop where
  below : Below w.heap.size w wr
  res : wr.heap[w.heap.size]? = some (.cells #[.string ⟨#[]⟩, .string ⟨#[]⟩, .slice none 0 0] 25 (0, 0))
  ge : w.heap.size < K
  blk : wr.heap[K]? = some (.cells #[a, b, v] 25 (0, 0))
  own : wr.ownsRow w.heap.size 36 2 v ps.length (cellsP ps)
namespace RS
variable {w wr w1 : World} {K : Nat} {a b v : Value} {ps : List Pm}
theorem lt (h : RS w wr K a b v ps) : K < wr.heap.size := (Array.getElem?_eq_some_iff.1 h.blk).1
theorem c0 (h : RS w wr K a b v ps) : wr.cell? ⟨K, 0, none⟩ = some a := by simp [World.cell?, h.blk]
theorem c1 (h : RS w wr K a b v ps) : wr.cell? ⟨K, 1, none⟩ = some b := by simp [World.cell?, h.blk]
theorem c2 (h : RS w wr K a b v ps) : wr.cell? ⟨K, 2, none⟩ = some v := by simp [World.cell?, h.blk]
theorem frozen (h : RS w wr K a b v ps) (j : Nat) : wr.frozen? ⟨K, j, none⟩ = false := by simp [World.frozen?, h.blk]
theorem ms (h : RS w wr K a b v ps) : MS w wr w.heap.size (.string ⟨#[]⟩) (.string ⟨#[]⟩) (.slice none 0 0) := ⟨h.below, Nat.le_refl _, h.res⟩
theorem step (h : RS w wr K a b v ps) (hb : Below wr.heap.size wr w1) : RS w w1 K a b v ps :=
  ⟨h.below.trans (hb.mono h.below.size), (hb.block _ (Nat.lt_trans h.ge h.lt)).trans h.res, h.ge, (hb.block K h.lt).trans h.blk, pw_own_below h.own hb⟩
theorem ne (h : RS w wr K a b v ps) {k : Nat} (hk : v.ownBlock = some k) : k ≠ K ∧ k ≠ w.heap.size := by
  obtain ⟨c, hc⟩ := own_typed h.own k hk
  refine ⟨fun e => ?_, fun e => ?_⟩
  · rw [e, h.blk] at hc
    injection hc with hc
    injection hc with _ ht
    exact absurd ht (by decide)
  · rw [e, h.res] at hc
    injection hc with hc
    injection hc with _ ht
    exact absurd ht (by decide)
theorem sub (h : RS w wr K a b v ps) (b' : Value) : RS w (wr.setCell ⟨K, 1, none⟩ b') K a b' v ps := by
  refine ⟨h.below.setCell (Nat.le_of_lt h.ge) _, ?_, h.ge, ?_, ?_⟩
  · rw [Below.heap_setCell _ _ _ _ (Nat.ne_of_lt h.ge)]; exact h.res
  · simp [World.setCell, Array.getElem?_modify, h.blk]
  · exact own_move h.own (fun k hk => Below.heap_setCell wr _ _ k (h.ne hk).1)
theorem push (h : RS w wr K a b v ps) {p : Pm} {v' : Value} (hown : w1.ownsRow w.heap.size 36 2 v' (ps.length + 1) (cellsP ps ++ encP p)) (hg : wr.grownBy w1 v.ownBlock) : RS w (w1.setCell ⟨K, 2, none⟩ v') K a b v' (ps ++ [p]) := by
  have hK : w1.heap[K]? = some (.cells #[a, b, v] 25 (0, 0)) := (hg.block K h.lt (fun e => (h.ne e.symm).1 rfl)).trans h.blk
  have hR : w1.heap[w.heap.size]? = some (.cells #[.string ⟨#[]⟩, .string ⟨#[]⟩, .slice none 0 0] 25 (0, 0)) := (hg.block _ (Nat.lt_trans h.ge h.lt) (fun e => (h.ne e.symm).2 rfl)).trans h.res
  have hB : Below w.heap.size w w1 := h.below.grown hg h.below.size (own_base h.own)
  refine ⟨hB.setCell (Nat.le_of_lt h.ge) _, ?_, h.ge, ?_, ?_⟩
  · rw [Below.heap_setCell _ _ _ _ (Nat.ne_of_lt h.ge)]; exact hR
  · simp [World.setCell, Array.getElem?_modify, hK]
  · rw [cellsP_snoc, List.length_append]
    refine own_move hown (fun k hk => Below.heap_setCell w1 _ _ k (fun e => ?_))
    obtain ⟨c, hc⟩ := own_typed hown k hk
    have e' : k = K := e
    rw [e', hK] at hc
    injection hc with hc
    injection hc with _ ht
    exact absurd ht (by decide)
/-- Behind the stores of the result. -/
theorem fin (h : RS w wr K a b v ps) : (((wr.setCell ⟨w.heap.size, 0, none⟩ a).setCell ⟨w.heap.size, 1, none⟩ b).setCell ⟨w.heap.size, 2, none⟩ v).ownsRow w.heap.size 36 2 v ps.length (cellsP ps) :=
  own_move h.own (fun k hk => by
    have hkk := (h.ne hk).2
    rw [Below.heap_setCell _ _ _ k hkk, Below.heap_setCell _ _ _ k hkk, Below.heap_setCell _ _ _ k hkk])
end RS
end Go.Proofs.YtjmjmnagnbgmfaaGreatDoor
