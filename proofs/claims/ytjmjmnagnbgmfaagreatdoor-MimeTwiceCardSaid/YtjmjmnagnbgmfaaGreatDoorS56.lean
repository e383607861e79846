import Derived.Test.YtjmjmnagnbgmfaaGreatDoorS42
import Derived.Test.YtjmjmnagnbgmfaaGreatDoorS45
/-! MimeTwice: what stands in memory. -/
namespace Go.Proofs.YtjmjmnagnbgmfaaGreatDoor
open Go.RowKit Go.Shelf Go.Lib Go.Proofs.YtjmjmnagnbgmfaaGreatDoorW.PrintWords

/-- The first bytes in great letters. -/
def upTo (l : List UInt8) (k : Nat) : List UInt8 := (l.take k).map upB ++ l.drop k
theorem upTo_length (l : List UInt8) (k : Nat) : (upTo l k).length = l.length := by
  simp only [upTo, List.length_append, List.length_map, List.length_take, List.length_drop]
  omega
theorem upTo_zero (l : List UInt8) : upTo l 0 = l := by simp [upTo]
theorem upTo_all (l : List UInt8) : upTo l l.length = up l := by simp [upTo, up]
theorem upTo_at (l : List UInt8) (k : Nat) (h : k < l.length) : (upTo l k).getD k 0 = l.getD k 0 := by
  rw [List.getD_eq_getElem?_getD, List.getD_eq_getElem?_getD, upTo, List.getElem?_append_right (by simp; omega)]
  simp [Nat.min_eq_left (Nat.le_of_lt h)]
theorem upTo_succ (l : List UInt8) (k : Nat) (h : k < l.length) : upTo l (k + 1) = (upTo l k).set k (upB (l.getD k 0)) := by
  have hk : ((l.take k).map upB).length = k := by simp; omega
  have hd : (l.drop k).set 0 (upB (l.getD k 0)) = upB l[k] :: l.drop (k + 1) := by
    rw [List.drop_eq_getElem_cons h, List.set_cons_zero, List.getD_eq_getElem?_getD, List.getElem?_eq_getElem h]
    rfl
  unfold upTo
  rw [List.set_append_right _ _ (by omega), hk, Nat.sub_self, hd, List.take_succ_eq_append_getElem h, List.map_append]
  simp

/-- The type's variable, the row of the name's bytes. -/
structure UP (w wr : World) (M K : Nat) (x y z : Value) (row : List UInt8) : Prop where
  ms : MS w wr M x y z
  lt : M < K
  klt : K < wr.heap.size
  row : RowB wr K row
namespace UP
variable {w wr w1 : World} {M K : Nat} {x y z : Value} {row : List UInt8}
theorem step (h : UP w wr M K x y z row) (hb : Below wr.heap.size wr w1) : UP w w1 M K x y z row :=
  ⟨h.ms.step hb, h.lt, Nat.lt_of_lt_of_le h.klt hb.size, fun j hj => by
    have h1 := h.row j hj
    rw [hb.cell (p := ⟨K, j, none⟩) h.klt, hb.frozen (p := ⟨K, j, none⟩) h.klt]
    exact h1⟩
theorem put (h : UP w wr M K x y z row) (k : Nat) (hk : k < row.length) (b : UInt8) : UP w (wr.setCell ⟨K, k, none⟩ (.int .u8 b.toNat)) M K x y z (row.set k b) :=
  ⟨⟨h.ms.below.setCell (Nat.le_trans h.ms.ge (Nat.le_of_lt h.lt)) _, h.ms.ge, by rw [Below.heap_setCell _ _ _ _ (Nat.ne_of_lt h.lt)]; exact h.ms.blk⟩, h.lt, by simpa [World.setCell] using h.klt, rowB_set h.row k hk b⟩
theorem conv (h : UP w wr M K x y z row) (cap : Nat) : (convert 34 9 (.slice (some ⟨K, 0, none⟩) row.length cap)).run Tryz.prog wr = .ok (.string (sOf row)) wr := rowB_string h.row cap 9 Tryz.underlying9
end UP

/-- A new Mime's block, behind one call. -/
theorem z25b {w7 w8 : World} (hb : Below (w7.alloc (.cells #[.string ⟨#[]⟩, .string ⟨#[]⟩, .slice none 0 0] 25)).heap.size (w7.alloc (.cells #[.string ⟨#[]⟩, .string ⟨#[]⟩, .slice none 0 0] 25)) w8) :
    w8.heap[w7.heap.size]? = some (.cells #[.string ⟨#[]⟩, .string ⟨#[]⟩, .slice none 0 0] 25 (0, 0)) :=
  (hb.block w7.heap.size (by simp)).trans (heap_alloc_new w7 _)
/-- .. behind two. -/
theorem z25c {w5 w7 w8 : World} (hb7 : Below (w5.alloc (.cells #[.string ⟨#[]⟩, .string ⟨#[]⟩, .slice none 0 0] 25)).drew.heap.size (w5.alloc (.cells #[.string ⟨#[]⟩, .string ⟨#[]⟩, .slice none 0 0] 25)).drew w7) (hb8 : Below w7.heap.size w7 w8) :
    w8.heap[w5.heap.size]? = some (.cells #[.string ⟨#[]⟩, .string ⟨#[]⟩, .slice none 0 0] 25 (0, 0)) :=
  (hb8.block w5.heap.size (by have h := hb7.size; simp at h; omega)).trans (z25 hb7)

/-- The new Mime's block was made ahead of the last call. -/
theorem twoD {w WN w8 : World} {M B : Nat} {a b : Value} {A A5 : Option Addr} {c c5 : Nat} {ps : List Pm} (hm : MS w WN M a b (.slice A ps.length c)) (hr : PRd WN A ps) {x0 x1 x2 : Value}
    (hb : Below WN.heap.size WN w8) (h25 : w8.heap[WN.heap.size]? = some (.cells #[x0, x1, x2] 25 (0, 0))) (ho5 : w8.ownsRow B 36 2 (.slice A5 ps.length c5) ps.length (cellsP ps)) :
    Two w (((w8.setCell ⟨WN.heap.size, 0, none⟩ a).setCell ⟨WN.heap.size, 1, none⟩ b).setCell ⟨WN.heap.size, 2, none⟩ (.slice A5 ps.length c5)) M WN.heap.size a b A A5 c c5 ps := by
  have h1 := hm.step hb
  have hoth : ∀ k, k ≠ WN.heap.size → (((w8.setCell ⟨WN.heap.size, 0, none⟩ a).setCell ⟨WN.heap.size, 1, none⟩ b).setCell ⟨WN.heap.size, 2, none⟩ (.slice A5 ps.length c5)).heap[k]? = w8.heap[k]? := fun k hk => by
    rw [Below.heap_setCell _ _ _ _ hk, Below.heap_setCell _ _ _ _ hk, Below.heap_setCell _ _ _ _ hk]
  have hN : MS w w8 WN.heap.size x0 x1 x2 := ⟨h1.below, hm.below.size, h25⟩
  have hN2 := hN.set a b (.slice A5 ps.length c5)
  have hM : M ≠ WN.heap.size := by have := hm.lt; omega
  have hbW : Below WN.heap.size w8 (((w8.setCell ⟨WN.heap.size, 0, none⟩ a).setCell ⟨WN.heap.size, 1, none⟩ b).setCell ⟨WN.heap.size, 2, none⟩ (.slice A5 ps.length c5)) :=
    (((Below.refl _ w8).setCell (p := ⟨WN.heap.size, 0, none⟩) (Nat.le_refl _) _).setCell (p := ⟨WN.heap.size, 1, none⟩) (Nat.le_refl _) _).setCell (p := ⟨WN.heap.size, 2, none⟩) (Nat.le_refl _) _
  refine ⟨⟨hN2.below, hm.ge, (hoth M hM).trans h1.blk⟩, hN2, hr.below (hb.trans hbW), ?_⟩
  have hk := own_move (w1 := ((w8.setCell ⟨WN.heap.size, 0, none⟩ a).setCell ⟨WN.heap.size, 1, none⟩ b).setCell ⟨WN.heap.size, 2, none⟩ (.slice A5 ps.length c5)) ho5 (fun k hk => hoth k (fun e => by
    obtain ⟨cc, hc⟩ := own_typed ho5 k hk
    rw [e, h25] at hc
    injection hc with hc
    injection hc with _ ht
    exact absurd ht (by decide)))
  obtain ⟨A', c', he, _, hrd⟩ := prd_of_own hk
  injection he with e1 e2 e3
  subst e1
  exact hrd
theorem two1 {w w5 w7 w8 : World} {M B : Nat} {a b : Value} {A A5 : Option Addr} {c c5 : Nat} {ps : List Pm} (hm : MS w w5 M a b (.slice A ps.length c)) (hr : PRd w5 A ps)
    (hb7 : Below w5.drew.heap.size w5.drew w7) (hb8 : Below w7.heap.size w7 w8) (ho5 : w8.ownsRow B 36 2 (.slice A5 ps.length c5) ps.length (cellsP ps)) : Two w (w8.alloc (.cells #[a, b, .slice A5 ps.length c5] 25)) M w8.heap.size a b A A5 c c5 ps := by
  have hb7' : Below w5.heap.size w5 w7 := ⟨hb7.os, hb7.tape, hb7.output, hb7.size, hb7.block⟩
  have hb := hb7'.trans (hb8.mono hb7'.size)
  have h1 := hm.step hb
  have hA : Below w8.heap.size w8 (w8.alloc (.cells #[a, b, .slice A5 ps.length c5] 25)) := (Below.refl _ w8).alloc (Nat.le_refl _) _
  have h2 := h1.step hA
  obtain ⟨A', c', he, _, hrd⟩ := prd_of_own ho5
  injection he with e1 e2 e3
  subst e1
  exact ⟨h2, ⟨h2.below, h1.below.size, heap_alloc_new w8 _⟩, (hr.below hb).below hA, hrd.below hA⟩
theorem two2 {w w5 w7 w8 : World} {M B : Nat} {a b : Value} {A A5 : Option Addr} {c c5 : Nat} {ps : List Pm} (hm : MS w w5 M a b (.slice A ps.length c)) (hr : PRd w5 A ps)
    (hb7 : Below w5.drew.heap.size w5.drew w7) (hb8 : Below (w7.alloc (.cells #[.string ⟨#[]⟩, .string ⟨#[]⟩, .slice none 0 0] 25)).heap.size (w7.alloc (.cells #[.string ⟨#[]⟩, .string ⟨#[]⟩, .slice none 0 0] 25)) w8)
    (ho5 : w8.ownsRow B 36 2 (.slice A5 ps.length c5) ps.length (cellsP ps)) : Two w (((w8.setCell ⟨w7.heap.size, 0, none⟩ a).setCell ⟨w7.heap.size, 1, none⟩ b).setCell ⟨w7.heap.size, 2, none⟩ (.slice A5 ps.length c5)) M w7.heap.size a b A A5 c c5 ps := by
  have hb7' : Below w5.heap.size w5 w7 := ⟨hb7.os, hb7.tape, hb7.output, hb7.size, hb7.block⟩
  have hA : Below w7.heap.size w7 (w7.alloc (.cells #[.string ⟨#[]⟩, .string ⟨#[]⟩, .slice none 0 0] 25)) := (Below.refl _ w7).alloc (Nat.le_refl _) _
  exact twoD (hm.step hb7') (hr.below hb7') (hA.trans (hb8.mono (by simp))) (z25b hb8) ho5
theorem two3 {w w5 w7 w8 : World} {M B : Nat} {a b : Value} {A A5 : Option Addr} {c c5 : Nat} {ps : List Pm} (hm : MS w w5 M a b (.slice A ps.length c)) (hr : PRd w5 A ps)
    (hb7 : Below (w5.alloc (.cells #[.string ⟨#[]⟩, .string ⟨#[]⟩, .slice none 0 0] 25)).drew.heap.size (w5.alloc (.cells #[.string ⟨#[]⟩, .string ⟨#[]⟩, .slice none 0 0] 25)).drew w7) (hb8 : Below w7.heap.size w7 w8)
    (ho5 : w8.ownsRow B 36 2 (.slice A5 ps.length c5) ps.length (cellsP ps)) : Two w (((w8.setCell ⟨w5.heap.size, 0, none⟩ a).setCell ⟨w5.heap.size, 1, none⟩ b).setCell ⟨w5.heap.size, 2, none⟩ (.slice A5 ps.length c5)) M w5.heap.size a b A A5 c c5 ps := by
  have hA : Below w5.heap.size w5 (w5.alloc (.cells #[.string ⟨#[]⟩, .string ⟨#[]⟩, .slice none 0 0] 25)) := (Below.refl _ w5).alloc (Nat.le_refl _) _
  have hs : (w5.alloc (.cells #[.string ⟨#[]⟩, .string ⟨#[]⟩, .slice none 0 0] 25)).heap.size = w5.heap.size + 1 := by simp
  have hs7 : w5.heap.size + 1 ≤ w7.heap.size := by have h := hb7.size; simp at h; omega
  have hb7' : Below (w5.heap.size + 1) (w5.alloc (.cells #[.string ⟨#[]⟩, .string ⟨#[]⟩, .slice none 0 0] 25)) w7 := ⟨hb7.os, hb7.tape, hb7.output, by rw [hs]; exact hs7, fun k hk => hb7.block k (by simp; omega)⟩
  have hb := (hA.trans (hb7'.mono (by omega))).trans (hb8.mono (Nat.le_of_lt hs7))
  exact twoD hm hr hb (z25c hb7 hb8) ho5
end Go.Proofs.YtjmjmnagnbgmfaaGreatDoor
