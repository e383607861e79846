import Derived.Test.YtjmjmnagnbgmfaaGreatDoorS16
/-! strings.Replacer.buildOnce under its sync.Once. -/
namespace Go.Proofs.YtjmjmnagnbgmfaaGreatDoor
open Go.Lib Go.Shelf Go.RowKit

/-- A Replacer's block. -/
def RB (w : World) (b : Nat) (d s : Int) (x3 x4 : Value) : Prop := w.heap[b]? = some (.cells #[.int .u32 d, .int .i32 s, .int .u32 0, x3, x4] 103 (0, 0))
namespace RB
variable {w : World} {b : Nat} {d s : Int} {x3 x4 : Value}
theorem lt (h : RB w b d s x3 x4) : b < w.heap.size := (Array.getElem?_eq_some_iff.1 h).1
theorem f (h : RB w b d s x3 x4) (k : Nat) : w.frozen? ⟨b, k, none⟩ = false := by
  have h' : w.heap[b]? = _ := h
  simp [World.frozen?, h']
theorem c0 (h : RB w b d s x3 x4) : w.cell? ⟨b, 0, none⟩ = some (.int .u32 d) := by
  have h' : w.heap[b]? = _ := h
  simp [World.cell?, h']
theorem c1 (h : RB w b d s x3 x4) : w.cell? ⟨b, 1, none⟩ = some (.int .i32 s) := by
  have h' : w.heap[b]? = _ := h
  simp [World.cell?, h']
theorem c3 (h : RB w b d s x3 x4) : w.cell? ⟨b, 3, none⟩ = some x3 := by
  have h' : w.heap[b]? = _ := h
  simp [World.cell?, h']
theorem c4 (h : RB w b d s x3 x4) : w.cell? ⟨b, 4, none⟩ = some x4 := by
  have h' : w.heap[b]? = _ := h
  simp [World.cell?, h']
theorem keep {w' : World} (h : RB w b d s x3 x4) (hk : w'.heap[b]? = w.heap[b]?) : RB w' b d s x3 x4 := hk.trans h
theorem s0 (h : RB w b d s x3 x4) (d' : Int) : RB (w.setCell ⟨b, 0, none⟩ (.int .u32 d')) b d' s x3 x4 := blkSet h 0 _
theorem s1 (h : RB w b d s x3 x4) (s' : Int) : RB (w.setCell ⟨b, 1, none⟩ (.int .i32 s')) b d s' x3 x4 := blkSet h 1 _
theorem s3 (h : RB w b d s x3 x4) (x : Value) : RB (w.setCell ⟨b, 3, none⟩ x) b d s x x4 := blkSet h 3 _
theorem s4 (h : RB w b d s x3 x4) (x : Value) : RB (w.setCell ⟨b, 4, none⟩ x) b d s x3 x := blkSet h 4 _
end RB

/-- The table that build has laid. -/
structure Rdy (w : World) (B z : Nat) : Prop where
  ge : B ≤ z
  lt : z < w.heap.size
  emp : ∀ k, k < 256 → k ≠ 34 → k ≠ 92 → w.cell? ⟨z, k, none⟩ = some (.slice none 0 0)
  c34 : Esc w z 34
  c92 : Esc w z 92
  tr : ∃ p, B ≤ p ∧ p < w.heap.size ∧ w.cell? ⟨z, 256, none⟩ = some (.slice (some ⟨p, 0, none⟩) 2 2) ∧ w.cell? ⟨p, 0, none⟩ = some (.string ⟨#[34]⟩) ∧ w.cell? ⟨p, 1, none⟩ = some (.string ⟨#[92]⟩)
theorem Rdy.keep {w w' : World} {B z : Nat} (h : Rdy w B z) (hs : w.heap.size ≤ w'.heap.size) (hk : ∀ i, B ≤ i → i < w.heap.size → w'.heap[i]? = w.heap[i]?) : Rdy w' B z := by
  obtain ⟨p, p1, p2, p3, p4, p5⟩ := h.tr
  have hz := hk z h.ge h.lt
  have hp := hk p p1 p2
  exact ⟨h.ge, by have := h.lt; omega, fun k a b c => (World.cell?_of_block hz).trans (h.emp k a b c), h.c34.keep hs (fun i hi => hk i (by have := h.ge; omega)), h.c92.keep hs (fun i hi => hk i (by have := h.ge; omega)),
    p, p1, by omega, (World.cell?_of_block hz).trans p3, (World.cell?_of_block hp).trans p4, (World.cell?_of_block hp).trans p5⟩
theorem Rdy.set {w : World} {B z : Nat} (h : Rdy w B z) (a : Addr) (ha : a.block < B) (u : Value) : Rdy (w.setCell a u) B z :=
  h.keep (by simp) (fun i hi _ => Below.heap_setCell w a u i (by omega))
theorem Rdy.of {w w' : World} (h : BS w w' 2 2 true true) : Rdy w' w.heap.size (w.heap.size + 1) := by
  refine ⟨by omega, h.lt, fun k a b c => h.emp k a (fun e => absurd e b) (fun e => absurd e c), h.c34 rfl, h.c92 rfl, w.heap.size, Nat.le_refl _, by have := h.lt; omega, h.tr, ?_⟩
  have ho := h.own
  rcases ho.2 with h' | ⟨g, cap, cur, e1, e2, e3, e4, e5, e6, e7⟩
  · simp at h'
  · simp only [Value.slice.injEq, Option.some.injEq, Addr.mk.injEq, and_true, true_and] at e1
    obtain ⟨rfl, rfl⟩ := e1
    have ht : cur.toList.take 2 = [.string ⟨#[34]⟩, .string ⟨#[92]⟩] := e7
    have hx : ∀ k, k < 2 → cur[k]? = ([.string ⟨#[34]⟩, .string ⟨#[92]⟩] : List Value)[k]? := by
      intro k hk
      rw [← ht, List.getElem?_take_of_lt hk, Array.getElem?_toList]
    exact ⟨by simp only [World.cell?, e3]; simpa using hx 0 (by omega), by simp only [World.cell?, e3]; simpa using hx 1 (by omega)⟩

/-- What building leaves. -/
structure Done (w w' : World) (b : Nat) (d s : Int) (z : Nat) : Prop where
  below : Below b w w'
  size : w.heap.size ≤ w'.heap.size
  rb : RB w' b d s (.iface 136 (.pointer (some ⟨z, 0, none⟩))) (.slice none 0 0)
  rdy : Rdy w' (b + 1) z

set_option maxRecDepth 100000 in
set_option maxHeartbeats 1600000 in
theorem once_calls (b q c : Nat) (d s : Int) (w : World) (h : Olds w b q c) (hr : RB w b d s .nilIface (.slice (some ⟨q, 0, none⟩) 4 c)) :
    Calls Tryz.prog 84 #[.pointer (some ⟨b, 0, none⟩)] w fun e w' => e = .returned (.tuple #[]) ∧ ∃ z, Done w w' b d s z := by
  have HO := Lib.hid h
  have HR := Lib.hid hr
  clear h hr
  go_enter Tryz.func84, Tryz.ntmps84
  go_wp2_with fail
  refine (build_calls b q c w HO.out).mono ?_
  rintro e w1 ⟨rfl, hb⟩
  have HR1 := Lib.hid (HR.out.keep (hb.below.block b HR.out.lt))
  have HD := Lib.hid (Rdy.of hb)
  have HB := Lib.hid hb.below
  clear hb
  have c3 := HR1.out.c3
  have f3 := HR1.out.f 3
  have HR2 := Lib.hid (HR1.out.s3 (.iface 136 (.pointer (some ⟨w.heap.size + 1, 0, none⟩))))
  have c4 := HR2.out.c4
  have f4 := HR2.out.f 4
  have HR3 := Lib.hid (HR2.out.s4 (.slice none 0 0))
  go_wp2_with fail
  go_end0
  have hlt := HR.out.lt
  refine ⟨rfl, w.heap.size + 1, ⟨((HB.out.mono (by omega)).setCell (by simp) _).setCell (by simp) _, by simpa using HB.out.size, HR3.out, ?_⟩⟩
  have := (HD.out.set ⟨b, 3, none⟩ hlt (.iface 136 (.pointer (some ⟨w.heap.size + 1, 0, none⟩)))).set ⟨b, 4, none⟩ hlt (.slice none 0 0)
  obtain ⟨p, p1, p2⟩ := this.tr
  exact ⟨by omega, this.lt, this.emp, this.c34, this.c92, p, by omega, p2⟩
end Go.Proofs.YtjmjmnagnbgmfaaGreatDoor
