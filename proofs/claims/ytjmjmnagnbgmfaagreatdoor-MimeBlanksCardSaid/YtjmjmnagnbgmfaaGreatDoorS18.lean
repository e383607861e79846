import Derived.Test.YtjmjmnagnbgmfaaGreatDoorS17
/-! sync.Once.Do of a Replacer. -/
namespace Go.Proofs.YtjmjmnagnbgmfaaGreatDoor
open Go.Lib Go.Shelf Go.RowKit

theorem Olds.keep {w w' : World} {b q c : Nat} {d s : Int} {x3 : Value} (h : Olds w b q c) (hr : RB w' b d s x3 (.slice (some ⟨q, 0, none⟩) 4 c)) (hs : w.heap.size ≤ w'.heap.size) (hk : w'.heap[q]? = w.heap[q]?) : Olds w' b q c :=
  ⟨hr.lt, Nat.lt_of_lt_of_le h.ql hs, hr.c4, (World.cell?_of_block hk).trans h.c0, (World.cell?_of_block hk).trans h.c1, (World.cell?_of_block hk).trans h.c2, (World.cell?_of_block hk).trans h.c3⟩

theorem Done.set0 {w w' : World} {b z : Nat} {d s : Int} (h : Done w w' b d s z) (d' : Int) : Done w (w'.setCell ⟨b, 0, none⟩ (.int .u32 d')) b d' s z :=
  ⟨h.below.setCell (Nat.le_refl _) _, by simpa using h.size, h.rb.s0 d', h.rdy.set _ (by simp) _⟩
theorem Done.set1 {w w' : World} {b z : Nat} {d s : Int} (h : Done w w' b d s z) (s' : Int) : Done w (w'.setCell ⟨b, 1, none⟩ (.int .i32 s')) b d s' z :=
  ⟨h.below.setCell (Nat.le_refl _) _, by simpa using h.size, h.rb.s1 s', h.rdy.set _ (by simp) _⟩
theorem Done.drew {w w' : World} {b z : Nat} {d s : Int} (h : Done w w' b d s z) : Done w w'.drew b d s z :=
  ⟨h.below.drew, h.size, h.rb, h.rdy.keep (Nat.le_refl _) (fun _ _ _ => rfl)⟩

set_option maxRecDepth 100000 in
set_option maxHeartbeats 1600000 in
theorem slow_calls (b q c : Nat) (w : World) (h : Olds w b q c) (hbq : q ≠ b) (hr : RB w b 0 0 .nilIface (.slice (some ⟨q, 0, none⟩) 4 c)) :
    Calls Tryz.prog 96 #[.pointer (some ⟨b, 0, none⟩), .func (.func 84) #[.pointer (some ⟨b, 0, none⟩)] #[]] w fun e w' => e = .returned (.tuple #[]) ∧ ∃ z, Done w w' b 1 0 z := by
  have HR := Lib.hid hr
  have HR1 := Lib.hid (hr.s1 1)
  have HO1 : Hid (Olds (w.setCell ⟨b, 1, none⟩ (.int .i32 1)) b q c) := h.keep HR1.out (by simp) (Below.heap_setCell _ _ _ _ hbq)
  have hl := run_call_load (P := Tryz.prog) Tryz.func103 (by kernel_rfl) (by kernel_rfl) (by kernel_rfl) .u32 (by kernel_rfl) (w := w.setCell ⟨b, 1, none⟩ (.int .i32 1)) (a := ⟨b, 0, none⟩) (x := 0) HR1.out.c0
  have hnot : ∀ (x : Bool) (w : World), (Op.unary .not (.bool x)).run Tryz.prog w = .ok (.bool (!x)) w := fun _ _ => rfl
  have hBl : Hid (Below b w (w.setCell ⟨b, 1, none⟩ (.int .i32 1))) := (Below.refl b w).setCell (p := ⟨b, 1, none⟩) (Nat.le_refl _) _
  clear h hr
  go_enter_defers Tryz.func96, Tryz.ntmps96
  go_wp2_with (first | (go_at_call 104; refine (lock_free ⟨b, 1, none⟩ _ HR.out.c1 (HR.out.f 1)).mono ?_; rintro e w' ⟨rfl, rfl⟩) | (go_at_call 84; refine (once_calls b q c 0 1 _ HO1.out HR1.out).mono ?_; rintro e w' ⟨rfl, hd⟩) | (go_at_call 95; go_in))
  obtain ⟨z, hd⟩ := hd
  have hD : Done w w' b 0 1 z := ⟨hBl.out.trans hd.below, by simpa using hd.size, hd.rb, hd.rdy⟩
  have HD := Lib.hid hD
  clear hd hD
  refine leaves_cons (f := 106) (args := #[.pointer (some ⟨b, 0, none⟩), .bool true]) (by simp) (by simp [go_sem]) ?_
  refine (store_deferred ⟨b, 0, none⟩ (.int .u32 0) .returning _ HD.out.rb.c0 (HD.out.rb.f 0)).mono ?_
  rintro e u' w'' ⟨rfl, rfl, rfl⟩
  have HD2 := Lib.hid (HD.out.drew.set0 1)
  refine leaves_cons (f := 105) (args := #[.pointer (some ⟨b, 1, none⟩)]) (by simp [settle]) (by simp [go_sem]) ?_
  refine (unlock_deferred ⟨b, 1, none⟩ _ _ HD2.out.rb.c1 (HD2.out.rb.f 1)).mono ?_
  rintro e u' w'' ⟨rfl, rfl, rfl⟩
  have HD3 := HD2.out.set1 0
  simp [Leaves, settle, results, Tryz.results96]
  exact ⟨z, HD3⟩

set_option maxRecDepth 100000 in
set_option maxHeartbeats 1600000 in
theorem do_calls (b q c : Nat) (w : World) (h : Olds w b q c) (hbq : q ≠ b) (hr : RB w b 0 0 .nilIface (.slice (some ⟨q, 0, none⟩) 4 c)) :
    Calls Tryz.prog 83 #[.pointer (some ⟨b, 0, none⟩), .func (.func 84) #[.pointer (some ⟨b, 0, none⟩)] #[]] w fun e w' => e = .returned (.tuple #[]) ∧ ∃ z, Done w w' b 1 0 z := by
  have hl := run_call_load (P := Tryz.prog) Tryz.func103 (by kernel_rfl) (by kernel_rfl) (by kernel_rfl) .u32 (by kernel_rfl) hr.c0
  have hnot : ∀ (x : Bool) (w : World), (Op.unary .not (.bool x)).run Tryz.prog w = .ok (.bool (!x)) w := fun _ _ => rfl
  go_enter Tryz.func83, Tryz.ntmps83
  go_wp2_with (first | (go_at_call 96; refine (slow_calls b q c _ h hbq hr).mono ?_; rintro e w' ⟨rfl, hd⟩) | (go_at_call 95; go_in))
  go_end0
  exact ⟨rfl, hd⟩
end Go.Proofs.YtjmjmnagnbgmfaaGreatDoor
