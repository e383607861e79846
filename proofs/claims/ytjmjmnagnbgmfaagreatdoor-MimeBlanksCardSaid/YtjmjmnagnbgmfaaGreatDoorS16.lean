import Derived.Test.YtjmjmnagnbgmfaaGreatDoorS15
/-! strings.Replacer.build: the walk. -/
namespace Go.Proofs.YtjmjmnagnbgmfaaGreatDoor
open Go.Lib Go.Shelf Go.RowKit

noncomputable def repC (K : Nat) : Array Value := (Tryz.zeroCells135.toList.set 256 (Value.slice (some ⟨K, 0, none⟩) 0 2)).toArray
theorem repC_size (K : Nat) : (repC K).size = 257 := by
  have : Tryz.zeroCells135.size = 257 := by kernel_rfl
  simp [repC, this]
theorem repC_all (K : Nat) : (repC K).all (·.oneCell') = true := by
  have h : Tryz.zeroCells135.toList.all (·.oneCell') = true := by kernel_rfl
  rw [Array.all_eq_true_iff_forall_mem]
  intro x hx
  simp only [repC, List.mem_toArray] at hx
  rcases List.mem_or_eq_of_mem_set hx with h' | h'
  · exact List.all_eq_true.1 h x h'
  · subst h'; rfl
def isNilS : Option Value → Bool
  | some (.slice none 0 0) => true
  | _ => false
theorem isNilS_eq {v : Option Value} (h : isNilS v = true) : v = some (.slice none 0 0) := by
  unfold isNilS at h
  split at h
  · rfl
  · cases h
theorem zero135_at (k : Nat) (hk : k < 256) : Tryz.zeroCells135[k]? = some (.slice none 0 0) := by
  have h : (List.range 256).all (fun k => isNilS Tryz.zeroCells135[k]?) = true := by kernel_rfl
  exact isNilS_eq (List.all_eq_true.1 h k (List.mem_range.2 hk))
theorem repC_at (K k : Nat) (hk : k < 256) : (repC K)[k]? = some (.slice none 0 0) := by
  rw [repC, List.getElem?_toArray, List.getElem?_set_ne (by omega), Array.getElem?_toList]
  exact zero135_at k hk
theorem repC_last (K : Nat) : (repC K)[256]? = some (.slice (some ⟨K, 0, none⟩) 0 2) := by
  have : Tryz.zeroCells135.size = 257 := by kernel_rfl
  rw [repC, List.getElem?_toArray, List.getElem?_set_self (by simp [this])]

theorem bs_start (w : World) : BS w ((w.alloc (.cells (madeCells #[.string ⟨#[]⟩] 2) 9)).alloc (.cells (repC w.heap.size) 135)) 0 0 false false := by
  have hrow : ((w.alloc (.cells (madeCells #[.string ⟨#[]⟩] 2) 9)).alloc (.cells (repC w.heap.size) 135)).heap[w.heap.size + 1]? = some (.cells (repC w.heap.size) 135 (0, 0)) := by
    have := heap_alloc_new (w.alloc (.cells (madeCells #[.string ⟨#[]⟩] 2) 9)) (.cells (repC w.heap.size) 135)
    simpa using this
  refine ⟨((Below.refl _ w).alloc (Nat.le_refl _) _).alloc (by simp) _, ⟨_, hrow, repC_size _⟩, ?_, by simp, by simp, ?_, ?_⟩
  · intro k hk _ _
    simp only [World.cell?, hrow]
    simp [repC_at _ k hk]
  · simp only [World.cell?, hrow]
    simp [repC_last]
  · refine ⟨rfl, .inr ⟨w.heap.size, 2, madeCells #[.string ⟨#[]⟩] 2, rfl, Nat.le_refl _, ?_, by omega, by decide, by rw [size_madeCells], rfl⟩⟩
    rw [heap_alloc_old _ _ (by simp)]
    exact heap_alloc_new w _

theorem storeRep (W : World) (n : Nat) (hn : n = W.heap.size) (K : Nat) : (storeCells ⟨n, 0, none⟩ (Tryz.zeroCells135.toList.set 256 (Value.slice (some ⟨K, 0, none⟩) 0 2))).run Tryz.prog (W.alloc (.cells Tryz.zeroCells135 135)) = .ok () (W.alloc (.cells (repC K) 135)) := by
  subst hn
  have h135 : (Tryz.prog.info? 135).map (·.size) = some 257 := by kernel_rfl
  have hz : Tryz.zeroCells135.size = 257 := by kernel_rfl
  exact run_storeCells_new (P := Tryz.prog) W 135 Tryz.zeroCells135 (repC K) (by rw [repC_size]; exact h135) (by rw [repC_size]; exact hz) (repC_all K)

theorem conv1 (W : World) (n : Nat) (hn : n = W.heap.size) (c : UInt8) : (convert 34 9 (.slice (some ⟨n, 0, none⟩) 1 1)).run Tryz.prog (W.alloc (.cells #[.int .u8 (c.toNat : Int)] 5)) = .ok (.string (sOf [c])) (W.alloc (.cells #[.int .u8 (c.toNat : Int)] 5)) := by
  subst hn
  have hr : RowB (W.alloc (.cells #[.int .u8 (c.toNat : Int)] 5)) W.heap.size [c] := by
    intro j hj
    have : j = 0 := by simp at hj; omega
    subst this
    exact ⟨by simp [nat8], by simp⟩
  exact rowB_string hr 1 9 Tryz.underlying9

set_option maxRecDepth 100000 in
set_option maxHeartbeats 1600000 in
theorem build_calls (b q c : Nat) (w : World) (h : Olds w b q c) :
    Calls Tryz.prog 97 #[.pointer (some ⟨b, 0, none⟩)] w fun e w' => e = .returned (.iface 136 (.pointer (some ⟨w.heap.size + 1, 0, none⟩))) ∧ BS w w' 2 2 true true := by
  have HO := Lib.hid h
  obtain ⟨bl, ql, sl, c0, c1, c2, c3⟩ := h
  have hmk : ∀ W : World, (Instr.makeSlice 32 (.int .i64 0) (.int .i64 2)).run Tryz.prog W = .ok (.slice (some ⟨W.heap.size, 0, none⟩) 0 2) (W.alloc (.cells (madeCells #[.string ⟨#[]⟩] 2) 9)) := by
    intro W
    obtain ⟨i0, hi, hz0, hz1, hz2⟩ := info_parts info9
    have := run_makeSlice (P := Tryz.prog) (w := W) 32 9 i0 (.string ⟨#[]⟩) Tryz.underlying32 hi hz0 .i64 .i64 0 2 (by omega) (by omega) (by rw [hz1]; decide) (by rw [hz2]; decide) (by decide)
    rw [hz1] at this
    exact this
  have hst := storeRep (w.alloc (.cells (madeCells #[.string ⟨#[]⟩] 2) 9)) (w.heap.size + 1) (by simp) w.heap.size
  go_enter Tryz.func97, Tryz.ntmps97
  go_wp2
  go_loopg [4, 5] 2 (fun g r s wr => ∃ j : Nat, 2 - j = g ∧ wr = w ∧ ((j = 0 ∧ r = .bool true ∧ s = .int .i64 0) ∨ (j = 1 ∧ r = .bool false ∧ s = .int .i64 2) ∨ (j = 2 ∧ r = .bool false ∧ s = .int .i64 4)))
  case atStart => exact ⟨0, rfl, rfl, .inl ⟨rfl, rfl, rfl⟩⟩
  case round =>
    obtain ⟨j, rfl, he, hj⟩ := hrel
    have he' := he.symm
    clear he
    subst he'
    rcases hj with ⟨rfl, rfl, rfl⟩ | ⟨rfl, rfl, rfl⟩ | ⟨rfl, rfl, rfl⟩
    · go_wp2
      go_roundg 1
      case measure => omega
      case rel => exact ⟨1, rfl, rfl, .inr (.inl ⟨rfl, rfl, rfl⟩)⟩
    · go_wp2
      go_roundg 0
      case measure => omega
      case rel => exact ⟨2, rfl, rfl, .inr (.inr ⟨rfl, rfl, rfl⟩)⟩
    · go_wp2
      have HB0 := Lib.hid (bs_start w)
      generalize (w.alloc (.cells (madeCells #[.string ⟨#[]⟩] 2) 9)).alloc (.cells (repC w.heap.size) 135) = w1 at HB0 ⊢
      clear hst hmk
      go_loopg [12] 2 (fun g i wr => ∃ j : Nat, 2 - j = g ∧ ((j = 0 ∧ i = .int .i64 2 ∧ Hid (BS w wr 0 0 false false)) ∨ (j = 1 ∧ i = .int .i64 0 ∧ Hid (BS w wr 1 1 true false)) ∨ (j = 2 ∧ i = .int .i64 (-2) ∧ Hid (BS w wr 2 2 true true))))
      case atStart => exact ⟨0, rfl, .inl ⟨rfl, rfl, HB0⟩⟩
      case round =>
        obtain ⟨j, rfl, hj⟩ := hrel
        clear HB0
        rcases hj with ⟨rfl, rfl, HB⟩ | ⟨rfl, rfl, HB⟩ | ⟨rfl, rfl, HB⟩
        · have HO2 := Lib.hid (HO.out.below HB.out.below)
          obtain ⟨_, _, _, _, _, _, _⟩ := HO2.out
          have e0 := HB.out.emp 34 (by omega) (by simp) (by simp)
          have e1 := HB.out.tr
          have hf := HB.out.frozen
          have hnil : ∀ W : World, (binOp .eql 34 (.slice none 0 0) (.slice none 0 0)).run Tryz.prog W = .ok (.bool true) W := fun _ => rfl
          have hcv : (convert 34 9 (.slice (some ⟨wr.heap.size, 0, none⟩) 1 1)).run Tryz.prog (wr.alloc (.cells #[.int .u8 34] 5)) = .ok (.string ⟨#[34]⟩) (wr.alloc (.cells #[.int .u8 34] 5)) := conv1 wr _ rfl 34
          have hg0 : ∀ h, ((⟨#[34]⟩ : ByteArray)[0]'h).toNat = 34 := fun _ => rfl
          obtain ⟨i0, hi, hz0, hz1, hz2⟩ := info_parts info9
          have HS1 : Hid (BS w ((wr.alloc (.cells #[.int .u8 34] 5)).alloc (.cells #[.string ⟨#[34]⟩] 9)) 0 0 false false) := HB.out.step (((Below.refl _ wr).alloc (Nat.le_refl _) _).alloc (by simp) _)
          go_wp2_with (at_builtin; refine wpList_append_fits _ rfl (.tmp 119) (.tmp 123) 32 rfl w.heap.size 9 i0 1 Tryz.underlying32 hi hz1 w.heap.size 0 2 (TR.take 0) rfl HS1.out.own _ 1 1 [.string ⟨#[34]⟩] rfl rfl ?cs ?oc (by omega) ?_)
          case cs =>
            intro j u hj
            match j, hj with
            | 0, hj => simp at hj; subst hj; simp [Addr.add]
          case oc =>
            intro u hu
            simp at hu
            subst hu
            rfl
          intro w3 hown hg
          have HS2 : Hid (BS w w3 0 1 false false) := HS1.out.grow hg hown
          have hc2 := HS2.out.tr
          have hf2 := HS2.out.frozen 256
          clear hown hg HS1 hcv hnil e0 e1 hf hi hz0 hz1 hz2
          go_wp2_with fail
          have HS3 := Lib.hid HS2.out.set
          clear hc2 hf2 HS2
          generalize w3.setCell ⟨w.heap.size + 1, 256, none⟩ (.slice (some ⟨w.heap.size, 0, none⟩) 1 2) = w4 at HS3 ⊢
          have kb := Lib.run_convert_string_bytes (P := Tryz.prog) w4 9 34 5 ⟨#[92, 34]⟩ Tryz.underlying9 Tryz.underlying34 Tryz.underlying5
          have hsz : (⟨#[92, 34]⟩ : ByteArray).size = 2 := rfl
          rw [hsz] at kb
          have HS4 := Lib.hid (HS3.out.step (bytesWorld_below w4 5 ⟨#[92, 34]⟩))
          have p0 : (Lib.bytesWorld w4 5 ⟨#[92, 34]⟩).cell? ⟨w4.heap.size, 0, none⟩ = some (.int .u8 92) := Lib.bytesWorld_cell w4 5 ⟨#[92, 34]⟩ 0 (by decide)
          have p1 : (Lib.bytesWorld w4 5 ⟨#[92, 34]⟩).cell? ⟨w4.heap.size, 1, none⟩ = some (.int .u8 (34 : Nat)) := Lib.bytesWorld_cell w4 5 ⟨#[92, 34]⟩ 1 (by decide)
          have hlt := HS3.out.lt
          have hlt2 : w4.heap.size < (Lib.bytesWorld w4 5 ⟨#[92, 34]⟩).heap.size := by rw [Lib.bytesWorld_size]; omega
          have e4 := HS4.out.emp 34 (by omega) (by simp) (by simp)
          have f4 := HS4.out.frozen 34
          have HS5 := Lib.hid (HS4.out.setEsc 34 (by decide) w4.heap.size (grownCap w4 2 0 5) hlt hlt2 p0 p1)
          have hr : ((false || 34 == 34) = true) ∧ ((false || 34 == 92) = false) := by decide
          rw [hr.1, hr.2] at HS5
          clear hr p0 p1 hlt hlt2 HS4 HS3
          generalize grownCap w4 2 0 5 = cap at kb HS5
          generalize Lib.bytesWorld w4 5 ⟨#[92, 34]⟩ = w5 at *
          go_wp2_with fail
          rw [kb]
          go_wp2_with fail
          go_roundg 1
          case measure => omega
          case rel => exact ⟨1, rfl, .inr (.inl ⟨rfl, rfl, HS5⟩)⟩
        · have HO2 := Lib.hid (HO.out.below HB.out.below)
          obtain ⟨_, _, _, _, _, _, _⟩ := HO2.out
          have e0 := HB.out.emp 92 (by omega) (by simp) (by simp)
          have e1 := HB.out.tr
          have hf := HB.out.frozen
          have hnil : ∀ W : World, (binOp .eql 34 (.slice none 0 0) (.slice none 0 0)).run Tryz.prog W = .ok (.bool true) W := fun _ => rfl
          have hcv : (convert 34 9 (.slice (some ⟨wr.heap.size, 0, none⟩) 1 1)).run Tryz.prog (wr.alloc (.cells #[.int .u8 92] 5)) = .ok (.string ⟨#[92]⟩) (wr.alloc (.cells #[.int .u8 92] 5)) := conv1 wr _ rfl 92
          have hg0 : ∀ h, ((⟨#[92]⟩ : ByteArray)[0]'h).toNat = 92 := fun _ => rfl
          obtain ⟨i0, hi, hz0, hz1, hz2⟩ := info_parts info9
          have HS1 : Hid (BS w ((wr.alloc (.cells #[.int .u8 92] 5)).alloc (.cells #[.string ⟨#[92]⟩] 9)) 1 1 true false) := HB.out.step (((Below.refl _ wr).alloc (Nat.le_refl _) _).alloc (by simp) _)
          go_wp2_with (at_builtin; refine wpList_append_fits _ rfl (.tmp 119) (.tmp 123) 32 rfl w.heap.size 9 i0 1 Tryz.underlying32 hi hz1 w.heap.size 1 2 (TR.take 1) rfl HS1.out.own _ 1 1 [.string ⟨#[92]⟩] rfl rfl ?cs ?oc (by omega) ?_)
          case cs =>
            intro j u hj
            match j, hj with
            | 0, hj => simp at hj; subst hj; simp [Addr.add]
          case oc =>
            intro u hu
            simp at hu
            subst hu
            rfl
          intro w3 hown hg
          have HS2 : Hid (BS w w3 1 2 true false) := HS1.out.grow hg hown
          have hc2 := HS2.out.tr
          have hf2 := HS2.out.frozen 256
          clear hown hg HS1 hcv hnil e0 e1 hf hi hz0 hz1 hz2
          go_wp2_with fail
          have HS3 := Lib.hid HS2.out.set
          clear hc2 hf2 HS2
          generalize w3.setCell ⟨w.heap.size + 1, 256, none⟩ (.slice (some ⟨w.heap.size, 0, none⟩) 2 2) = w4 at HS3 ⊢
          have kb := Lib.run_convert_string_bytes (P := Tryz.prog) w4 9 34 5 ⟨#[92, 92]⟩ Tryz.underlying9 Tryz.underlying34 Tryz.underlying5
          have hsz : (⟨#[92, 92]⟩ : ByteArray).size = 2 := rfl
          rw [hsz] at kb
          have HS4 := Lib.hid (HS3.out.step (bytesWorld_below w4 5 ⟨#[92, 92]⟩))
          have p0 : (Lib.bytesWorld w4 5 ⟨#[92, 92]⟩).cell? ⟨w4.heap.size, 0, none⟩ = some (.int .u8 92) := Lib.bytesWorld_cell w4 5 ⟨#[92, 92]⟩ 0 (by decide)
          have p1 : (Lib.bytesWorld w4 5 ⟨#[92, 92]⟩).cell? ⟨w4.heap.size, 1, none⟩ = some (.int .u8 (92 : Nat)) := Lib.bytesWorld_cell w4 5 ⟨#[92, 92]⟩ 1 (by decide)
          have hlt := HS3.out.lt
          have hlt2 : w4.heap.size < (Lib.bytesWorld w4 5 ⟨#[92, 92]⟩).heap.size := by rw [Lib.bytesWorld_size]; omega
          have e4 := HS4.out.emp 92 (by omega) (by simp) (by simp)
          have f4 := HS4.out.frozen 92
          have HS5 := Lib.hid (HS4.out.setEsc 92 (by decide) w4.heap.size (grownCap w4 2 0 5) hlt hlt2 p0 p1)
          have hr : ((true || 92 == 34) = true) ∧ ((false || 92 == 92) = true) := by decide
          rw [hr.1, hr.2] at HS5
          clear hr p0 p1 hlt hlt2 HS4 HS3
          generalize grownCap w4 2 0 5 = cap at kb HS5
          generalize Lib.bytesWorld w4 5 ⟨#[92, 92]⟩ = w5 at *
          go_wp2_with fail
          rw [kb]
          go_wp2_with fail
          go_roundg 0
          case measure => omega
          case rel => exact ⟨2, rfl, .inr (.inr ⟨rfl, rfl, HS5⟩)⟩
        · go_wp2
          go_ret
          exact ⟨rfl, HB.out⟩
end Go.Proofs.YtjmjmnagnbgmfaaGreatDoor
