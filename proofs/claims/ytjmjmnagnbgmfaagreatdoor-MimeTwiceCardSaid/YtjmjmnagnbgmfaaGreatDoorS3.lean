/- utf.Lower: each byte's small letter. -/
import Derived.Test.YtjmjmnagnbgmfaaGreatDoorS2
import Derived.Lib.ConvBytes
import Derived.Laws.BytesArg
namespace Go.Proofs.YtjmjmnagnbgmfaaGreatDoor
open Go.RowKit Go.Shelf Go.Lib

/-- A byte's small letter. -/
def lowB (c : UInt8) : UInt8 := if 65 ≤ c.toNat ∧ c.toNat ≤ 90 then UInt8.ofNat (c.toNat + 32) else c
/-- A text in small letters. -/
def low (l : List UInt8) : List UInt8 := l.map lowB

theorem lowB_nat (c : UInt8) : (lowB c).toNat = if 65 ≤ c.toNat ∧ c.toNat ≤ 90 then c.toNat + 32 else c.toNat := by
  unfold lowB
  split
  · rw [UInt8.toNat_ofNat']; omega
  · rfl

/-- The bytes as numbers. -/
def nat8 (l : List UInt8) (j : Nat) : Int := ((l.getD j 0).toNat : Int)
theorem nat8_bd (l : List UInt8) (j : Nat) : 0 ≤ nat8 l j ∧ nat8 l j ≤ 255 := by
  unfold nat8
  have := (l.getD j 0).toNat_lt
  omega

theorem strOfNums_nat8 (l : List UInt8) : strOfNums ((List.range l.length).map (nat8 l)) = sOf l := by
  unfold strOfNums sOf
  congr 2
  apply List.ext_getElem
  · simp
  · intro i h1 h2
    simp only [List.length_map, List.length_range] at h1
    simp [nat8, List.getD_eq_getElem?_getD, List.getElem?_eq_getElem h2]

/-- Block K holds these bytes, and may be written. -/
def RowB (w : World) (K : Nat) (l : List UInt8) : Prop := ∀ j, j < l.length → w.cell? ⟨K, j, none⟩ = some (.int .u8 (nat8 l j)) ∧ w.frozen? ⟨K, j, none⟩ = false

theorem rowB_new (w : World) (s : ByteArray) : RowB (Lib.bytesWorld w 5 s) w.heap.size s.data.toList := by
  intro j hj
  rw [size_data] at hj
  refine ⟨Lib.bytesWorld_cell w 5 s j hj, ?_⟩
  have hge : s.size ≤ (Lib.bytesCells w 5 s).size := by
    show s.data.size ≤ _
    rw [Lib.bytesCells, Array.size_append, Array.size_map]
    omega
  simp only [World.frozen?, Lib.bytesWorld_at_new]
  simp
  omega
theorem rowB_string {w : World} {K : Nat} {l : List UInt8} (h : RowB w K l) (cap : Nat) : ∀ dst, Tryz.prog.underlying dst = some .string → (convert 34 dst (.slice (some ⟨K, 0, none⟩) l.length cap)).run Tryz.prog w = .ok (.string (sOf l)) w := by
  intro dst hd
  rw [← strOfNums_nat8]
  exact run_convert_bytes_arg w 34 5 Tryz.underlying34 Tryz.underlying5 K 0 l.length cap _ (by simp) (fun i hi => by
    rw [Nat.zero_add, (h i hi).1]
    simp [List.getD_eq_getElem?_getD, hi]) dst hd
theorem rowB_set {w : World} {K : Nat} {l : List UInt8} (h : RowB w K l) (k : Nat) (hk : k < l.length) (b : UInt8) : RowB (w.setCell ⟨K, k, none⟩ (.int .u8 b.toNat)) K (l.set k b) := by
  intro j hj
  rw [List.length_set] at hj
  have hc := h k hk
  by_cases hjk : j = k
  · subst hjk
    refine ⟨?_, by simpa using (h j hj).2⟩
    rw [World.cell?_setCell_same w _ _ hc.1]
    simp [nat8, List.getD_eq_getElem?_getD, hj]
  · refine ⟨?_, by simpa using (h j hj).2⟩
    rw [World.cell?_setCell_other w ⟨K, k, none⟩ ⟨K, j, none⟩ _ (by simp), (h j hj).1]
    simp only [nat8, List.getD_eq_getElem?_getD]
    rw [List.getElem?_set_ne (by omega)]

/-- The first k bytes in small letters. -/
def lowTo (l : List UInt8) (k : Nat) : List UInt8 := (l.take k).map lowB ++ l.drop k
theorem lowTo_length (l : List UInt8) (k : Nat) : (lowTo l k).length = l.length := by
  unfold lowTo
  simp
  omega
theorem lowTo_zero (l : List UInt8) : lowTo l 0 = l := by simp [lowTo]
theorem lowTo_all (l : List UInt8) : lowTo l l.length = low l := by simp [lowTo, low]
theorem lowTo_at (l : List UInt8) (k : Nat) (h : k < l.length) : (lowTo l k).getD k 0 = l.getD k 0 := by
  simp [lowTo, List.getD_eq_getElem?_getD, h, Nat.le_of_lt h]
theorem lowTo_succ (l : List UInt8) (k : Nat) (h : k < l.length) : lowTo l (k + 1) = (lowTo l k).set k (lowB (l.getD k 0)) := by
  have hk : ((l.take k).map lowB).length = k := by simp; omega
  simp only [lowTo, List.getD_eq_getElem?_getD, List.getElem?_eq_getElem h, Option.getD_some]
  rw [List.take_succ_eq_append_getElem h, List.map_append, List.append_assoc, List.set_append_right _ _ (by omega), hk, Nat.sub_self]
  rw [List.drop_eq_getElem_cons h]
  rfl

set_option maxHeartbeats 4000000 in
set_option maxRecDepth 1000000 in
theorem lower_calls (s : ByteArray) (w : World) (hs : s.size ≤ 140737488351232) :
    Calls Tryz.prog 27 #[.string s] w fun e w' => e = .returned (.string (sOf (low s.data.toList))) ∧ Below w.heap.size w w' := by
  obtain ⟨l, hl⟩ : ∃ l, l = s.data.toList := ⟨_, rfl⟩
  have hn : l.length = s.size := by rw [hl, size_data]
  have hrow := rowB_new w s
  rw [← hl] at hrow ⊢
  have hB : Below w.heap.size w (Lib.bytesWorld w 5 s) := (Below.refl _ w).trans ⟨rfl, rfl, rfl, by rw [Lib.bytesWorld_size]; omega, fun i hi => Lib.bytesWorld_at_old w 5 s i hi⟩
  have hz : w.heap.size < (Lib.bytesWorld w 5 s).heap.size := by rw [Lib.bytesWorld_size]; omega
  have kb := Lib.run_convert_string_bytes (P := Tryz.prog) w 9 34 5 s Tryz.underlying9 Tryz.underlying34 Tryz.underlying5
  have HN := Lib.hid hn
  have HL := Lib.hid hl
  have HR := Lib.hid hrow
  have hsl : s.size ≤ l.length := by omega
  have hls : l.length ≤ s.size := by omega
  clear hl hn hrow
  generalize hcap : grownCap w s.size 0 5 = cap at kb
  have HC := Lib.hid hcap
  clear hcap
  go_enter Tryz.func27, Tryz.ntmps27
  go_wp2
  generalize hW : Lib.bytesWorld w 5 s = W at HR hB hz ⊢
  have HW := Lib.hid hW
  clear hW kb
  go_loopg [10] s.size (fun g i wr => ∃ k : Nat, g = s.size - k ∧ k ≤ s.size ∧ i = .int .i64 k ∧ Hid (RowB wr w.heap.size (lowTo l k)) ∧ Below w.heap.size w wr ∧ w.heap.size < wr.heap.size)
  case atStart => exact ⟨0, by omega, by omega, rfl, by rw [lowTo_zero]; exact HR.out, hB, hz⟩
  case round =>
    obtain ⟨k, rfl, hk, rfl, HK, hBr, hzr⟩ := hrel
    clear HR hB hz
    by_cases hlt : k < s.size
    · have hc := HK.out k (by rw [lowTo_length]; omega)
      have hv : nat8 (lowTo l k) k = nat8 l k := by unfold nat8; rw [lowTo_at l k (by omega)]
      rw [hv] at hc
      obtain ⟨hc1, hf1⟩ := hc
      have hbd := nat8_bd l k
      clear hv
      have HX : Hid (nat8 l k = ((l.getD k 0).toNat : Int)) := rfl
      generalize nat8 l k = c at hc1 hbd HX
      by_cases h1 : 65 ≤ c ∧ c ≤ 90
      · obtain ⟨ha, hb⟩ := h1
        have hne : (lowB (l.getD k 0)).toNat = (c + 97 - 65).toNat := by
          rw [lowB_nat, if_pos (by have := HX.out; omega)]
          have := HX.out
          omega
        have hset := rowB_set HK.out k (by rw [lowTo_length]; omega) (lowB (l.getD k 0))
        rw [← lowTo_succ l k (by omega), hne, show (((c + 97 - 65).toNat : Nat) : Int) = c + 97 - 65 by omega] at hset
        have HS := Lib.hid hset
        clear hset hne
        go_wp2
        go_roundg (s.size - (k + 1))
        case measure => omega
        case rel => exact ⟨k + 1, rfl, by omega, by go_num, HS.out, hBr.setCell (Nat.le_refl _) _, by simpa [World.setCell] using hzr⟩
      · have hne : lowB (l.getD k 0) = l.getD k 0 := by
          unfold lowB
          rw [if_neg (by have := HX.out; omega)]
        have hst : RowB wr w.heap.size (lowTo l (k + 1)) := by
          rw [lowTo_succ l k (by omega), hne]
          have : (lowTo l k).set k (l.getD k 0) = lowTo l k := by
            rw [← lowTo_at l k (by omega)]
            rw [List.getD_eq_getElem?_getD, List.getElem?_eq_getElem (by rw [lowTo_length]; omega)]
            simp
          rw [this]
          exact HK.out
        have HS := Lib.hid hst
        clear hst hne
        by_cases ha : 65 ≤ c
        all_goals
          go_wp2
          go_roundg (s.size - (k + 1))
          case measure => omega
          case rel => exact ⟨k + 1, rfl, by omega, by go_num, HS.out, hBr, hzr⟩
    · obtain rfl : k = s.size := by omega
      have hst := HK.out
      rw [← HN.out, lowTo_all] at hst
      have hcv := rowB_string hst cap 9 Tryz.underlying9
      rw [show (low l).length = s.size by simp [low, HN.out]] at hcv
      clear hst
      go_wp2
      go_ret
      exact ⟨rfl, hBr⟩
end Go.Proofs.YtjmjmnagnbgmfaaGreatDoor
