import Derived.Test.YtjmjmnagnbgmfaaGreatDoorS18
import Derived.Test.YtjmjmnagnbgmfaaGreatDoorShelf
import Derived.Test.YtjmjmnagnbgmfaaGreatDoorS7
import Derived.Lib.SlBuf
import Derived.BigQuiet
/-! strings.byteStringReplacer.Replace at the table of token.Quote. -/
namespace Go.Proofs.YtjmjmnagnbgmfaaGreatDoor
open Go.Lib Go.Shelf Go.RowKit

/-- The bytes that are escaped. -/
def ch (b : UInt8) : Bool := b == 34 || b == 92
def escB : List UInt8 → List UInt8
  | [] => []
  | b :: l => (if ch b then [92, b] else [b]) ++ escB l
theorem escB_append (a b : List UInt8) : escB (a ++ b) = escB a ++ escB b := by
  induction a with
  | nil => rfl
  | cons x a ih => simp only [List.cons_append, escB, ih, List.append_assoc]
/-- How many. -/
def ext (l : List UInt8) : Nat := l.count 34 + l.count 92
theorem escB_len (l : List UInt8) : (escB l).length = l.length + ext l := by
  induction l with
  | nil => rfl
  | cons b l ih =>
    simp only [escB, List.length_append, ih, ext, List.count_cons, List.length_cons, ch]
    by_cases h1 : b = 34
    · subst h1; simp; omega
    · by_cases h2 : b = 92
      · subst h2; simp; omega
      · simp [h1, h2]; omega
theorem escB_same (l : List UInt8) (h : ext l = 0) : escB l = l := by
  induction l with
  | nil => rfl
  | cons b l ih =>
    simp only [ext, List.count_cons] at h
    have h1 : b ≠ 34 := by rintro rfl; simp at h
    have h2 : b ≠ 92 := by rintro rfl; simp at h
    simp only [escB, ch]
    rw [ih (by unfold ext; omega)]
    simp [h1, h2]
theorem ext_snoc (l : List UInt8) (b : UInt8) : ext (l ++ [b]) = ext l + (if ch b then 1 else 0) := by
  simp only [ext, List.count_append, ch]
  by_cases h1 : b = 34
  · subst h1; simp; omega
  · by_cases h2 : b = 92
    · subst h2; simp; omega
    · simp [h1, h2]
theorem ext_le (l : List UInt8) : ext l ≤ 2 * l.length := by
  have h1 := List.count_le_length (a := (34 : UInt8)) (l := l)
  have h2 := List.count_le_length (a := (92 : UInt8)) (l := l)
  unfold ext
  omega

/-- What the table says of a byte. -/
theorem Rdy.yes {w : World} {B z : Nat} (h : Rdy w B z) (b : UInt8) (hb : ch b = true) : ∃ p c : Nat, w.cell? ⟨z, b.toNat, none⟩ = some (.slice (some ⟨p, 0, none⟩) 2 c) ∧ HoldsBytes w (.slice (some ⟨p, 0, none⟩) 2 c) [92, b] := by
  have he : Esc w z b.toNat := by
    simp only [ch, Bool.or_eq_true, beq_iff_eq] at hb
    rcases hb with rfl | rfl
    · exact h.c34
    · exact h.c92
  obtain ⟨p, c, _, _, h3, h4, h5⟩ := he
  refine ⟨p, c, h3, some ⟨p, 0, none⟩, c, rfl, by simp, ?_⟩
  intro a ha i x hx
  injection ha with ha
  subst ha
  match i, hx with
  | 0, hx => simp at hx; subst hx; simpa [Addr.add] using h4
  | 1, hx => simp at hx; subst hx; simpa [Addr.add] using h5
theorem Rdy.no {w : World} {B z : Nat} (h : Rdy w B z) (b : UInt8) (hb : ch b = false) : w.cell? ⟨z, b.toNat, none⟩ = some (.slice none 0 0) := by
  simp only [ch, Bool.or_eq_false_iff, beq_eq_false_iff_ne] at hb
  have := b.toNat_lt
  refine h.emp _ (by omega) (fun e => hb.1 ?_) (fun e => hb.2 ?_)
  · exact UInt8.toNat_inj.1 e
  · exact UInt8.toNat_inj.1 e

theorem belowN (w : World) (n : Nat) : Below w.heap.size w (w.drewN n) := ⟨rfl, rfl, rfl, Nat.le_refl _, fun _ _ => rfl⟩
theorem info5 : (Tryz.prog.info? 5).map (fun i => (i.zero, i.size, i.bytes)) = some (some (.int .u8 0), 1, 1) := by kernel_rfl
theorem buf_start (w : World) (n N : Nat) : Buf w ((w.drewN n).alloc (.cells (madeCells #[.int .u8 0] N) 5)) w.heap.size N [] := {
  below := (belowN w n).alloc (by simp) _
  there := fun j hj => by
    have h := heap_alloc_new (w.drewN n) (.cells (madeCells #[.int .u8 0] N) 5)
    have hs := size_madeCells #[.int .u8 0] N
    simp only [World.heap_drewN] at h
    simp only [World.cell?, h]
    simp [hs, hj]
  free := fun j _ => by
    have h := heap_alloc_new (w.drewN n) (.cells (madeCells #[.int .u8 0] N) 5)
    simp only [World.heap_drewN] at h
    simp only [World.frozen?, h]
    simp
  holds := fun j x hx => by simp at hx
  fits := Nat.zero_le _ }

theorem escB_split (l : List UInt8) (k : Nat) (hk : k < l.length) : escB l = escB (l.take k) ++ (if ch l[k] then [92, l[k]] else [l[k]]) ++ escB (l.drop (k + 1)) := by
  have h1 : l = l.take k ++ l[k] :: l.drop (k + 1) := by rw [← List.drop_eq_getElem_cons hk, List.take_append_drop]
  have h2 : escB (l.take k ++ l[k] :: l.drop (k + 1)) = escB (l.take k) ++ (if ch l[k] then [92, l[k]] else [l[k]]) ++ escB (l.drop (k + 1)) := by
    rw [escB_append, List.append_assoc]
    rfl
  rw [← h1] at h2
  exact h2
theorem escB_take (l : List UInt8) (k : Nat) (hk : k < l.length) : escB (l.take (k + 1)) = escB (l.take k) ++ (if ch l[k] then [92, l[k]] else [l[k]]) := by
  rw [List.take_succ_eq_append_getElem hk, escB_append]
  simp [escB]
theorem buf_push {w wr : World} {N : Nat} {acc : List UInt8} (h : Buf w wr w.heap.size N acc) (b : UInt8) (hN : acc.length < N) : Buf w (wr.setCell ⟨w.heap.size, acc.length, none⟩ (.int .u8 (b.toNat : Int))) w.heap.size N (acc ++ [b]) := by
  obtain ⟨v, hv⟩ := Option.isSome_iff_exists.1 (h.there acc.length hN)
  refine ⟨h.below.setCell (Nat.le_refl _) _, ?_, fun j hj => by rw [World.frozen?_setCell]; exact h.free j hj, ?_, by simp; omega⟩
  · intro j hj
    by_cases e : j = acc.length
    · subst e
      rw [World.cell?_setCell_same _ _ _ hv]
      rfl
    · rw [World.cell?_setCell_other _ _ _ _ (by simp <;> omega)]
      exact h.there j hj
  · intro j x hx
    by_cases e : j = acc.length
    · subst e
      rw [World.cell?_setCell_same _ _ _ hv]
      simp at hx
      rw [hx]
    · rw [World.cell?_setCell_other _ _ _ _ (by simp <;> omega)]
      refine h.holds j x ?_
      rw [List.getElem?_append_left] at hx
      · exact hx
      · have := (List.getElem?_eq_some_iff.1 hx).1
        simp at this
        omega
theorem buf_row {w wr : World} {N : Nat} {acc : List UInt8} (h : Buf w wr w.heap.size N acc) : RowB wr w.heap.size acc := by
  intro j hj
  have hf := h.fits
  refine ⟨?_, h.free j (by omega)⟩
  rw [h.holds j acc[j] (List.getElem?_eq_getElem hj)]
  simp [nat8, List.getD_eq_getElem?_getD, hj]

theorem buf_drew {w wr : World} {N : Nat} {acc : List UInt8} (h : Buf w wr w.heap.size N acc) (q : Nat) : Buf w (wr.drewN q) w.heap.size N acc :=
  ⟨⟨h.below.os, h.below.tape, h.below.output, h.below.size, h.below.block⟩, h.there, h.free, h.holds, h.fits⟩

set_option maxRecDepth 100000 in
set_option maxHeartbeats 1600000 in
theorem repl_calls (B z : Nat) (l : List UInt8) (w : World) (h : Rdy w B z) (hl : l.length ≤ 1000000) :
    Calls Tryz.prog 160 #[.pointer (some ⟨z, 0, none⟩), .string (sOf l)] w fun e w' => e = .returned (.string (sOf (escB l))) ∧ Below w.heap.size w w' := by
  have HR := Lib.hid h
  obtain ⟨p, _, _, p3, p4, p5⟩ := h.tr
  clear h
  have hsz : (sOf l).size = l.length := size_sOf l
  have hle34 := List.count_le_length (a := (34 : UInt8)) (l := l)
  have hext := ext_le l
  by_cases h16 : 16 ≤ l.length
  · have hd16 : decide ((16 : Int) ≤ (l.length : Int)) = true := by simp; omega
    go_enter Tryz.func160, Tryz.ntmps160
    go_wp2
    go_loopg [5, 6, 32] 2 (fun g ns an i wr => ∃ j : Nat, 2 - j = g ∧ (∃ n, wr = w.drewN n) ∧ ((j = 0 ∧ i = .int .i64 0 ∧ ns = .int .i64 l.length ∧ an = .bool false) ∨ (j = 1 ∧ i = .int .i64 1 ∧ ns = .int .i64 (l.length + l.count 34 : Nat) ∧ an = .bool (!decide (l.count 34 = 0))) ∨ (j = 2 ∧ i = .int .i64 2 ∧ ns = .int .i64 (l.length + ext l : Nat) ∧ an = .bool (!decide (ext l = 0)))))
    case atStart => exact ⟨0, rfl, ⟨0, rfl⟩, .inl ⟨rfl, rfl, rfl, rfl⟩⟩
    case round =>
      obtain ⟨j, rfl, ⟨n, rfl⟩, hj⟩ := hrel
      rcases hj with ⟨rfl, rfl, rfl, rfl⟩ | ⟨rfl, rfl, rfl, rfl⟩ | ⟨rfl, rfl, rfl, rfl⟩
      · have CT := Lib.hid (Tryz.strings_Count_one (sOf l) 34 (w.drewN n))
        rw [data_sOf] at CT
        obtain ⟨pp, cc, e1, _⟩ := HR.out.yes 34 rfl
        have hg0 : ∀ h, ((⟨#[34]⟩ : ByteArray)[0]'h).toNat = 34 := fun _ => rfl
        have e2 : w.cell? ⟨z, 34, none⟩ = some (.slice (some ⟨pp, 0, none⟩) 2 cc) := e1
        clear e1
        by_cases hc : l.count 34 = 0
        · have hcb : ((Lib.countByte l 34 : Nat) : Int) = 0 := by unfold Lib.countByte; omega
          rw [hcb] at CT
          clear hcb
          go_wp2_with (go_at_call 162; refine Calls.mono CT.out ?_; rintro e w' ⟨rfl, rfl⟩)
          go_roundg 1
          case measure => omega
          case rel => exact ⟨1, rfl, ⟨_, rfl⟩, .inr (.inl ⟨rfl, rfl, by rw [hc, Nat.add_zero], by rw [hc]; rfl⟩)⟩
        · have hcb : (Lib.countByte l 34 : Nat) = l.count 34 := rfl
          rw [hcb] at CT
          clear hcb
          have hle := List.count_le_length (a := (34 : UInt8)) (l := l)
          obtain ⟨m, hm⟩ : ∃ m, m = l.count 34 := ⟨_, rfl⟩
          rw [← hm] at CT hle hc
          have HM := Lib.hid hm
          clear hm
          have hmz : ¬ (m : Int) = 0 := by omega
          go_wp2_with (go_at_call 162; refine Calls.mono CT.out ?_; rintro e w' ⟨rfl, rfl⟩)
          go_quiet (fail)
          go_wp2
          go_roundg 1
          case measure => omega
          case rel => exact ⟨1, rfl, ⟨_, rfl⟩, .inr (.inl ⟨rfl, rfl, by rw [← HM.out]; go_num, by rw [← HM.out]; simp [hc]⟩)⟩
      · have CT := Lib.hid (Tryz.strings_Count_one (sOf l) 92 (w.drewN n))
        rw [data_sOf] at CT
        obtain ⟨pp, cc, e1, _⟩ := HR.out.yes 92 rfl
        have hg0 : ∀ h, ((⟨#[92]⟩ : ByteArray)[0]'h).toNat = 92 := fun _ => rfl
        have e2 : w.cell? ⟨z, 92, none⟩ = some (.slice (some ⟨pp, 0, none⟩) 2 cc) := e1
        clear e1
        by_cases hc : l.count 92 = 0
        · have hcb : ((Lib.countByte l 92 : Nat) : Int) = 0 := by unfold Lib.countByte; omega
          rw [hcb] at CT
          clear hcb
          go_wp2_with (go_at_call 162; refine Calls.mono CT.out ?_; rintro e w' ⟨rfl, rfl⟩)
          go_roundg 0
          case measure => omega
          case rel => exact ⟨2, rfl, ⟨_, rfl⟩, .inr (.inr ⟨rfl, rfl, by unfold ext; rw [hc, Nat.add_zero]; first | rfl | (push_cast; rfl), by unfold ext; rw [hc, Nat.add_zero]⟩)⟩
        · have hcb : (Lib.countByte l 92 : Nat) = l.count 92 := rfl
          rw [hcb] at CT
          clear hcb
          have hle := List.count_le_length (a := (92 : UInt8)) (l := l)
          obtain ⟨m, hm⟩ : ∃ m, m = l.count 92 := ⟨_, rfl⟩
          rw [← hm] at CT hle hc
          have HM := Lib.hid hm
          clear hm
          have hmz : ¬ (m : Int) = 0 := by omega
          go_wp2_with (go_at_call 162; refine Calls.mono CT.out ?_; rintro e w' ⟨rfl, rfl⟩)
          go_quiet (fail)
          go_wp2
          go_roundg 0
          case measure => omega
          case rel => exact ⟨2, rfl, ⟨_, rfl⟩, .inr (.inr ⟨rfl, rfl, by unfold ext; rw [← HM.out]; go_num, by unfold ext; rw [← HM.out]; simp; omega⟩)⟩
      · by_cases h0 : ext l = 0
        · have hd0 : decide (ext l = 0) = true := by simp [h0]
          go_wp2
          go_ret
          exact ⟨by rw [escB_same l h0]; rfl, belowN w _⟩
        · have hd0 : decide (ext l = 0) = false := by simp [h0]
          have hN := escB_len l
          have hN2 : ((l.length + ext l : Nat) : Int) = ((escB l).length : Int) := by rw [hN]
          rw [hN2]
          have hNb : (escB l).length ≤ 4000000 := by omega
          clear hN hN2
          obtain ⟨N, hNe⟩ : ∃ N, N = (escB l).length := ⟨_, rfl⟩
          rw [← hNe] at hNb ⊢
          have HN := Lib.hid hNe
          clear hNe
          have hmk : ∀ W : World, (Instr.makeSlice 34 (.int .i64 (N : Int)) (.int .i64 (N : Int))).run Tryz.prog W = .ok (.slice (some ⟨W.heap.size, 0, none⟩) N N) (W.alloc (.cells (madeCells #[.int .u8 0] N) 5)) := by
            intro W
            obtain ⟨i0, hi, hz0, hz1, hz2⟩ := info_parts info5
            have := run_makeSlice (P := Tryz.prog) (w := W) 34 5 i0 (.int .u8 0) Tryz.underlying34 hi hz0 .i64 .i64 N N (by omega) (by omega) (by rw [hz1]; simp; omega) (by rw [hz2]; omega) (by omega)
            rw [hz1] at this
            rw [Int.toNat_natCast, Nat.mul_one] at this
            exact this
          have HB0 : Hid (Buf w ((w.drewN n).alloc (.cells (madeCells #[.int .u8 0] N) 5)) w.heap.size N []) := buf_start w n N
          go_wp2
          clear hmk
          generalize (w.drewN n).alloc (.cells (madeCells #[.int .u8 0] N) 5) = w1 at HB0 ⊢
          clear p3 p4 p5 hd0 h0 hext hle34
          go_loopg [13, 14] l.length (fun g jv iv wr => ∃ k : Nat, l.length - k = g ∧ k ≤ l.length ∧ iv = .int .i64 k ∧ jv = .int .i64 ((escB (l.take k)).length : Nat) ∧ Hid (Buf w wr w.heap.size N (escB (l.take k))))
          case atStart => exact ⟨0, by omega, by omega, rfl, rfl, HB0⟩
          case round =>
            obtain ⟨k, rfl, hk, rfl, rfl, HB⟩ := hrel
            clear HB0
            by_cases hlt : k < l.length
            · have hki : (k : Int) < (l.length : Int) := by omega
              have hsp := escB_split l k hlt
              have htk := escB_take l k hlt
              obtain ⟨b, hb⟩ : ∃ b, l[k]'hlt = b := ⟨_, rfl⟩
              rw [hb] at hsp htk
              have hbk : ∀ h, (sOf l)[k]'h = b := fun h => by rw [← hb]; rfl
              have hb256 := b.toNat_lt
              have hb2 : decide ((b.toNat : Int) < 256) = true := by simp; omega
              have HTK := Lib.hid htk
              have hNs : (escB (l.take k)).length + (if ch b then [92, b] else [b]).length ≤ N := by
                rw [HN.out, hsp, List.length_append, List.length_append]
                omega
              clear hb hsp htk
              generalize escB (l.take k) = acc at *
              cases hc : ch b with
              | true =>
                obtain ⟨pp, cc, e1, hby⟩ := HR.out.yes b hc
                have e2 : wr.cell? ⟨z, b.toNat, none⟩ = some (.slice (some ⟨pp, 0, none⟩) 2 cc) := (HB.out.below.cell (p := ⟨z, b.toNat, none⟩) HR.out.lt).trans e1
                rw [hc] at hNs HTK
                have hneq : ∀ W : World, (binOp .neq 34 (.slice (some ⟨pp, 0, none⟩) 2 cc) (.slice none 0 0)).run Tryz.prog W = .ok (.bool true) W := fun _ => rfl
                obtain ⟨w2, hcp, B2⟩ := Lib.copy_part (P := Tryz.prog) w wr.drew w.heap.size N acc [92, b] (.slice (some ⟨pp, 0, none⟩) 2 cc) 34 3 5 Tryz.underlying34 (by kernel_rfl) (Nat.le_refl _) (buf_drew HB.out 1) hby (by simpa using hNs)
                have hlen2 : ([92, b] : List UInt8).length = 2 := rfl
                rw [hlen2] at hcp
                have HB2 := Lib.hid B2
                clear B2 e1 hby
                have hsl : ∀ W, (Instr.slice 34 (.slice (some ⟨w.heap.size, 0, none⟩) N N) (some (.int .i64 (acc.length : Int))) none none).run Tryz.prog W = .ok (Lib.tailV w.heap.size N acc.length) W := fun W => Lib.run_slice_tailV W 34 5 Tryz.underlying34 Tryz.sizeOf5 _ N acc.length (by simp at hNs; omega)
                go_wp2
                go_region
                have HTK2 : Hid (escB (l.take (k + 1)) = acc ++ [92, b]) := HTK.out
                go_wp2
                go_roundg (l.length - (k + 1))
                case measure => omega
                case rel => exact ⟨k + 1, rfl, by omega, by go_num, by rw [HTK2.out, List.length_append]; go_num, by rw [HTK2.out]; exact HB2.out⟩
              | false =>
                have e1 := HR.out.no b hc
                have e2 : wr.cell? ⟨z, b.toNat, none⟩ = some (.slice none 0 0) := (HB.out.below.cell (p := ⟨z, b.toNat, none⟩) HR.out.lt).trans e1
                rw [hc] at hNs HTK
                have hneq : ∀ W : World, (binOp .neq 34 (.slice none 0 0) (.slice none 0 0)).run Tryz.prog W = .ok (.bool false) W := fun _ => rfl
                have hNs2 : acc.length + 1 ≤ N := by simpa using hNs
                have haN : (acc.length : Int) < (N : Int) := by omega
                have hth := HB.out.there acc.length (by omega)
                obtain ⟨v0, hv0⟩ := Option.isSome_iff_exists.1 hth
                have hfr := HB.out.free acc.length (by omega)
                have HB2 := Lib.hid (buf_push HB.out b (by omega))
                have HTK2 : Hid (escB (l.take (k + 1)) = acc ++ [b]) := HTK.out
                clear e1 hth hNs HTK
                go_wp2
                go_roundg (l.length - (k + 1))
                case measure => omega
                case rel => exact ⟨k + 1, rfl, by omega, by go_num, by rw [HTK2.out, List.length_append]; go_num, by rw [HTK2.out]; exact HB2.out⟩
            · obtain rfl : k = l.length := by omega
              have hki : ¬ ((l.length : Int) < (l.length : Int)) := by omega
              have hr := HB.out
              rw [List.take_of_length_le (Nat.le_refl _)] at hr
              have hcv := rowB_string (buf_row hr) N 9 Tryz.underlying9
              rw [← HN.out] at hcv
              go_wp2
              go_ret
              exact ⟨rfl, hr.below⟩
  · have hd16 : decide ((16 : Int) ≤ (l.length : Int)) = false := by simp; omega
    go_enter Tryz.func160, Tryz.ntmps160
    go_wp2
    go_loopg [5, 6, 10] l.length (fun g ns an i wr => ∃ k : Nat, l.length - k = g ∧ k ≤ l.length ∧ (∃ n, wr = w.drewN n) ∧ i = .int .i64 k ∧ ns = .int .i64 (l.length + ext (l.take k) : Nat) ∧ an = .bool (!decide (ext (l.take k) = 0)))
    case atStart => exact ⟨0, by omega, by omega, ⟨0, rfl⟩, rfl, rfl, rfl⟩
    case round =>
      obtain ⟨k, rfl, hk, ⟨n, rfl⟩, rfl, rfl, rfl⟩ := hrel
      by_cases hlt : k < l.length
      · have hki : (k : Int) < (l.length : Int) := by omega
        obtain ⟨b, hb⟩ : ∃ b, l[k]'hlt = b := ⟨_, rfl⟩
        have hbk : ∀ h, (sOf l)[k]'h = b := fun h => by rw [← hb]; rfl
        have hb256 := b.toNat_lt
        have hb2 : decide ((b.toNat : Int) < 256) = true := by simp; omega
        have HS : Hid (ext (l.take (k + 1)) = ext (l.take k) + (if ch b then 1 else 0)) := by
          have e := ext_snoc (l.take k) b
          rw [← hb, ← List.take_succ_eq_append_getElem hlt, hb] at e
          exact e
        have hel := ext_le (l.take k)
        rw [List.length_take_of_le hk] at hel
        clear hb
        cases hc : ch b with
        | true =>
          obtain ⟨pp, cc, e1, _⟩ := HR.out.yes b hc
          have hneq : ∀ W : World, (binOp .neq 34 (.slice (some ⟨pp, 0, none⟩) 2 cc) (.slice none 0 0)).run Tryz.prog W = .ok (.bool true) W := fun _ => rfl
          rw [hc] at HS
          have HS2 : Hid (ext (l.take (k + 1)) = ext (l.take k) + 1) := HS.out
          clear HS
          go_wp2
          go_roundg (l.length - (k + 1))
          case measure => omega
          case rel => exact ⟨k + 1, rfl, by omega, ⟨_, rfl⟩, by go_num, by rw [HS2.out]; go_num, by rw [HS2.out]; simp⟩
        | false =>
          have e1 := HR.out.no b hc
          have hneq : ∀ W : World, (binOp .neq 34 (.slice none 0 0) (.slice none 0 0)).run Tryz.prog W = .ok (.bool false) W := fun _ => rfl
          rw [hc] at HS
          have HS2 : Hid (ext (l.take (k + 1)) = ext (l.take k)) := HS.out
          clear HS
          go_wp2
          go_roundg (l.length - (k + 1))
          case measure => omega
          case rel => exact ⟨k + 1, rfl, by omega, ⟨_, rfl⟩, by go_num, by rw [HS2.out], by rw [HS2.out]⟩
      · obtain rfl : k = l.length := by omega
        have hki : ¬ ((l.length : Int) < (l.length : Int)) := by omega
        rw [List.take_of_length_le (Nat.le_refl _)]
        by_cases h0 : ext l = 0
        · have hd0 : decide (ext l = 0) = true := by simp [h0]
          go_wp2
          go_ret
          exact ⟨by rw [escB_same l h0]; rfl, belowN w _⟩
        · have hd0 : decide (ext l = 0) = false := by simp [h0]
          have hN := escB_len l
          have hN2 : ((l.length + ext l : Nat) : Int) = ((escB l).length : Int) := by rw [hN]
          rw [hN2]
          have hNb : (escB l).length ≤ 4000000 := by omega
          clear hN hN2
          obtain ⟨N, hNe⟩ : ∃ N, N = (escB l).length := ⟨_, rfl⟩
          rw [← hNe] at hNb ⊢
          have HN := Lib.hid hNe
          clear hNe
          have hmk : ∀ W : World, (Instr.makeSlice 34 (.int .i64 (N : Int)) (.int .i64 (N : Int))).run Tryz.prog W = .ok (.slice (some ⟨W.heap.size, 0, none⟩) N N) (W.alloc (.cells (madeCells #[.int .u8 0] N) 5)) := by
            intro W
            obtain ⟨i0, hi, hz0, hz1, hz2⟩ := info_parts info5
            have := run_makeSlice (P := Tryz.prog) (w := W) 34 5 i0 (.int .u8 0) Tryz.underlying34 hi hz0 .i64 .i64 N N (by omega) (by omega) (by rw [hz1]; simp; omega) (by rw [hz2]; omega) (by omega)
            rw [hz1] at this
            rw [Int.toNat_natCast, Nat.mul_one] at this
            exact this
          have HB0 : Hid (Buf w ((w.drewN n).alloc (.cells (madeCells #[.int .u8 0] N) 5)) w.heap.size N []) := buf_start w n N
          go_wp2
          clear hmk
          generalize (w.drewN n).alloc (.cells (madeCells #[.int .u8 0] N) 5) = w1 at HB0 ⊢
          clear p3 p4 p5 hd0 h0 hext hle34
          go_loopg [13, 14] l.length (fun g jv iv wr => ∃ k : Nat, l.length - k = g ∧ k ≤ l.length ∧ iv = .int .i64 k ∧ jv = .int .i64 ((escB (l.take k)).length : Nat) ∧ Hid (Buf w wr w.heap.size N (escB (l.take k))))
          case atStart => exact ⟨0, by omega, by omega, rfl, rfl, HB0⟩
          case round =>
            obtain ⟨k, rfl, hk, rfl, rfl, HB⟩ := hrel
            clear HB0
            by_cases hlt : k < l.length
            · have hki : (k : Int) < (l.length : Int) := by omega
              have hsp := escB_split l k hlt
              have htk := escB_take l k hlt
              obtain ⟨b, hb⟩ : ∃ b, l[k]'hlt = b := ⟨_, rfl⟩
              rw [hb] at hsp htk
              have hbk : ∀ h, (sOf l)[k]'h = b := fun h => by rw [← hb]; rfl
              have hb256 := b.toNat_lt
              have hb2 : decide ((b.toNat : Int) < 256) = true := by simp; omega
              have HTK := Lib.hid htk
              have hNs : (escB (l.take k)).length + (if ch b then [92, b] else [b]).length ≤ N := by
                rw [HN.out, hsp, List.length_append, List.length_append]
                omega
              clear hb hsp htk
              generalize escB (l.take k) = acc at *
              cases hc : ch b with
              | true =>
                obtain ⟨pp, cc, e1, hby⟩ := HR.out.yes b hc
                have e2 : wr.cell? ⟨z, b.toNat, none⟩ = some (.slice (some ⟨pp, 0, none⟩) 2 cc) := (HB.out.below.cell (p := ⟨z, b.toNat, none⟩) HR.out.lt).trans e1
                rw [hc] at hNs HTK
                have hneq : ∀ W : World, (binOp .neq 34 (.slice (some ⟨pp, 0, none⟩) 2 cc) (.slice none 0 0)).run Tryz.prog W = .ok (.bool true) W := fun _ => rfl
                obtain ⟨w2, hcp, B2⟩ := Lib.copy_part (P := Tryz.prog) w wr.drew w.heap.size N acc [92, b] (.slice (some ⟨pp, 0, none⟩) 2 cc) 34 3 5 Tryz.underlying34 (by kernel_rfl) (Nat.le_refl _) (buf_drew HB.out 1) hby (by simpa using hNs)
                have hlen2 : ([92, b] : List UInt8).length = 2 := rfl
                rw [hlen2] at hcp
                have HB2 := Lib.hid B2
                clear B2 e1 hby
                have hsl : ∀ W, (Instr.slice 34 (.slice (some ⟨w.heap.size, 0, none⟩) N N) (some (.int .i64 (acc.length : Int))) none none).run Tryz.prog W = .ok (Lib.tailV w.heap.size N acc.length) W := fun W => Lib.run_slice_tailV W 34 5 Tryz.underlying34 Tryz.sizeOf5 _ N acc.length (by simp at hNs; omega)
                go_wp2
                go_region
                have HTK2 : Hid (escB (l.take (k + 1)) = acc ++ [92, b]) := HTK.out
                go_wp2
                go_roundg (l.length - (k + 1))
                case measure => omega
                case rel => exact ⟨k + 1, rfl, by omega, by go_num, by rw [HTK2.out, List.length_append]; go_num, by rw [HTK2.out]; exact HB2.out⟩
              | false =>
                have e1 := HR.out.no b hc
                have e2 : wr.cell? ⟨z, b.toNat, none⟩ = some (.slice none 0 0) := (HB.out.below.cell (p := ⟨z, b.toNat, none⟩) HR.out.lt).trans e1
                rw [hc] at hNs HTK
                have hneq : ∀ W : World, (binOp .neq 34 (.slice none 0 0) (.slice none 0 0)).run Tryz.prog W = .ok (.bool false) W := fun _ => rfl
                have hNs2 : acc.length + 1 ≤ N := by simpa using hNs
                have haN : (acc.length : Int) < (N : Int) := by omega
                have hth := HB.out.there acc.length (by omega)
                obtain ⟨v0, hv0⟩ := Option.isSome_iff_exists.1 hth
                have hfr := HB.out.free acc.length (by omega)
                have HB2 := Lib.hid (buf_push HB.out b (by omega))
                have HTK2 : Hid (escB (l.take (k + 1)) = acc ++ [b]) := HTK.out
                clear e1 hth hNs HTK
                go_wp2
                go_roundg (l.length - (k + 1))
                case measure => omega
                case rel => exact ⟨k + 1, rfl, by omega, by go_num, by rw [HTK2.out, List.length_append]; go_num, by rw [HTK2.out]; exact HB2.out⟩
            · obtain rfl : k = l.length := by omega
              have hki : ¬ ((l.length : Int) < (l.length : Int)) := by omega
              have hr := HB.out
              rw [List.take_of_length_le (Nat.le_refl _)] at hr
              have hcv := rowB_string (buf_row hr) N 9 Tryz.underlying9
              rw [← HN.out] at hcv
              go_wp2
              go_ret
              exact ⟨rfl, hr.below⟩
end Go.Proofs.YtjmjmnagnbgmfaaGreatDoor
/-! token.Quote. -/
namespace Go.Proofs.YtjmjmnagnbgmfaaGreatDoor
open Go.Lib Go.Shelf Go.RowKit

def olds4 : List Value := [.string ⟨#[92]⟩, .string ⟨#[92, 92]⟩, .string ⟨#[34]⟩, .string ⟨#[92, 34]⟩]

set_option maxRecDepth 100000 in
set_option maxHeartbeats 1600000 in
theorem newRepl_calls (q0 c0 : Nat) (w : World) (h : ∀ j v, olds4[j]? = some v → w.cell? ⟨q0, j, none⟩ = some v) :
    Calls Tryz.prog 65 #[.slice (some ⟨q0, 0, none⟩) 4 c0] w fun e w' => ∃ b q c, e = .returned (.pointer (some ⟨b, 0, none⟩)) ∧ Olds w' b q c ∧ q ≠ b ∧ RB w' b 0 0 .nilIface (.slice (some ⟨q, 0, none⟩) 4 c) ∧ Below w.heap.size w w' ∧ w.heap.size ≤ b := by
  have HC := Lib.hid h
  clear h
  obtain ⟨i0, hi, hz0, hz1, hz2⟩ := info_parts info9
  go_enter Tryz.func65, Tryz.ntmps65
  go_wp2_with (at_builtin; refine wpList_append_own _ rfl (.const (.slice none 0 0)) (.tmp 8) 32 rfl w.heap.size 9 i0 _ 1 16 Tryz.underlying32 hi hz0 hz1 hz2 rfl (by omega) _ 0 [] rfl ?own ⟨q0, 0, none⟩ 4 c0 olds4 rfl rfl ?cs ?oc ?c3 ?c4 ?c5 ?_)
  case own => exact ⟨rfl, .inl ⟨rfl, rfl⟩⟩
  case cs =>
    intro j u hj
    have := HC.out j u hj
    rw [show (⟨q0, 0, none⟩ : Addr).add j = ⟨q0, j, none⟩ by unfold Addr.add; split <;> simp_all]
    exact this
  case oc =>
    intro u hu
    simp only [olds4, List.mem_cons, List.not_mem_nil, or_false] at hu
    rcases hu with rfl | rfl | rfl | rfl <;> rfl
  case c3 => unfold maxLen; omega
  case c4 => omega
  case c5 => exact Nat.le_refl _
  intro v' w1 hown hg _
  have hB1 : Below w.heap.size w w1 := (Below.refl _ w).grown hg (Nat.le_refl _) (fun k hk => by cases hk)
  rcases hown.2 with h0 | ⟨q, c, cur, rfl, hqb, hq, hnc, hcm, hcs, htake⟩
  · simp at h0
  · have hcur : ∀ j v, olds4[j]? = some v → w1.cell? ⟨q, j, none⟩ = some v := by
      intro j v hj
      have hlt : j < 4 := (List.getElem?_eq_some_iff.1 hj).1
      have ht : cur.toList.take 4 = olds4 := htake
      simp only [World.cell?, hq]
      rw [← ht, List.getElem?_take_of_lt hlt, Array.getElem?_toList] at hj
      simpa using hj
    have HCUR := Lib.hid hcur
    have hql : q < w1.heap.size := (Array.getElem?_eq_some_iff.1 hq).1
    have HB1 := Lib.hid hB1
    clear hg hown hi hz0 hz1 hz2 hq hnc hcm hcs htake hcur hB1
    go_wp2
    go_ret
    have hnew := heap_alloc_new w1 (.cells #[.int .u32 0, .int .i32 0, .int .u32 0, .nilIface, .slice (some ⟨q, 0, none⟩) 4 c] 103)
    have hrb : RB (w1.alloc (.cells #[.int .u32 0, .int .i32 0, .int .u32 0, .nilIface, .slice (some ⟨q, 0, none⟩) 4 c] 103)) w1.heap.size 0 0 .nilIface (.slice (some ⟨q, 0, none⟩) 4 c) := hnew
    have hcell : ∀ j v, olds4[j]? = some v → (w1.alloc (.cells #[.int .u32 0, .int .i32 0, .int .u32 0, .nilIface, .slice (some ⟨q, 0, none⟩) 4 c] 103)).cell? ⟨q, j, none⟩ = some v := fun j v hj => (World.cell?_alloc_lt w1 _ _ hql).trans (HCUR.out j v hj)
    exact ⟨w1.heap.size, q, c, rfl, ⟨hrb.lt, by simp; omega, hrb.c4, hcell 0 _ rfl, hcell 1 _ rfl, hcell 2 _ rfl, hcell 3 _ rfl⟩, by omega, hrb, HB1.out.alloc HB1.out.size _, HB1.out.size⟩

set_option maxRecDepth 100000 in
set_option maxHeartbeats 1600000 in
theorem replace_calls (b q c : Nat) (l : List UInt8) (w : World) (h : Olds w b q c) (hbq : q ≠ b) (hr : RB w b 0 0 .nilIface (.slice (some ⟨q, 0, none⟩) 4 c)) (hl : l.length ≤ 1000000) :
    Calls Tryz.prog 66 #[.pointer (some ⟨b, 0, none⟩), .string (sOf l)] w fun e w' => e = .returned (.string (sOf (escB l))) ∧ Below b w w' := by
  have HO := Lib.hid h
  have HR := Lib.hid hr
  have hlt := hr.lt
  clear h hr
  have hmf : ∀ (fn : Fn) (first cap : Array Value) (w : World), (Instr.makeFunc fn first cap).run Tryz.prog w = .ok (.func fn first cap) w := fun _ _ _ _ => rfl
  go_enter Tryz.func66, Tryz.ntmps66
  go_wp2_with fail
  refine (do_calls b q c w HO.out hbq HR.out).mono ?_
  rintro e w1 ⟨rfl, z, hd⟩
  have HD := Lib.hid hd
  have c3 := hd.rb.c3
  have hme : ∀ W : World, (method 295 136 (.pointer (some ⟨z, 0, none⟩)) "Replace").run Tryz.prog W = .ok (160, .pointer (some ⟨z, 0, none⟩)) W := fun W => by kernel_rfl
  clear hd
  go_wp2_with fail
  refine (repl_calls (b + 1) z l w1 HD.out.rdy hl).mono ?_
  rintro e w2 ⟨rfl, hb2⟩
  have HB := Lib.hid (HD.out.below.trans (hb2.mono (Nat.le_of_lt HD.out.rb.lt)))
  clear hb2
  go_wp2_with fail
  go_ret
  exact ⟨rfl, HB.out⟩

theorem sOf_app (a b : List UInt8) : sOf a ++ sOf b = sOf (a ++ b) := by
  apply ByteArray.ext
  apply Array.ext'
  simp [sOf]

/-- A text in quotes. -/
def quoteB (l : List UInt8) : List UInt8 := [34] ++ escB l ++ [34]

set_option maxRecDepth 100000 in
set_option maxHeartbeats 1600000 in
theorem quote_calls (l : List UInt8) (w : World) (hl : l.length ≤ 1000000) :
    Calls Tryz.prog 43 #[.string (sOf l)] w fun e w' => e = .returned (.string (sOf (quoteB l))) ∧ Below w.heap.size w w' := by
  go_enter Tryz.func43, Tryz.ntmps43
  go_wp2_with fail
  refine (newRepl_calls w.heap.size 4 _ ?cells).mono ?_
  case cells =>
    intro j v hj
    have h := heap_alloc_new w (.cells #[.string ⟨#[92]⟩, .string ⟨#[92, 92]⟩, .string ⟨#[34]⟩, .string ⟨#[92, 34]⟩] 9)
    simp only [World.cell?, h]
    match j, hj with
    | 0, hj => simpa [olds4] using hj
    | 1, hj => simpa [olds4] using hj
    | 2, hj => simpa [olds4] using hj
    | 3, hj => simpa [olds4] using hj
    | (k + 4), hj => simp [olds4] at hj
  rintro e w1 ⟨b, q, c, rfl, hO, hqb, hR, hB, hb⟩
  have HO := Lib.hid hO
  have HR := Lib.hid hR
  have HB : Hid (Below w.heap.size w w1) := ((Below.refl _ w).alloc (Nat.le_refl _) _).trans (hB.mono (by simp))
  have hb' : w.heap.size ≤ b := by simp at hb; omega
  clear hO hR hB hb
  go_wp2_with fail
  refine (replace_calls b q c l w1 HO.out hqb HR.out hl).mono ?_
  rintro e w2 ⟨rfl, hb2⟩
  have HB2 := Lib.hid (HB.out.trans (hb2.mono hb'))
  clear hb2
  have hsz : (sOf (escB l)).size ≤ 3000000 := by
    rw [size_sOf, escB_len]
    have := ext_le l
    omega
  have h1 : ¬ 9223372036854775807 < 1 + (sOf (escB l)).size := by omega
  have h2 : ¬ 9223372036854775807 < 1 + (sOf (escB l)).size + 1 := by omega
  go_wp2_with fail
  go_ret
  refine ⟨?_, HB2.out⟩
  rw [quoteB, ← sOf_app, ← sOf_app]
  rfl
end Go.Proofs.YtjmjmnagnbgmfaaGreatDoor
