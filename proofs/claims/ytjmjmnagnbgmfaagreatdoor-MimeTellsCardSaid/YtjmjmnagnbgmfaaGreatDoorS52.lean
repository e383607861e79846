import Derived.Test.YtjmjmnagnbgmfaaGreatDoorS41
import Derived.Test.YtjmjmnagnbgmfaaGreatDoorS30
/-! The reference's Quote, Print; mime.Get. -/
namespace Go.Proofs.YtjmjmnagnbgmfaaGreatDoor
open Go.RowKit Go.Shelf Go.Lib

set_option maxHeartbeats 4000000 in
set_option maxRecDepth 1000000 in
theorem rquote_calls (l : List UInt8) (w : World) (hl : l.length ≤ 1000000) :
    Calls Tryz.prog 46 #[.string (sOf l)] w fun e w' => e = .returned (.string (sOf (quoteB l))) ∧ Below w.heap.size w w' := by
  have hsz : (sOf l).size = l.length := size_sOf l
  go_enter Tryz.func46, Tryz.ntmps46
  go_wp2
  go_loopg [3, 7] l.length (fun g v i wr => ∃ k : Nat, l.length - k = g ∧ k ≤ l.length ∧ i = .int .i64 k ∧ Hid (wr.ownsRow w.heap.size 5 1 v (escB (l.take k)).length (Lib.byteCells (escB (l.take k)))) ∧ Hid (Below w.heap.size w wr))
  case atStart => exact ⟨0, by omega, by omega, rfl, (show _ from ⟨rfl, .inl ⟨rfl, rfl⟩⟩), Below.refl _ w⟩
  case round =>
    obtain ⟨k, rfl, hk, rfl, HO, HB⟩ := hrel
    by_cases hlt : k < l.length
    · have hki : (k : Int) < (l.length : Int) := by omega
      have hTK := escB_take l k hlt
      have hlen : (escB (l.take k)).length ≤ 3000000 := by
        have h1 := escB_len (l.take k)
        have h2 := ext_le (l.take k)
        have h3 : (l.take k).length ≤ l.length := List.length_take_le' _ _
        omega
      obtain ⟨b, hb⟩ : ∃ b, l[k]'hlt = b := ⟨_, rfl⟩
      have hbk : ∀ h, (sOf l)[k]'h = b := fun h => by rw [← hb]; rfl
      have hb256 := b.toNat_lt
      rw [hb] at hTK
      have HTK := Lib.hid hTK
      clear hb hTK
      obtain ⟨n, hn⟩ : ∃ n : Int, (b.toNat : Int) = n := ⟨_, rfl⟩
      have hn256 : 0 ≤ n ∧ n < 256 := by omega
      generalize escB (l.take k) = acc at *
      by_cases h34 : b = 34
      · have hi34 : n = 34 := by rw [← hn, h34]; rfl
        have HTK2 : Hid (escB (l.take (k + 1)) = acc ++ [92] ++ [b]) := by
          show _ = _
          have h := HTK.out
          rw [h34] at h ⊢
          simpa [ch] using h
        clear h34
        obtain ⟨i0, hi, hz0, hz1, hz2⟩ := info_parts info5b
        have HX : Hid ((wr.alloc (.cells #[.int .u8 92] 5)).ownsRow w.heap.size 5 1 u3 acc.length (Lib.byteCells acc)) := HO.out.alloc _
        go_wp2_with (at_builtin; refine wpList_append_own _ rfl (.tmp 20) (.tmp 21) 34 rfl w.heap.size 5 i0 _ 1 1 Tryz.underlying34 hi hz0 hz1 hz2 rfl (by omega) u3 acc.length (Lib.byteCells acc) rfl HX.out ⟨wr.heap.size, 0, none⟩ 1 1 [.int .u8 92] rfl rfl (one_cell wr 5 _) (one_oc _ _) (by unfold maxLen; omega) (by omega) (by have := HB.out.size; simp; omega) ?_)
        intro v1 w1 hown hg _
        have HO1 : Hid (w1.ownsRow w.heap.size 5 1 v1 (acc ++ [92]).length (Lib.byteCells (acc ++ [92]))) := by
          show World.ownsRow _ _ _ _ _ _ _
          rw [List.length_append, byteCells_snoc]
          exact hown
        have HB1 : Hid (Below w.heap.size w w1) := (HB.out.alloc HB.out.size _).grown hg (by have := HB.out.size; simp; omega) (own_low HX.out)
        clear hown hg hz0 hz1 hz2 hi HX
        have hlen1 : (acc ++ [92]).length ≤ 3000001 := by simp; omega
        generalize acc ++ [92] = acc1 at *
        obtain ⟨i0, hi, hz0, hz1, hz2⟩ := info_parts info5b
        have HX : Hid ((w1.alloc (.cells #[.int .u8 34] 5)).ownsRow w.heap.size 5 1 v1 acc1.length (Lib.byteCells acc1)) := HO1.out.alloc _
        go_wp2_with (at_builtin; refine wpList_append_own _ rfl (.tmp 23) (.tmp 27) 34 rfl w.heap.size 5 i0 _ 1 1 Tryz.underlying34 hi hz0 hz1 hz2 rfl (by omega) v1 acc1.length (Lib.byteCells acc1) rfl HX.out ⟨w1.heap.size, 0, none⟩ 1 1 [.int .u8 34] rfl rfl (one_cell w1 5 _) (one_oc _ _) (by unfold maxLen; omega) (by omega) (by have := HB1.out.size; simp; omega) ?_)
        intro v2 w2 hown hg _
        have HO2 : Hid (w2.ownsRow w.heap.size 5 1 v2 (acc1 ++ [b]).length (Lib.byteCells (acc1 ++ [b]))) := by
          show World.ownsRow _ _ _ _ _ _ _
          rw [List.length_append, byteCells_snoc, hn, hi34]
          exact hown
        have HB2 : Hid (Below w.heap.size w w2) := (HB1.out.alloc HB1.out.size _).grown hg (by have := HB1.out.size; simp; omega) (own_low HX.out)
        clear hown hg hz0 hz1 hz2 hi HX
        go_wp2
        go_roundg (l.length - (k + 1))
        case measure => omega
        case rel => exact ⟨k + 1, rfl, by omega, by go_num, by rw [HTK2.out]; exact HO2.out, HB2⟩
      · have hn34 : ¬ n = 34 := fun e => h34 (UInt8.toNat_inj.1 (show b.toNat = 34 by omega))
        by_cases h92 : b = 92
        · have hi92 : n = 92 := by rw [← hn, h92]; rfl
          have HTK2 : Hid (escB (l.take (k + 1)) = acc ++ [92] ++ [b]) := by
            show _ = _
            have h := HTK.out
            rw [h92] at h ⊢
            simpa [ch] using h
          clear h34 h92
          obtain ⟨i0, hi, hz0, hz1, hz2⟩ := info_parts info5b
          have HX : Hid ((wr.alloc (.cells #[.int .u8 92] 5)).ownsRow w.heap.size 5 1 u3 acc.length (Lib.byteCells acc)) := HO.out.alloc _
          go_wp2_with (at_builtin; refine wpList_append_own _ rfl (.tmp 20) (.tmp 21) 34 rfl w.heap.size 5 i0 _ 1 1 Tryz.underlying34 hi hz0 hz1 hz2 rfl (by omega) u3 acc.length (Lib.byteCells acc) rfl HX.out ⟨wr.heap.size, 0, none⟩ 1 1 [.int .u8 92] rfl rfl (one_cell wr 5 _) (one_oc _ _) (by unfold maxLen; omega) (by omega) (by have := HB.out.size; simp; omega) ?_)
          intro v1 w1 hown hg _
          have HO1 : Hid (w1.ownsRow w.heap.size 5 1 v1 (acc ++ [92]).length (Lib.byteCells (acc ++ [92]))) := by
            show World.ownsRow _ _ _ _ _ _ _
            rw [List.length_append, byteCells_snoc]
            exact hown
          have HB1 : Hid (Below w.heap.size w w1) := (HB.out.alloc HB.out.size _).grown hg (by have := HB.out.size; simp; omega) (own_low HX.out)
          clear hown hg hz0 hz1 hz2 hi HX
          have hlen1 : (acc ++ [92]).length ≤ 3000001 := by simp; omega
          generalize acc ++ [92] = acc1 at *
          obtain ⟨i0, hi, hz0, hz1, hz2⟩ := info_parts info5b
          have HX : Hid ((w1.alloc (.cells #[.int .u8 92] 5)).ownsRow w.heap.size 5 1 v1 acc1.length (Lib.byteCells acc1)) := HO1.out.alloc _
          go_wp2_with (at_builtin; refine wpList_append_own _ rfl (.tmp 23) (.tmp 27) 34 rfl w.heap.size 5 i0 _ 1 1 Tryz.underlying34 hi hz0 hz1 hz2 rfl (by omega) v1 acc1.length (Lib.byteCells acc1) rfl HX.out ⟨w1.heap.size, 0, none⟩ 1 1 [.int .u8 92] rfl rfl (one_cell w1 5 _) (one_oc _ _) (by unfold maxLen; omega) (by omega) (by have := HB1.out.size; simp; omega) ?_)
          intro v2 w2 hown hg _
          have HO2 : Hid (w2.ownsRow w.heap.size 5 1 v2 (acc1 ++ [b]).length (Lib.byteCells (acc1 ++ [b]))) := by
            show World.ownsRow _ _ _ _ _ _ _
            rw [List.length_append, byteCells_snoc, hn, hi92]
            exact hown
          have HB2 : Hid (Below w.heap.size w w2) := (HB1.out.alloc HB1.out.size _).grown hg (by have := HB1.out.size; simp; omega) (own_low HX.out)
          clear hown hg hz0 hz1 hz2 hi HX
          go_wp2
          go_roundg (l.length - (k + 1))
          case measure => omega
          case rel => exact ⟨k + 1, rfl, by omega, by go_num, by rw [HTK2.out]; exact HO2.out, HB2⟩
        · have hn92 : ¬ n = 92 := fun e => h92 (UInt8.toNat_inj.1 (show b.toNat = 92 by omega))
          have HTK2 : Hid (escB (l.take (k + 1)) = acc ++ [b]) := by
            have h := HTK.out
            have hc : ch b = false := by simp [ch, h34, h92]
            rw [hc] at h
            exact h
          have hn34b : (n == 34) = false := by simpa using hn34
          have hn92b : (n == 92) = false := by simpa using hn92
          clear h34 h92
          obtain ⟨i0, hi, hz0, hz1, hz2⟩ := info_parts info5b
          have HX : Hid ((wr.alloc (.cells #[.int .u8 n] 5)).ownsRow w.heap.size 5 1 u3 acc.length (Lib.byteCells acc)) := HO.out.alloc _
          go_wp2_with (at_builtin; refine wpList_append_own _ rfl (.tmp 23) (.tmp 27) 34 rfl w.heap.size 5 i0 _ 1 1 Tryz.underlying34 hi hz0 hz1 hz2 rfl (by omega) u3 acc.length (Lib.byteCells acc) rfl HX.out ⟨wr.heap.size, 0, none⟩ 1 1 [.int .u8 n] rfl rfl (one_cell wr 5 _) (one_oc _ _) (by unfold maxLen; omega) (by omega) (by have := HB.out.size; simp; omega) ?_)
          intro v2 w2 hown hg _
          have HO2 : Hid (w2.ownsRow w.heap.size 5 1 v2 (acc ++ [b]).length (Lib.byteCells (acc ++ [b]))) := by
            show World.ownsRow _ _ _ _ _ _ _
            rw [List.length_append, byteCells_snoc, hn]
            exact hown
          have HB2 : Hid (Below w.heap.size w w2) := (HB.out.alloc HB.out.size _).grown hg (by have := HB.out.size; simp; omega) (own_low HX.out)
          clear hown hg hz0 hz1 hz2 hi HX
          go_wp2
          go_roundg (l.length - (k + 1))
          case measure => omega
          case rel => exact ⟨k + 1, rfl, by omega, by go_num, by rw [HTK2.out]; exact HO2.out, HB2⟩
    · obtain rfl : k = l.length := by omega
      have hki : ¬ ((l.length : Int) < (l.length : Int)) := by omega
      have ho := HO.out
      rw [List.take_of_length_le (Nat.le_refl _)] at ho
      have hcv := own_string ho
      have hse : (sOf (escB l)).size ≤ 3000000 := by
        rw [size_sOf, escB_len]
        have := ext_le l
        omega
      have h1 : ¬ 9223372036854775807 < 1 + (sOf (escB l)).size := by omega
      have h2 : ¬ 9223372036854775807 < 1 + (sOf (escB l)).size + 1 := by omega
      clear ho
      go_wp2
      go_ret
      refine ⟨?_, HB.out⟩
      rw [quoteB, ← sOf_app, ← sOf_app]
      rfl

/-- A type's text, so far. -/
def printTo (a b : List UInt8) (ps : List Pm) : List UInt8 := a ++ [47] ++ b ++ allPrint ps
set_option maxHeartbeats 8000000 in
set_option maxRecDepth 1000000 in
theorem rprint_calls (a b : List UInt8) (A : Option Addr) (c : Nat) (ps : List Pm) (w : World) (ha : a.length ≤ 1000000) (hb : b.length ≤ 1000000) (hm : Mod ps) (hr : PRd w A ps) (hn : ps.length ≤ 1000000) :
    Calls Tryz.prog 20 #[.agg #[.string (sOf a), .string (sOf b), .slice A ps.length c]] w fun e w' => e = .returned (.string (sOf (printB (a, b, ps)))) ∧ Below w.heap.size w w' := by
  have HM := Lib.hid hm
  have HP := Lib.hid hr
  clear hm hr
  have HS0 : Hid (MS w (w.alloc (.cells #[.string (sOf a), .string (sOf b), .slice A ps.length c] 25)) w.heap.size (.string (sOf a)) (.string (sOf b)) (.slice A ps.length c)) :=
    ⟨(Below.refl _ w).alloc (Nat.le_refl _) _, Nat.le_refl _, heap_alloc_new w _⟩
  have e1 : (sOf a).size = a.length := size_sOf a
  have e2 : (sOf b).size = b.length := size_sOf b
  have g1 : ¬ 9223372036854775807 < (sOf a).size + 1 := by omega
  have g2 : ¬ 9223372036854775807 < (sOf a).size + 1 + (sOf b).size := by omega
  go_enter Tryz.func20, Tryz.ntmps20
  go_wp2_with fail
  have HE0 : Hid (sOf a ++ (⟨#[47]⟩ : ByteArray) ++ sOf b = sOf (printTo a b (ps.take 0))) := by
    show _ = _
    rw [List.take_zero, printTo, show allPrint [] = [] from rfl, List.append_nil, ← sOf_app, ← sOf_app]
    rfl
  rw [HE0.out]
  go_loopg [3, 15] ps.length (fun g s i wr => ∃ k : Nat, ps.length - k = g ∧ k ≤ ps.length ∧ i = .int .i64 k ∧ s = .string (sOf (printTo a b (ps.take k))) ∧ Hid (MS w wr w.heap.size (.string (sOf a)) (.string (sOf b)) (.slice A ps.length c)))
  case atStart => exact ⟨0, by omega, by omega, rfl, rfl, HS0⟩
  case round =>
    obtain ⟨k, rfl, hk, rfl, rfl, HS⟩ := hrel
    clear HS0 HE0 g1 g2
    by_cases hlt : k < ps.length
    · have hki : (k : Int) < (ps.length : Int) := by omega
      obtain ⟨nm, v, hp⟩ : ∃ nm v, ps[k]'hlt = (nm, v) := ⟨_, _, rfl⟩
      have hpk : ps[k]? = some (nm, v) := by rw [List.getElem?_eq_getElem hlt, hp]
      have hmod := HM.out (nm, v) (List.mem_of_getElem? hpk)
      simp only at hmod
      obtain ⟨bl, off, rfl, hbl, hcells⟩ := HP.out.2 (by omega)
      have HCL : Hid (∀ W, Below w.heap.size w W → W.cell? ⟨bl, off + k * 2, none⟩ = some (.string (sOf nm)) ∧ W.cell? ⟨bl, off + k * 2 + 1, none⟩ = some (.string (sOf v))) := fun W hW => by
        have d0 := hcells k (nm, v) hpk 0 _ rfl
        have d1 := hcells k (nm, v) hpk 1 _ rfl
        rw [Nat.add_zero] at d0
        exact ⟨(hW.cell hbl).trans d0, (hW.cell hbl).trans d1⟩
      have HAP : Hid (printTo a b (ps.take (k + 1)) = printTo a b (ps.take k) ++ onePrint (nm, v)) := by
        show _ = _
        rw [List.take_succ_eq_append_getElem hlt, hp, printTo, allPrint_app, printTo]
        simp [allPrint]
      have hL : (sOf (printTo a b (ps.take k))).size ≤ 2000001 + 5000000 * 1000000 := by
        have h1 := allPrint_len (ps.take k) (fun q hq => HM.out q (List.mem_of_mem_take hq))
        rw [List.length_take_of_le hk] at h1
        rw [size_sOf, printTo]
        simp only [List.length_append, List.length_singleton]
        have : 5000000 * k ≤ 5000000 * 1000000 := Nat.mul_le_mul_left _ (by omega)
        omega
      clear hcells hp hpk
      have CQ := Lib.hid (fun w => rquote_calls v w hmod.2)
      have CI := Lib.hid (fun w => ris_calls (sOf v) w (by rw [size_sOf]; omega))
      rw [data_sOf] at CI
      generalize printTo a b (ps.take k) = P at *
      have c2 := HS.out.c2
      have d0 := (HCL.out _ HS.out.below).1
      have d1 := (HCL.out _ HS.out.below).2
      have hn0 : (sOf nm).size ≤ 1000000 := by rw [size_sOf]; exact hmod.1
      have g1 : ¬ 9223372036854775807 < (sOf P).size + 1 := by omega
      have g2 : ¬ 9223372036854775807 < (sOf P).size + 1 + (sOf nm).size := by omega
      have g3 : ¬ 9223372036854775807 < (sOf P).size + 1 + (sOf nm).size + 1 := by omega
      cases htok : isTok v with
      | true =>
        rw [htok] at CI
        have hv0 : (sOf v).size ≤ 3000002 := by rw [size_sOf]; omega
        have g4 : ¬ 9223372036854775807 < (sOf P).size + 1 + (sOf nm).size + 1 + (sOf v).size := by omega
        have HF : Hid (sOf P ++ (⟨#[59]⟩ : ByteArray) ++ sOf nm ++ ⟨#[61]⟩ ++ sOf v = sOf (printTo a b (ps.take (k + 1)))) := by
          show _ = _
          have e : onePrint (nm, v) = [59] ++ nm ++ [61] ++ v := by simp [onePrint, htok]
          rw [HAP.out, e]
          have e2 : P ++ ([59] ++ nm ++ [61] ++ v) = P ++ [59] ++ nm ++ [61] ++ v := by simp
          rw [e2, ← sOf_app, ← sOf_app, ← sOf_app, ← sOf_app]
          rfl
        clear htok HAP
        go_wp2_with (go_at_call 31; refine (CI.out _).mono ?_; rintro e w' ⟨rfl, rfl⟩)
        go_roundg (ps.length - (k + 1))
        case measure => omega
        case rel => exact ⟨k + 1, rfl, by omega, by go_num, by rw [← HF.out], HS⟩
      | false =>
        rw [htok] at CI
        have hv0 : (sOf (quoteB v)).size ≤ 3000002 := by
          have := quoteB_len v
          rw [size_sOf]
          omega
        have g4 : ¬ 9223372036854775807 < (sOf P).size + 1 + (sOf nm).size + 1 + (sOf (quoteB v)).size := by omega
        have HF : Hid (sOf P ++ (⟨#[59]⟩ : ByteArray) ++ sOf nm ++ ⟨#[61]⟩ ++ sOf (quoteB v) = sOf (printTo a b (ps.take (k + 1)))) := by
          show _ = _
          have e : onePrint (nm, v) = [59] ++ nm ++ [61] ++ quoteB v := by simp [onePrint, htok]
          rw [HAP.out, e]
          have e2 : P ++ ([59] ++ nm ++ [61] ++ quoteB v) = P ++ [59] ++ nm ++ [61] ++ quoteB v := by simp
          rw [e2, ← sOf_app, ← sOf_app, ← sOf_app, ← sOf_app]
          rfl
        clear htok HAP
        go_wp2_with (go_at_call 31; refine (CI.out _).mono ?_; rintro e w' ⟨rfl, rfl⟩)
        refine (CQ.out _).mono ?_
        rintro e w5 ⟨rfl, hb5⟩
        have HS5 := Lib.hid (HS.out.step hb5)
        clear hb5 HS c2 d0 d1
        have c2 := HS5.out.c2
        have d0 := (HCL.out _ HS5.out.below).1
        have d1 := (HCL.out _ HS5.out.below).2
        go_wp2_with fail
        go_roundg (ps.length - (k + 1))
        case measure => omega
        case rel => exact ⟨k + 1, rfl, by omega, by go_num, by rw [← HF.out], HS5⟩
    · obtain rfl : k = ps.length := by omega
      have hki : ¬ ((ps.length : Int) < (ps.length : Int)) := by omega
      go_wp2_with fail
      go_ret
      refine ⟨?_, HS.out.below⟩
      have e : printTo a b ps = printB (a, b, ps) := rfl
      rw [← e]
      rfl

set_option maxHeartbeats 4000000 in
set_option maxRecDepth 100000 in
theorem get_calls (x y : Value) (A : Option Addr) (c : Nat) (ps : List Pm) (nm : List UInt8) (w : World) (hx : ∃ a, x = .string a) (hy : ∃ b, y = .string b) (hr : PRd w A ps) :
    Calls Tryz.prog 18 #[.agg #[x, y, .slice A ps.length c], .string (sOf nm)] w fun e w' => e = .returned (.tuple #[.string (sOf (getB ps nm).1), .bool (getB ps nm).2]) ∧ Below w.heap.size w w' := by
  obtain ⟨a, rfl⟩ := hx
  obtain ⟨b, rfl⟩ := hy
  have HP := Lib.hid hr
  have hm := hr.1
  clear hr
  obtain ⟨R, hR⟩ : ∃ R, R = getB ps nm := ⟨_, rfl⟩
  rw [← hR]
  have HR := Lib.hid hR
  clear hR
  have HS0 : Hid (MS w (w.alloc (.cells #[.string a, .string b, .slice A ps.length c] 25)) w.heap.size (.string a) (.string b) (.slice A ps.length c)) :=
    ⟨(Below.refl _ w).alloc (Nat.le_refl _) _, Nat.le_refl _, heap_alloc_new w _⟩
  go_enter Tryz.func18, Tryz.ntmps18
  go_wp2
  go_loopg [11] ps.length (fun g i wr => ∃ k : Nat, ps.length - k = g ∧ k ≤ ps.length ∧ i = .int .i64 k ∧ Hid (Below w.heap.size w wr) ∧ Hid (getB (ps.drop k) nm = R))
  case atStart => exact ⟨0, by omega, by omega, rfl, HS0.out.below, HR.out.symm⟩
  case round =>
    obtain ⟨k, rfl, hk, rfl, HB, HG⟩ := hrel
    clear HS0
    by_cases hlt : k < ps.length
    · have hki : (k : Int) < (ps.length : Int) := by omega
      obtain ⟨pn, pv, hp⟩ : ∃ nm v, ps[k]'hlt = (nm, v) := ⟨_, _, rfl⟩
      have hpk : ps[k]? = some (pn, pv) := by rw [List.getElem?_eq_getElem hlt, hp]
      obtain ⟨bl, off, rfl, hbl, hcells⟩ := (HP.out.below HB.out).2 (by omega)
      have d0 := hcells k (pn, pv) hpk 0 _ rfl
      have d1 := hcells k (pn, pv) hpk 1 _ rfl
      rw [Nat.add_zero] at d0
      have HD : Hid (R = if pn = nm then (pv, true) else getB (ps.drop (k + 1)) nm) := by
        show _ = _
        rw [← HG.out, List.drop_eq_getElem_cons hlt, hp]
        rfl
      have HB2 : Hid (Below w.heap.size w (wr.alloc (.cells #[.string (sOf pn), .string (sOf pv)] 36))) := HB.out.alloc HB.out.size _
      have he : ((sOf pn).toList == (sOf nm).toList) = decide (pn = nm) := by
        rw [toList_sOf, toList_sOf]
        by_cases h : pn = nm
        · simp [h]
        · simp [h]
      have he2 : ((sOf pn).toList = (sOf nm).toList) = (pn = nm) := by rw [toList_sOf, toList_sOf]
      clear hcells hp hpk
      by_cases h : pn = nm
      · have HF : Hid (R = (pv, true)) := by
          show _ = _
          rw [HD.out, if_pos h]
        rw [decide_eq_true h] at he
        have he3 : (sOf pn).toList = (sOf nm).toList := by rw [he2]; exact h
        clear he2 h
        go_wp2
        go_ret2
        exact ⟨by rw [HF.out]; rfl, HB2.out⟩
      · have HF : Hid (getB (ps.drop (k + 1)) nm = R) := by
          show _ = _
          rw [HD.out, if_neg h]
        rw [decide_eq_false h] at he
        have he3 : ¬ (sOf pn).toList = (sOf nm).toList := by rw [he2]; exact h
        clear he2 h
        go_wp2
        go_roundg (ps.length - (k + 1))
        case measure => omega
        case rel => exact ⟨k + 1, rfl, by omega, by go_num, HB2, HF⟩
    · obtain rfl : k = ps.length := by omega
      have hki : ¬ ((ps.length : Int) < (ps.length : Int)) := by omega
      have HF : Hid (R = ([], false)) := by
        show _ = _
        rw [← HG.out, List.drop_eq_nil_of_le (Nat.le_refl _)]
        rfl
      go_wp2
      go_ret2
      exact ⟨by rw [HF.out]; rfl, HB.out⟩
end Go.Proofs.YtjmjmnagnbgmfaaGreatDoor
