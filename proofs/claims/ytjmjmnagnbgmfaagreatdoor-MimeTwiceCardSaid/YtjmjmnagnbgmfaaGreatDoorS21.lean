import Derived.Test.YtjmjmnagnbgmfaaGreatDoorS20
import Derived.Test.YtjmjmnagnbgmfaaGreatDoorS13
import Derived.Test.YtjmjmnagnbgmfaaGreatDoorS12
/-! mime.Print. -/
namespace Go.Proofs.YtjmjmnagnbgmfaaGreatDoor
open Go.RowKit Go.Shelf Go.Lib

/-- A parameter's text. -/
def onePrint (p : Pm) : List UInt8 := [59] ++ p.1 ++ [61] ++ (if isTok p.2 then p.2 else quoteB p.2)
def allPrint : List Pm → List UInt8
  | [] => []
  | p :: t => onePrint p ++ allPrint t
/-- A type's text. -/
def printB (m : Mm) : List UInt8 := m.1 ++ [47] ++ m.2.1 ++ allPrint m.2.2
theorem allPrint_app (a b : List Pm) : allPrint (a ++ b) = allPrint a ++ allPrint b := by
  induction a with
  | nil => rfl
  | cons x a ih => simp only [List.cons_append, allPrint, ih, List.append_assoc]
theorem quoteB_len (l : List UInt8) : (quoteB l).length ≤ 3 * l.length + 2 := by
  have := escB_len l
  have := ext_le l
  simp only [quoteB, List.length_append, List.length_singleton]
  omega
theorem onePrint_len (p : Pm) (h1 : p.1.length ≤ 1000000) (h2 : p.2.length ≤ 1000000) : (onePrint p).length ≤ 5000000 := by
  have := quoteB_len p.2
  simp only [onePrint, List.length_append, List.length_singleton]
  split <;> omega
theorem allPrint_len : ∀ (ps : List Pm), Mod ps → (allPrint ps).length ≤ 5000000 * ps.length
  | [], _ => by simp [allPrint]
  | p :: t, h => by
    have := allPrint_len t (fun q hq => h q (List.mem_cons_of_mem _ hq))
    have h1 := h p (List.mem_cons_self ..)
    have := onePrint_len p h1.1 h1.2
    simp only [allPrint, List.length_append, List.length_cons]
    omega

theorem isb_step {b B : Nat} {bs : List Value} {w w' : World} (h : Lib.IsBuilder 57 5 B b bs w) (hb : Below w.heap.size w w') : Lib.IsBuilder 57 5 B b bs w' := by
  have hat : ∀ p, Lib.BuilderAt 57 5 B b p bs w → Lib.BuilderAt 57 5 B b p bs w' := by
    rintro p ⟨hB, v, hv, hown, hne⟩
    have hlt : b < w.heap.size := (Array.getElem?_eq_some_iff.1 hv).1
    exact ⟨hB, v, (hb.block b hlt).trans hv, hown.kept (row := some b) ⟨hb.os, hb.tape, hb.output, hb.size, fun k hk _ => hb.block k hk⟩ (Or.inr hne), hne⟩
  exact h.imp (hat _) (hat _)
theorem cells_app (a b : List UInt8) : Lib.byteCells a ++ Lib.strCells (sOf b) = Lib.byteCells (a ++ b) := by
  simp [Lib.byteCells, Lib.strCells, sOf]
theorem printB_eq (a b : List UInt8) (ps : List Pm) : printB (a, b, ps) = a ++ 47 :: (b ++ allPrint ps) := by simp [printB]

set_option maxRecDepth 100000 in
set_option maxHeartbeats 1600000 in
theorem essence_calls (a b : List UInt8) (x : Value) (w : World) (ha : a.length ≤ 1000000) (hb : b.length ≤ 1000000) :
    Calls Tryz.prog 21 #[.agg #[.string (sOf a), .string (sOf b), x]] w fun e w' => e = .returned (.string (sOf (a ++ [47] ++ b))) ∧ Below w.heap.size w w' := by
  have h1 : (sOf a).size = a.length := size_sOf a
  have h2 : (sOf b).size = b.length := size_sOf b
  have g1 : ¬ 9223372036854775807 < (sOf a).size + 1 := by omega
  have g2 : ¬ 9223372036854775807 < (sOf a).size + 1 + (sOf b).size := by omega
  go_enter Tryz.func21, Tryz.ntmps21
  go_wp2
  try (go_quiet (fail); go_wp2)
  go_ret
  refine ⟨?_, ?_⟩
  · rw [← sOf_app, ← sOf_app]
    rfl
  · first | exact Below.refl _ _ | exact (Below.refl _ w).alloc (Nat.le_refl _) _

theorem MS.stepB {w wr w1 : World} {M : Nat} {a b c : Value} (h : MS w wr M a b c) (hb : Below (M + 1) wr w1) : MS w w1 M a b c :=
  ⟨h.below.trans (hb.mono (by have := h.ge; omega)), h.ge, (hb.block M (by omega)).trans h.blk⟩

set_option maxHeartbeats 8000000 in
set_option maxRecDepth 1000000 in
theorem print_calls (a b : List UInt8) (A : Option Addr) (c : Nat) (ps : List Pm) (w : World) (ha : a.length ≤ 1000000) (hb : b.length ≤ 1000000) (hm : Mod ps) (hr : PRd w A ps) (hn : ps.length ≤ 1000000) :
    Calls Tryz.prog 16 #[.agg #[.string (sOf a), .string (sOf b), .slice A ps.length c]] w fun e w' => e = .returned (.string (sOf (printB (a, b, ps)))) ∧ Below w.heap.size w w' := by
  have HM := Lib.hid hm
  have HP := Lib.hid hr
  clear hm hr
  have HS0 : Hid (MS w (w.alloc (.cells #[.string (sOf a), .string (sOf b), .slice A ps.length c] 25)) w.heap.size (.string (sOf a)) (.string (sOf b)) (.slice A ps.length c)) :=
    ⟨(Below.refl _ w).alloc (Nat.le_refl _) _, Nat.le_refl _, heap_alloc_new w _⟩
  have HSB : Hid (MS w ((w.alloc (.cells #[.string (sOf a), .string (sOf b), .slice A ps.length c] 25)).alloc (.cells #[.pointer none, .slice none 0 0] 57)) w.heap.size (.string (sOf a)) (.string (sOf b)) (.slice A ps.length c)) := HS0.out.step ((Below.refl _ _).alloc (Nat.le_refl _) _)
  have HI : Hid (Lib.IsBuilder 57 5 (w.heap.size + 1) (w.heap.size + 1) (Lib.byteCells []) ((w.alloc (.cells #[.string (sOf a), .string (sOf b), .slice A ps.length c] 25)).alloc (.cells #[.pointer none, .slice none 0 0] 57))) := by
    have := Lib.fresh_isBuilder 57 5 (w.alloc (.cells #[.string (sOf a), .string (sOf b), .slice A ps.length c] 25))
    have hs : (w.alloc (.cells #[.string (sOf a), .string (sOf b), .slice A ps.length c] 25)).heap.size = w.heap.size + 1 := by simp
    rw [hs] at this
    exact this
  clear HS0
  go_enter Tryz.func16, Tryz.ntmps16
  go_wp2_with fail
  refine (essence_calls a b _ _ ha hb).mono ?_
  rintro e w1 ⟨rfl, hb1⟩
  have HS1 := Lib.hid (HSB.out.step hb1)
  have HI1 := Lib.hid (isb_step HI.out hb1)
  have hsz1 : w.heap.size + 1 ≤ w1.heap.size := by have := hb1.size; simp at this; omega
  clear hb1 HSB HI
  have hl0 : (Lib.byteCells []).length + (sOf (a ++ [47] ++ b)).size ≤ 140737488355328 := by
    rw [size_sOf]
    show 0 + _ ≤ _
    simp only [List.length_append, List.length_singleton]
    omega
  have HW := Lib.hid (Tryz.Builder_WriteString (w.heap.size + 1) (w.heap.size + 1) (Lib.byteCells []) (sOf (a ++ [47] ++ b)) w1 HI1.out hl0 hsz1)
  clear hl0
  obtain ⟨E, hE⟩ : ∃ E, E = sOf (a ++ [47] ++ b) := ⟨_, rfl⟩
  rw [← hE] at HW ⊢
  have HE := Lib.hid hE
  clear hE
  go_wp2_with fail
  refine Calls.mono HW.out ?_
  clear HW
  rintro e w2 ⟨rfl, hI2, hb2⟩
  rw [HE.out, cells_app] at hI2
  have HI2 : Hid (Lib.IsBuilder 57 5 (w.heap.size + 1) (w.heap.size + 1) (Lib.byteCells (a ++ [47] ++ b ++ allPrint (ps.take 0))) w2) := by
    refine .inr ?_
    rw [List.take_zero, show allPrint [] = [] from rfl, List.append_nil]
    exact hI2
  have HS2 := Lib.hid (HS1.out.stepB hb2)
  have hsz2 : w.heap.size + 1 ≤ w2.heap.size := Nat.le_trans hsz1 hb2.size
  clear hI2 hb2 HI1 HS1 hsz1
  have c2 := HS2.out.c2
  go_wp2_with fail
  clear c2
  go_loopg [13] ps.length (fun g i wr => ∃ k : Nat, ps.length - k = g ∧ k ≤ ps.length ∧ i = .int .i64 k ∧ Hid (MS w wr w.heap.size (.string (sOf a)) (.string (sOf b)) (.slice A ps.length c)) ∧ Hid (Lib.IsBuilder 57 5 (w.heap.size + 1) (w.heap.size + 1) (Lib.byteCells (a ++ [47] ++ b ++ allPrint (ps.take k))) wr) ∧ w.heap.size + 1 ≤ wr.heap.size)
  case atStart => exact ⟨0, by omega, by omega, rfl, HS2, HI2, hsz2⟩
  case round =>
    obtain ⟨k, rfl, hk, rfl, HS, HI, hsz⟩ := hrel
    clear HS2 HI2 hsz2
    by_cases hlt : k < ps.length
    · have hki : (k : Int) < (ps.length : Int) := by omega
      obtain ⟨nm, v, hp⟩ : ∃ nm v, ps[k]'hlt = (nm, v) := ⟨_, _, rfl⟩
      have hpk : ps[k]? = some (nm, v) := by rw [List.getElem?_eq_getElem hlt, hp]
      have hmod := HM.out (nm, v) (List.mem_of_getElem? hpk)
      simp only at hmod
      obtain ⟨bl, off, rfl, hbl, hcells⟩ := (HP.out.below HS.out.below).2 (by omega)
      have d0 := hcells k (nm, v) hpk 0 _ rfl
      have d1 := hcells k (nm, v) hpk 1 _ rfl
      rw [Nat.add_zero] at d0
      have HAP : Hid (allPrint (ps.take (k + 1)) = allPrint (ps.take k) ++ onePrint (nm, v)) := by
        show _ = _
        rw [List.take_succ_eq_append_getElem hlt, hp, allPrint_app]
        simp [allPrint]
      have HL : Hid ((a ++ [47] ++ b ++ allPrint (ps.take k)).length ≤ 2000001 + 5000000 * 1000000) := by
        have h1 := allPrint_len (ps.take k) (fun q hq => HM.out q (List.mem_of_mem_take hq))
        rw [List.length_take_of_le hk] at h1
        show _ ≤ _
        simp only [List.length_append, List.length_singleton]
        have : 5000000 * k ≤ 5000000 * 1000000 := Nat.mul_le_mul_left _ (by omega)
        omega
      clear hcells hp hpk
      have hA : Below wr.heap.size wr (wr.alloc (.cells #[.string (sOf nm), .string (sOf v)] 36)) := (Below.refl _ wr).alloc (Nat.le_refl _) _
      have HS3 := Lib.hid (HS.out.step hA)
      have HI3 := Lib.hid (isb_step HI.out hA)
      have HBK : Hid ((wr.alloc (.cells #[.string (sOf nm), .string (sOf v)] 36)).heap[wr.heap.size]? = some (.cells #[.string (sOf nm), .string (sOf v)] 36 (0, 0))) := heap_alloc_new wr _
      have HQ := Lib.hid (fun w => quote_calls v w hmod.2)
      have CI := Lib.hid (fun w => is_calls (sOf v) w (by rw [size_sOf]; omega))
      rw [data_sOf] at CI
      clear hA HS HI
      cases htok : isTok v with
      | true =>
        rw [htok] at CI
        have HON : Hid (onePrint (nm, v) = [59] ++ nm ++ [61] ++ v) := by show _ = _; simp [onePrint, htok]
        have hszA : w.heap.size + 1 ≤ (wr.alloc (.cells #[.string (sOf nm), .string (sOf v)] 36)).heap.size := by simp; omega
        have hvlen : v.length ≤ 3000002 := by omega
        have HP3 : Hid (onePrint (nm, v) = [59] ++ nm ++ [61] ++ v) := HON.out
        have p0 : (wr.alloc (.cells #[.string (sOf nm), .string (sOf v)] 36)).cell? ⟨wr.heap.size, 0, none⟩ = some (.string (sOf nm)) := by have h := HBK.out; simp only [World.cell?, h]; rfl
        have hn0 : (sOf nm).size ≤ 1000000 := by rw [size_sOf]; exact hmod.1
        have hv0 : (sOf v).size ≤ 3000002 := by rw [size_sOf]; exact hvlen
        have g1 : ¬ 9223372036854775807 < 1 + (sOf nm).size := by omega
        have g2 : ¬ 9223372036854775807 < 1 + (sOf nm).size + 1 := by omega
        have g3 : ¬ 9223372036854775807 < 1 + (sOf nm).size + 1 + (sOf v).size := by omega
        go_wp2_with (go_at_call 26; refine (CI.out _).mono ?_; rintro e w' ⟨rfl, rfl⟩)
        rw [show (⟨#[59]⟩ : ByteArray) ++ sOf nm ++ ⟨#[61]⟩ ++ sOf v = sOf (onePrint (nm, v)) by rw [HP3.out, ← sOf_app, ← sOf_app, ← sOf_app]; rfl]
        have hsum : (Lib.byteCells (a ++ [47] ++ b ++ allPrint (ps.take k))).length + (sOf (onePrint (nm, v))).size ≤ 140737488355328 := by
          have e1 : (Lib.byteCells (a ++ [47] ++ b ++ allPrint (ps.take k))).length = (a ++ [47] ++ b ++ allPrint (ps.take k)).length := by simp only [Lib.byteCells, List.length_map]
          have e2 := HL.out
          have e3 := onePrint_len (nm, v) hmod.1 hmod.2
          rw [e1, size_sOf]
          omega
        refine (Tryz.Builder_WriteString (w.heap.size + 1) (w.heap.size + 1) _ (sOf (onePrint (nm, v))) (wr.alloc (.cells #[.string (sOf nm), .string (sOf v)] 36)) HI3.out hsum hszA).mono ?_
        rintro e w9 ⟨rfl, hI9, hb9⟩
        rw [cells_app, List.append_assoc (a ++ [47] ++ b), ← HAP.out] at hI9
        have HI9 : Hid (Lib.IsBuilder 57 5 (w.heap.size + 1) (w.heap.size + 1) (Lib.byteCells (a ++ [47] ++ b ++ allPrint (ps.take (k + 1)))) w9) := .inr hI9
        have HS9 := Lib.hid (HS3.out.stepB hb9)
        have hsz9 : w.heap.size + 1 ≤ w9.heap.size := Nat.le_trans hszA hb9.size
        clear hI9 hb9 p0 hn0 hv0 g1 g2 g3 hsum
        generalize sOf (onePrint (nm, v)) = E9 at *
        go_wp2_with fail
        go_roundg (ps.length - (k + 1))
        case measure => omega
        case rel => exact ⟨k + 1, rfl, by omega, by go_num, HS9, HI9, hsz9⟩
      | false =>
        rw [htok] at CI
        have HON : Hid (onePrint (nm, v) = [59] ++ nm ++ [61] ++ quoteB v) := by show _ = _; simp [onePrint, htok]
        go_wp2_with (go_at_call 26; refine (CI.out _).mono ?_; rintro e w' ⟨rfl, rfl⟩)
        refine (HQ.out _).mono ?_
        rintro e w5 ⟨rfl, hb5⟩
        have HS5 := Lib.hid (HS3.out.step hb5)
        have HI5 := Lib.hid (isb_step HI3.out hb5)
        have HBK5 : Hid (w5.heap[wr.heap.size]? = some (.cells #[.string (sOf nm), .string (sOf v)] 36 (0, 0))) := (hb5.block _ (by simp)).trans HBK.out
        have hsz5 : w.heap.size + 1 ≤ w5.heap.size := by have := hb5.size; simp at this; omega
        clear hb5 HS3 HI3 HBK d0 d1
        have hvlen : (quoteB v).length ≤ 3000002 := by have := quoteB_len v; omega
        have HP3 : Hid (onePrint (nm, v) = [59] ++ nm ++ [61] ++ (quoteB v)) := HON.out
        have p0 : w5.cell? ⟨wr.heap.size, 0, none⟩ = some (.string (sOf nm)) := by have h := HBK5.out; simp only [World.cell?, h]; rfl
        have hn0 : (sOf nm).size ≤ 1000000 := by rw [size_sOf]; exact hmod.1
        have hv0 : (sOf (quoteB v)).size ≤ 3000002 := by rw [size_sOf]; exact hvlen
        have g1 : ¬ 9223372036854775807 < 1 + (sOf nm).size := by omega
        have g2 : ¬ 9223372036854775807 < 1 + (sOf nm).size + 1 := by omega
        have g3 : ¬ 9223372036854775807 < 1 + (sOf nm).size + 1 + (sOf (quoteB v)).size := by omega
        go_wp2_with fail
        rw [show (⟨#[59]⟩ : ByteArray) ++ sOf nm ++ ⟨#[61]⟩ ++ sOf (quoteB v) = sOf (onePrint (nm, v)) by rw [HP3.out, ← sOf_app, ← sOf_app, ← sOf_app]; rfl]
        have hsum : (Lib.byteCells (a ++ [47] ++ b ++ allPrint (ps.take k))).length + (sOf (onePrint (nm, v))).size ≤ 140737488355328 := by
          have e1 : (Lib.byteCells (a ++ [47] ++ b ++ allPrint (ps.take k))).length = (a ++ [47] ++ b ++ allPrint (ps.take k)).length := by simp only [Lib.byteCells, List.length_map]
          have e2 := HL.out
          have e3 := onePrint_len (nm, v) hmod.1 hmod.2
          rw [e1, size_sOf]
          omega
        refine (Tryz.Builder_WriteString (w.heap.size + 1) (w.heap.size + 1) _ (sOf (onePrint (nm, v))) w5 HI5.out hsum hsz5).mono ?_
        rintro e w9 ⟨rfl, hI9, hb9⟩
        rw [cells_app, List.append_assoc (a ++ [47] ++ b), ← HAP.out] at hI9
        have HI9 : Hid (Lib.IsBuilder 57 5 (w.heap.size + 1) (w.heap.size + 1) (Lib.byteCells (a ++ [47] ++ b ++ allPrint (ps.take (k + 1)))) w9) := .inr hI9
        have HS9 := Lib.hid (HS5.out.stepB hb9)
        have hsz9 : w.heap.size + 1 ≤ w9.heap.size := Nat.le_trans hsz5 hb9.size
        clear hI9 hb9 p0 hn0 hv0 g1 g2 g3 hsum
        generalize sOf (onePrint (nm, v)) = E9 at *
        go_wp2_with fail
        go_roundg (ps.length - (k + 1))
        case measure => omega
        case rel => exact ⟨k + 1, rfl, by omega, by go_num, HS9, HI9, hsz9⟩
    · obtain rfl : k = ps.length := by omega
      have hki : ¬ ((ps.length : Int) < (ps.length : Int)) := by omega
      have HB := Tryz.Builder_String_any (w.heap.size + 1) (w.heap.size + 1) _ wr HI.out hsz
      rw [List.take_of_length_le (Nat.le_refl _)] at HB
      go_wp2_with fail
      refine HB.mono ?_
      rintro e w3 ⟨rfl, hb3⟩
      go_wp2_with fail
      go_ret
      refine ⟨?_, HS.out.below.trans (hb3.mono (by omega))⟩
      show Ending.returned (Value.string ⟨(a ++ 47 :: (b ++ allPrint ps)).toArray⟩) = _
      rw [← printB_eq]
      rfl
end Go.Proofs.YtjmjmnagnbgmfaaGreatDoor
