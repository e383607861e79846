/- Slices of parameters: as a row of the call's own and as a slice that is read; slices.ContainsFunc at them. -/
import Derived.Test.YtjmjmnagnbgmfaaGreatDoorS8
import Derived.Test.YtjmjmnagnbgmfaaGreatDoorPMimeReadsx0
import Derived.Shelf.SlicesQ.IndexFunc
import Derived.Lib.SliceRun
namespace Go.Proofs.YtjmjmnagnbgmfaaGreatDoor
open Go.RowKit Go.Shelf Go.Lib Go.Proofs.YtjmjmnagnbgmfaaGreatDoorW.PrintWords PMimeReads

/-- A parameter: its name, its value. -/
abbrev Pm := List UInt8 × List UInt8
def encP (x : Pm) : List Value := [.string (sOf x.1), .string (sOf x.2)]
/-- The cells of parameters. -/
def cellsP (ps : List Pm) : List Value := ps.flatMap encP
theorem cellsP_length (ps : List Pm) : (cellsP ps).length = ps.length * 2 := by
  induction ps with
  | nil => rfl
  | cons p ps ih => simp only [cellsP, List.flatMap_cons, List.length_append, List.length_cons] at *; rw [ih]; simp [encP]; omega
theorem cellsP_snoc (ps : List Pm) (p : Pm) : cellsP (ps ++ [p]) = cellsP ps ++ encP p := by simp [cellsP]
theorem cellsP_at (ps : List Pm) (j : Nat) (p : Pm) (h : ps[j]? = some p) (i : Nat) (u : Value) (hu : (encP p)[i]? = some u) : (cellsP ps)[j * 2 + i]? = some u := by
  induction ps generalizing j with
  | nil => simp at h
  | cons q ps ih =>
    have hi : i < 2 := by
      rcases Nat.lt_or_ge i 2 with h1 | h1
      · exact h1
      · rw [List.getElem?_eq_none (by simpa [encP] using h1)] at hu; cases hu
    have hl : (encP q).length = 2 := rfl
    cases j with
    | zero =>
      simp at h
      subst h
      simp only [cellsP, List.flatMap_cons, Nat.zero_mul, Nat.zero_add]
      rw [List.getElem?_append_left (by omega)]
      exact hu
    | succ j =>
      simp at h
      simp only [cellsP, List.flatMap_cons]
      rw [List.getElem?_append_right (by omega), hl, show (j + 1) * 2 + i - 2 = j * 2 + i by omega]
      exact ih j h

/-- A slice that reads as these parameters. -/
def PRd (w : World) (A : Option Addr) (ps : List Pm) : Prop := ps.length ≤ 9223372036854775807 ∧ (0 < ps.length → ∃ b off, A = some ⟨b, off, none⟩ ∧ b < w.heap.size ∧ ∀ j p, ps[j]? = some p → ∀ i u, (encP p)[i]? = some u → w.cell? ⟨b, off + j * 2 + i, none⟩ = some u)
theorem PRd.below {w w' : World} {A : Option Addr} {ps : List Pm} (h : PRd w A ps) (hb : Below w.heap.size w w') : PRd w' A ps := by
  refine ⟨h.1, fun hn => ?_⟩
  obtain ⟨b, off, rfl, hlt, hc⟩ := h.2 hn
  exact ⟨b, off, rfl, Nat.lt_of_lt_of_le hlt hb.size, fun j p hj i u hu => (hb.cell (p := ⟨b, off + j * 2 + i, none⟩) hlt).trans (hc j p hj i u hu)⟩

theorem prd_of_own {w : World} {B : Nat} {v : Value} {ps : List Pm} (h : w.ownsRow B 36 2 v ps.length (cellsP ps)) : ∃ A c, v = .slice A ps.length c ∧ ps.length ≤ c ∧ PRd w A ps := by
  have h0 := h
  rcases h.2 with ⟨rfl, hn⟩ | ⟨g, cap, cur, rfl, hg, hh, hc, hm, _⟩
  · exact ⟨none, 0, by rw [hn], by omega, by omega, fun h => by omega⟩
  · refine ⟨_, cap, rfl, hc, by simp only [maxLen] at hm; omega, fun _ => ⟨g, 0, rfl, (Array.getElem?_eq_some_iff.1 hh).1, fun j p hj i u hu => ?_⟩⟩
    have := h0.cells (g := g) rfl (j * 2 + i) u (cellsP_at ps j p hj i u hu)
    rw [add_plain] at this
    rw [Nat.zero_add]
    exact this

theorem encloses (args : Array Value) (g : Nat) (hg : g = 57 ∨ g = 38) (w : World) : (callFunc g args).run Tryz.prog w = .ok (.enter g args) w := by
  rcases hg with rfl | rfl
  · exact enters_of Tryz.func57 (by kernel_rfl) rfl args w
  · exact enters_of Tryz.func38 (by kernel_rfl) rfl args w

/-- What a predicate on parameters has to be. -/
abbrev PredP (g : Nat) (lb : Array Value) (p : Pm → Bool) (w : World) : Prop := PredBelow Tryz.prog g lb (fun x => .agg (encP x).toArray) p w

set_option maxHeartbeats 1000000 in
theorem index_none (A : Option Addr) (c : Nat) (fv : Value) (w : World) : Calls Tryz.prog 62 #[.slice A 0 c, fv] w fun e w' => e = .returned (.int .i64 (-1)) ∧ w = w' := by
  go_enter Tryz.func62, Tryz.ntmps62
  go_wp2
  go_loop [8] (fun i => i = .int .i64 0) (fun _ => 0)
  case atStart => rfl
  case round =>
    obtain rfl := hrel
    go_wp2
    go_ret
    exact ⟨rfl, rfl⟩

set_option maxHeartbeats 1000000 in
theorem contains_calls (A : Option Addr) (c : Nat) (ps : List Pm) (w : World) (h : PRd w A ps) (g : Nat) (hg : g = 57 ∨ g = 38) (lb : Array Value) (p : Pm → Bool) (hp : PredP g lb p w) :
    Calls Tryz.prog 37 #[.slice A ps.length c, .func (.func g) #[] lb] w fun e w' => e = .returned (.bool (ps.any p)) ∧ Below w.heap.size w w' := by
  cases ps with
  | nil =>
    have H := Lib.hid (fun fv w => index_none A c fv w)
    clear h hp
    show Calls Tryz.prog 37 #[.slice A 0 c, .func (.func g) #[] lb] w fun e w' => e = .returned (.bool false) ∧ Below w.heap.size w w'
    go_enter Tryz.func37, Tryz.ntmps37
    go_wp2_with (go_at_call 62; refine (H.out _ _).mono ?_; rintro e w' ⟨rfl, rfl⟩)
    go_ret
    exact ⟨rfl, Below.refl _ _⟩
  | cons q qs =>
    obtain ⟨b, off, rfl, hlt, hc⟩ := h.2 (by simp)
    have hcon := AnyQ.slices_ContainsFunc Tryz.lContains 2 Tryz.isAgg36 Tryz.sizeOf36 encP (fun _ => rfl) p g lb (fun args w => encloses args g hg w) b off (q :: qs).length c (q :: qs) w hp (Nat.le_refl _) h.1 hlt (fun j hj i v hv => by
      refine hc j _ ?_ i v hv
      rw [List.getElem?_eq_getElem hj, getElem!_pos (q :: qs) j hj])
    rw [List.take_length] at hcon
    exact hcon

/-- params' closure: is the name the one in that cell? -/
theorem pred57 (nm : List UInt8) (K : Nat) (w : World) (hK : K < w.heap.size) (hc : w.cell? ⟨K, 0, none⟩ = some (.string (sOf nm))) : PredP 57 #[.pointer (some ⟨K, 0, none⟩)] (fun x => x.1 == nm) w := fun W x hb => by
  have hcW : W.cell? ⟨K, 0, none⟩ = some (.string (sOf nm)) := (hb.cell (p := ⟨K, 0, none⟩) hK).trans hc
  have hKW : K < W.heap.size := Nat.lt_of_lt_of_le hK hb.size
  have hcA : ∀ O : Obj, (W.alloc O).cell? ⟨K, 0, none⟩ = some (.string (sOf nm)) := fun O => (World.cell?_alloc_lt W O _ hKW).trans hcW
  have hv : Hid ((x.1 == nm) = ((sOf x.1).toList == (sOf nm).toList)) := by rw [toList_sOf, toList_sOf]; exact rfl
  show Calls Tryz.prog 57 #[.agg #[.string (sOf x.1), .string (sOf x.2)], .pointer (some ⟨K, 0, none⟩)] W fun e w' => e = .returned (.bool (x.1 == nm)) ∧ Below w.heap.size w w'
  generalize (x.1 == nm) = r at hv ⊢
  generalize sOf nm = y at *
  generalize sOf x.1 = y1 at *
  generalize sOf x.2 = y2 at *
  go_enter Tryz.func57, Tryz.ntmps57
  go_wp2
  all_goals (go_ret; exact ⟨by rw [hv.out]; simp_all, hb.alloc hb.size _⟩)

/-- mime.Right's closure: is the name the one in that parameter? -/
theorem pred38 (nm : List UInt8) (K : Nat) (w : World) (hK : K < w.heap.size) (hc : w.cell? ⟨K, 0, none⟩ = some (.string (sOf nm))) : PredP 38 #[.pointer (some ⟨K, 0, none⟩)] (fun x => x.1 == nm) w := fun W x hb => by
  have hcW : W.cell? ⟨K, 0, none⟩ = some (.string (sOf nm)) := (hb.cell (p := ⟨K, 0, none⟩) hK).trans hc
  have hKW : K < W.heap.size := Nat.lt_of_lt_of_le hK hb.size
  have hcA : ∀ O : Obj, (W.alloc O).cell? ⟨K, 0, none⟩ = some (.string (sOf nm)) := fun O => (World.cell?_alloc_lt W O _ hKW).trans hcW
  have hv : Hid ((x.1 == nm) = ((sOf x.1).toList == (sOf nm).toList)) := by rw [toList_sOf, toList_sOf]; exact rfl
  show Calls Tryz.prog 38 #[.agg #[.string (sOf x.1), .string (sOf x.2)], .pointer (some ⟨K, 0, none⟩)] W fun e w' => e = .returned (.bool (x.1 == nm)) ∧ Below w.heap.size w w'
  generalize (x.1 == nm) = r at hv ⊢
  generalize sOf nm = y at *
  generalize sOf x.1 = y1 at *
  generalize sOf x.2 = y2 at *
  go_enter Tryz.func38, Tryz.ntmps38
  go_wp2
  all_goals (go_ret; exact ⟨by rw [hv.out]; simp_all, hb.alloc hb.size _⟩)
end Go.Proofs.YtjmjmnagnbgmfaaGreatDoor
