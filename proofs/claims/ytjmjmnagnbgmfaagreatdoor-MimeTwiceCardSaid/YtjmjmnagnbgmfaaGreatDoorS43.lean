import Derived.Test.YtjmjmnagnbgmfaaGreatDoorS34
import Derived.Deep.Slices
import Derived.Deep.Fields
import Derived.ChangeSame
import Derived.Lib.SmallJoins
import Derived.SizedLaws
import Derived.Laws.LoneSync
/-! A Mime that comes in, opened. -/
namespace Go.Proofs.YtjmjmnagnbgmfaaGreatDoor
open Go.ChangeShapes Go.WideShapes Go.Deep Go.Joins Go.RowKit

section
variable {H : Type} {enc : TypeId × Value → H} {P : Program} {w : World} {base : Nat} {spare : Nat → Bool} {held : Bool}
theorem open_slice_fields {t e : TypeId} {fs : Array Field} {fuel : Nat} {cs : List Value} {x : DataW H × List MemPlace} (ht : P.underlying t = some (.slice e)) (he : P.underlying e = some (.struct fs))
    (hone : oneCellFields P fs = true) (hC : P.cellsOf e = fs.size) (h : DataW.trod enc P w base spare held fuel t cs = some x) :
    (cs = [.slice none 0 0] ∧ x = (.nil, [])) ∨
    ∃ (a : Addr) (len cap m : Nat) (D : Nat → DataW H) (Pl : Nat → List MemPlace), cs = [.slice (some a) len cap] ∧ base ≤ a.block ∧ len ≤ cap ∧ cap ≤ maxLen ∧ m = (if spare a.block then cap else len) ∧
      x = (.slice ((List.range len).map D) ((List.range (m - len)).map fun j => D (len + j)), MemPlace.row a (m * fs.size) ++ (List.range m).flatMap Pl) ∧
      ∀ i, i < m → ∃ (ys : List (DataW H × List MemPlace)) (n : Nat), D i = .agg (ys.map (·.1)) ∧ Pl i = ys.flatMap (·.2) ∧ ys.length = fs.size ∧
        ∀ (j : Nat) (f : Field), fs[j]? = some f → ∃ (v : Value) (y : DataW H × List MemPlace), w.cell? (a.add (i * fs.size + j)) = some v ∧ ys[j]? = some y ∧ DataW.trod enc P w base spare held n f.type [v] = some y := by
  rcases open_slice ht h with h0 | ⟨a, len, cap, m, n, D, Pl, hcs, hb, hl, hm, hmm, hx, hi⟩
  · exact .inl h0
  · refine .inr ⟨a, len, cap, m, D, Pl, hcs, hb, hl, hm, hmm, by rw [hC] at hx; exact hx, fun i him => ?_⟩
    obtain ⟨cs', hc, ht'⟩ := hi i him
    rw [hC] at hc
    obtain ⟨ys, n', hn', hy, hlen, hyl, hf⟩ := DataW.trod_struct he ht'
    obtain ⟨_, hcl, hat⟩ := World.cells?_some hc
    simp only [Prod.mk.injEq] at hy
    refine ⟨ys, n', hy.1, hy.2, hyl, fun j f hj => ?_⟩
    obtain ⟨ho, hk⟩ := hone_of hone j f hj
    have hjl : j < fs.size := (Array.getElem?_eq_some_iff.1 hj).1
    have hcell := hat j hjl
    have hv : cs'[j]? = some (cs'[j]'(by omega)) := List.getElem?_eq_getElem (by omega)
    have h1 := hf j f hj
    rw [ho, hk] at h1
    have hone' : (cs'.drop j).take 1 = [cs'[j]'(by omega)] := by
      rw [List.drop_eq_getElem_cons (by omega)]
      rfl
    rw [hone'] at h1
    have hys : ys[j]? = some (ys[j]'(by omega)) := List.getElem?_eq_getElem (by omega)
    refine ⟨_, _, ?_, hys, h1.trans hys⟩
    rw [← Go.Deep.add_add, hcell, hv]
end

theorem weights_all {H : Type} {P : Program} {e : TypeId} : ∀ {l : List (DataW H)} {d : DataW H}, d ∈ l → ∀ n ∈ d.weights P e, n ∈ DataW.weightsAll P e l
  | x :: l, d, hd, n, hn => by
    simp only [DataW.weightsAll, List.mem_append]
    rcases List.mem_cons.1 hd with rfl | h
    · exact Or.inl hn
    · exact Or.inr (weights_all h n hn)
  | [], _, hd, _, _ => by cases hd

theorem addr_add (ab ao k : Nat) : (⟨ab, ao, none⟩ : Addr).add k = ⟨ab, ao + k, none⟩ := by unfold Addr.add; split <;> simp_all
def pmOf {H : Type} : DataW H → Pm
  | .agg [.lit (.string x), .lit (.string y)] => (x, y)
  | _ => ([], [])
theorem reach_eq : reachBytes = 140737488351232 := by decide

set_option maxRecDepth 100000 in
theorem open_mime {H : Type} {enc : TypeId × Value → H} {W : World} {r : Reach} {b0 : Nat} {v : Value} {d : DataW H} {p : List MemPlace} (hv : Value.okWide Tryz.prog W r b0 25 v) (h : DataW.Trod enc Tryz.prog W 0 (fun _ => true) true 25 v d p)
    (hwt : ∀ n ∈ d.weights Tryz.prog 25, n ≤ reachBytes) :
    ∃ (a b : List UInt8) (A : Option Addr) (c : Nat) (ps : List Pm), v = .agg #[.string (sOf a), .string (sOf b), .slice A ps.length c] ∧ PRd W A ps ∧ ps.length ≤ c ∧ a.length ≤ 140737488351232 ∧ b.length ≤ 140737488351232 ∧ Mod2 ps := by
  obtain ⟨v0, v1, v2, y0, y1, y2, n, rfl, rfl, rfl, h0, h1, h2⟩ := open_agg3 Tryz.underlying25 (by kernel_rfl) (by kernel_rfl) hv h
  obtain ⟨s0, e0, x0, _⟩ := DataW.trod_string Tryz.underlying9 h0
  obtain ⟨s1, e1, x1, _⟩ := DataW.trod_string Tryz.underlying9 h1
  have hw25 : ∀ (j : Nat) (t : TypeId) (dd : DataW H), ([9, 9, 23] : List TypeId)[j]? = some t → ([y0.1, y1.1, y2.1] : List (DataW H))[j]? = some dd → ∀ n ∈ dd.weights Tryz.prog t, n ≤ reachBytes := by
    intro j t dd ht hd n hn
    refine hwt n ?_
    simp only [DataW.weights, Tryz.underlying25]
    exact DataW.weights_mem_each (ts := [9, 9, 23]) ht hd n hn
  have l0 := hw25 0 9 _ rfl rfl s0.data.toList.length (by rw [x0]; simp [DataW.weights])
  have l1 := hw25 1 9 _ rfl rfl s1.data.toList.length (by rw [x1]; simp [DataW.weights])
  rw [reach_eq] at l0 l1
  obtain rfl : v0 = .string s0 := by simpa using e0
  obtain rfl : v1 = .string s1 := by simpa using e1
  rcases open_slice_fields Tryz.underlying23 Tryz.underlying36 (by kernel_rfl) (by kernel_rfl) h2 with ⟨e2, _⟩ | ⟨a, len, cap, m, D, Pl, e2, _, hlc, hcm, hm, hx, hf⟩
  · obtain rfl : v2 = .slice none 0 0 := by simpa using e2
    exact ⟨s0.data.toList, s1.data.toList, none, 0, [], by rw [sOf_data, sOf_data, List.length_nil], ⟨by simp, fun h => by cases h⟩, Nat.le_refl _, l0, l1, fun p hp => by cases hp⟩
  · obtain rfl : v2 = .slice (some a) len cap := by simpa using e2
    have hmc : m = cap := by rw [hm]; simp
    subst hmc
    have hel : ∀ i, i < len → ∃ t0 t1 : ByteArray, D i = .agg [.lit (.string t0.data.toList), .lit (.string t1.data.toList)] ∧ W.cell? (a.add (i * 2 + 0)) = some (.string t0) ∧ W.cell? (a.add (i * 2 + 1)) = some (.string t1) := by
      intro i hi
      obtain ⟨ys, n', hD, _, hyl, hfi⟩ := hf i (by omega)
      obtain ⟨w0, z0, c0, k0, g0⟩ := hfi 0 _ rfl
      obtain ⟨w1, z1, c1, k1, g1⟩ := hfi 1 _ rfl
      obtain ⟨t0, q0, r0, _⟩ := DataW.trod_string Tryz.underlying9 g0
      obtain ⟨t1, q1, r1, _⟩ := DataW.trod_string Tryz.underlying9 g1
      obtain rfl : w0 = .string t0 := by simpa using q0
      obtain rfl : w1 = .string t1 := by simpa using q1
      refine ⟨t0, t1, ?_, c0, c1⟩
      rw [hD]
      match ys, hyl, k0, k1 with
      | [u0, u1], _, k0, k1 =>
        simp only [List.getElem?_cons_zero, List.getElem?_cons_succ, Option.some.injEq] at k0 k1
        subst k0 k1
        rw [r0, r1]
        rfl
    have hpm : ∀ i (hi : i < len), ∃ t0 t1 : ByteArray, pmOf (D i) = (t0.data.toList, t1.data.toList) ∧ W.cell? (a.add (i * 2 + 0)) = some (.string t0) ∧ W.cell? (a.add (i * 2 + 1)) = some (.string t1) ∧ D i = .agg [.lit (.string t0.data.toList), .lit (.string t1.data.toList)] := by
      intro i hi
      obtain ⟨t0, t1, hD, c0, c1⟩ := hel i hi
      exact ⟨t0, t1, by rw [hD]; rfl, c0, c1, hD⟩
    have hlenp : ((List.range len).map fun i => pmOf (D i)).length = len := by simp
    refine ⟨s0.data.toList, s1.data.toList, some a, m, (List.range len).map fun i => pmOf (D i), by rw [sOf_data, sOf_data, hlenp], ⟨?_, ?_⟩, by rw [hlenp]; exact hlc, l0, l1, ?_⟩
    · rw [hlenp]
      have : maxLen = 9223372036854775807 := by decide
      omega
    · intro hpos
      rw [hlenp] at hpos
      obtain ⟨t0, t1, _, c0, _, _⟩ := hpm 0 hpos
      have ha0 : a.add (0 * 2 + 0) = a := by simp [Addr.add]
      rw [ha0] at c0
      obtain ⟨_, _, _, _, hsp⟩ := World.shape?_of_cell? c0
      obtain ⟨ab, ao, asp⟩ := a
      simp only at hsp
      subst hsp
      refine ⟨ab, ao, rfl, World.block_lt_of_cell? W _ c0, ?_⟩
      intro j p hj i u hu
      have hjl : j < len := by
        have := (List.getElem?_eq_some_iff.1 hj).1
        simpa using this
      obtain ⟨t0, t1, hp, d0, d1, _⟩ := hpm j hjl
      have hpj : p = (t0.data.toList, t1.data.toList) := by
        rw [List.getElem?_map, List.getElem?_range hjl, Option.map_some] at hj
        rw [← hp]
        exact (Option.some.inj hj).symm
      subst hpj
      have hadd : ∀ k, (⟨ab, ao, none⟩ : Addr).add k = ⟨ab, ao + k, none⟩ := fun k => addr_add ab ao k
      rw [hadd] at d0 d1
      match i, hu with
      | 0, hu =>
        simp [encP] at hu
        subst hu
        rw [sOf_data]
        simpa [Nat.add_assoc] using d0
      | 1, hu =>
        simp [encP] at hu
        subst hu
        rw [sOf_data]
        rw [Nat.add_assoc]
        exact d1
      | k + 2, hu => simp [encP] at hu
    · intro p hp
      obtain ⟨i, hi, rfl⟩ := List.mem_map.1 hp
      have hil : i < len := List.mem_range.1 hi
      obtain ⟨t0, t1, hpm', _, _, hD⟩ := hpm i hil
      have hw : ∀ n ∈ (D i).weights Tryz.prog 36, n ≤ reachBytes := by
        intro n hn
        refine hw25 2 23 _ rfl rfl n ?_
        rw [hx]
        simp only [DataW.weights, Tryz.underlying23, List.mem_cons, List.mem_append]
        exact Or.inr (Or.inl (weights_all (List.mem_map.2 ⟨i, hi, rfl⟩) n hn))
      have hw2 : ∀ (j : Nat) (t : TypeId) (dd : DataW H), ([9, 9] : List TypeId)[j]? = some t → ([.lit (.string t0.data.toList), .lit (.string t1.data.toList)] : List (DataW H))[j]? = some dd → ∀ n ∈ dd.weights Tryz.prog t, n ≤ reachBytes := by
        intro j t dd ht hd n hn
        refine hw n ?_
        rw [hD]
        simp only [DataW.weights, Tryz.underlying36]
        exact DataW.weights_mem_each (ts := [9, 9]) ht hd n hn
      have m0 := hw2 0 9 _ rfl rfl t0.data.toList.length (by rw [DataW.weights]; exact List.mem_singleton.2 rfl)
      have m1 := hw2 1 9 _ rfl rfl t1.data.toList.length (by rw [DataW.weights]; exact List.mem_singleton.2 rfl)
      rw [reach_eq] at m0 m1
      rw [hpm']
      exact ⟨m0, m1⟩
end Go.Proofs.YtjmjmnagnbgmfaaGreatDoor
