import Derived.Test.YtjmjmnagnbgmfaaGreatDoorS32
import Derived.Test.YtjmjmnagnbgmfaaGreatDoorS5
import Derived.Test.YtjmjmnagnbgmfaaGreatDoorS6
/-! The reference's starts. -/
namespace Go.Proofs.YtjmjmnagnbgmfaaGreatDoor
open Go.RowKit Go.Shelf Go.Lib

def manyB (c : Nat) : Nat := if c < 128 then 1 else if 194 ≤ c ∧ c ≤ 223 then 2 else if 224 ≤ c ∧ c ≤ 239 then 3 else if 240 ≤ c ∧ c ≤ 244 then 4 else 0
def contB (b : UInt8) : Bool := decide (128 ≤ b.toNat) && decide (b.toNat ≤ 191)
def badB (c : Nat) : List UInt8 → Bool
  | [] => false
  | d :: _ => (decide (c = 224) && decide (d.toNat < 160)) || (decide (c = 237) && decide (159 < d.toNat)) || (decide (c = 240) && decide (d.toNat < 144)) || (decide (c = 244) && decide (143 < d.toNat))
/-- Could a character's bytes begin with these, and are they one's? -/
def stB : List UInt8 → Bool × Bool
  | [] => (false, false)
  | c :: t => if manyB c.toNat < t.length + 1 then (false, false) else if t.all contB = false then (false, false) else if badB c.toNat t then (false, false) else (true, decide (t.length + 1 = manyB c.toNat))

theorem nat8_get (l : List UInt8) (j : Nat) (h : j < l.length) : nat8 l j = ((l[j]'h).toNat : Int) := by
  simp [nat8, List.getD_eq_getElem?_getD, h]

set_option maxHeartbeats 8000000 in
set_option maxRecDepth 1000000 in
theorem starts_long (K o cap : Nat) (c : UInt8) (t : List UInt8) (w : World) (hl : t.length ≤ 1000000) (h : At8 w K o (c :: t)) (hgt0 : manyB c.toNat < t.length + 1) :
    Calls Tryz.prog 78 #[.slice (some ⟨K, o, none⟩) (t.length + 1) cap] w fun e w' => e = .returned (.tuple #[.bool (stB (c :: t)).1, .bool (stB (c :: t)).2]) ∧ w = w' := by
  have HC := Lib.hid h
  have h0 := h 0 (by simp)
  rw [Nat.add_zero, nat8_get (c :: t) 0 (by simp)] at h0
  have h0' : w.cell? ⟨K, o, none⟩ = some (.int .u8 (c.toNat : Int)) := h0
  clear h h0
  obtain ⟨R, hR⟩ : ∃ R, R = stB (c :: t) := ⟨_, rfl⟩
  rw [← hR]
  have HR : Hid (R = if manyB c.toNat < t.length + 1 then (false, false) else if t.all contB = false then (false, false) else if badB c.toNat t then (false, false) else (true, decide (t.length + 1 = manyB c.toNat))) := hR
  clear hR
  have hc256 := c.toNat_lt
  obtain ⟨n, hn⟩ : ∃ n : Nat, c.toNat = n := ⟨_, rfl⟩
  rw [hn] at h0' HR hc256 hgt0
  obtain ⟨L, hL⟩ : ∃ L, t.length + 1 = L := ⟨_, rfl⟩
  rw [hL] at HR hgt0 ⊢
  have hcl : (n < 128 ∧ manyB n = 1) ∨ (128 ≤ n ∧ n < 194 ∧ manyB n = 0) ∨ (194 ≤ n ∧ n ≤ 223 ∧ manyB n = 2) ∨ (224 ≤ n ∧ n ≤ 239 ∧ manyB n = 3) ∨ (240 ≤ n ∧ n ≤ 244 ∧ manyB n = 4) ∨ (245 ≤ n ∧ manyB n = 0) := by
    unfold manyB
    by_cases a1 : n < 128
    · exact .inl ⟨a1, if_pos a1⟩
    by_cases a2 : n < 194
    · exact .inr (.inl ⟨by omega, a2, by rw [if_neg a1, if_neg (by omega), if_neg (by omega), if_neg (by omega)]⟩)
    by_cases a3 : n ≤ 223
    · exact .inr (.inr (.inl ⟨by omega, a3, by rw [if_neg a1, if_pos ⟨by omega, a3⟩]⟩))
    by_cases a4 : n ≤ 239
    · exact .inr (.inr (.inr (.inl ⟨by omega, a4, by rw [if_neg a1, if_neg (by omega), if_pos ⟨by omega, a4⟩]⟩)))
    by_cases a5 : n ≤ 244
    · exact .inr (.inr (.inr (.inr (.inl ⟨by omega, a5, by rw [if_neg a1, if_neg (by omega), if_neg (by omega), if_pos ⟨by omega, a5⟩]⟩))))
    · exact .inr (.inr (.inr (.inr (.inr ⟨by omega, by rw [if_neg a1, if_neg (by omega), if_neg (by omega), if_neg (by omega)]⟩))))
  have HT : Hid (t.length + 1 = L) := hL
  have hLb : L ≤ 1000001 := by omega
  have hL1 : 1 ≤ L := by omega
  clear hL
  have hgt := hgt0
  rcases hcl with ⟨x1, hM⟩ | ⟨x1, x2, hM⟩ | ⟨x1, x2, hM⟩ | ⟨x1, x2, hM⟩ | ⟨x1, x2, hM⟩ | ⟨x1, hM⟩
  all_goals
    have HF : Hid (R = (false, false)) := by
      show _ = _
      rw [HR.out, if_pos hgt0]
    clear hgt0
    obtain ⟨z, hz⟩ : ∃ z : Int, (n : Int) = z := ⟨_, rfl⟩
    rw [hz] at h0'
    have HM := Lib.hid hM
    rw [hM] at hgt
    clear hM
    first | (have q1 : z < 128 := by omega) | (have q1 : ¬ z < 128 := by omega) | skip
    first | (have q2 : 194 ≤ z := by omega) | (have q2 : ¬ 194 ≤ z := by omega) | skip
    first | (have q3 : z ≤ 223 := by omega) | (have q3 : ¬ z ≤ 223 := by omega) | skip
    first | (have q4 : 224 ≤ z := by omega) | (have q4 : ¬ 224 ≤ z := by omega) | skip
    first | (have q5 : z ≤ 239 := by omega) | (have q5 : ¬ z ≤ 239 := by omega) | skip
    first | (have q6 : 240 ≤ z := by omega) | (have q6 : ¬ 240 ≤ z := by omega) | skip
    first | (have q7 : z ≤ 244 := by omega) | (have q7 : ¬ z ≤ 244 := by omega) | skip
    have HX := Lib.hid (show (n : Int) = z from hz)
    clear hz hn
    try clear x1
    try clear x2
    first | (have g0 : (0 : Int) < (L : Int) := by omega) | (have g0 : ¬ (0 : Int) < (L : Int) := by omega) | skip
    first | (have g1 : (1 : Int) < (L : Int) := by omega) | (have g1 : ¬ (1 : Int) < (L : Int) := by omega) | skip
    first | (have g2 : (2 : Int) < (L : Int) := by omega) | (have g2 : ¬ (2 : Int) < (L : Int) := by omega) | skip
    first | (have g3 : (3 : Int) < (L : Int) := by omega) | (have g3 : ¬ (3 : Int) < (L : Int) := by omega) | skip
    first | (have g4 : (4 : Int) < (L : Int) := by omega) | (have g4 : ¬ (4 : Int) < (L : Int) := by omega) | skip
    clear hgt
    go_enter Tryz.func78, Tryz.ntmps78
    go_wp2
    go_ret2
    exact ⟨by rw [HF.out]; rfl, rfl⟩

set_option maxHeartbeats 8000000 in
set_option maxRecDepth 1000000 in
theorem starts_short (K o cap : Nat) (c : UInt8) (t : List UInt8) (w : World) (hl : t.length ≤ 1000000) (h : At8 w K o (c :: t)) (hgt0 : ¬ manyB c.toNat < t.length + 1) :
    Calls Tryz.prog 78 #[.slice (some ⟨K, o, none⟩) (t.length + 1) cap] w fun e w' => e = .returned (.tuple #[.bool (stB (c :: t)).1, .bool (stB (c :: t)).2]) ∧ w = w' := by
  have HC := Lib.hid h
  have h0 := h 0 (by simp)
  rw [Nat.add_zero, nat8_get (c :: t) 0 (by simp)] at h0
  have h0' : w.cell? ⟨K, o, none⟩ = some (.int .u8 (c.toNat : Int)) := h0
  clear h h0
  obtain ⟨R, hR⟩ : ∃ R, R = stB (c :: t) := ⟨_, rfl⟩
  rw [← hR]
  have HR : Hid (R = if manyB c.toNat < t.length + 1 then (false, false) else if t.all contB = false then (false, false) else if badB c.toNat t then (false, false) else (true, decide (t.length + 1 = manyB c.toNat))) := hR
  clear hR
  have hc256 := c.toNat_lt
  obtain ⟨n, hn⟩ : ∃ n : Nat, c.toNat = n := ⟨_, rfl⟩
  rw [hn] at h0' HR hc256 hgt0
  obtain ⟨L, hL⟩ : ∃ L, t.length + 1 = L := ⟨_, rfl⟩
  rw [hL] at HR hgt0 ⊢
  have hcl : (n < 128 ∧ manyB n = 1) ∨ (128 ≤ n ∧ n < 194 ∧ manyB n = 0) ∨ (194 ≤ n ∧ n ≤ 223 ∧ manyB n = 2) ∨ (224 ≤ n ∧ n ≤ 239 ∧ manyB n = 3) ∨ (240 ≤ n ∧ n ≤ 244 ∧ manyB n = 4) ∨ (245 ≤ n ∧ manyB n = 0) := by
    unfold manyB
    by_cases a1 : n < 128
    · exact .inl ⟨a1, if_pos a1⟩
    by_cases a2 : n < 194
    · exact .inr (.inl ⟨by omega, a2, by rw [if_neg a1, if_neg (by omega), if_neg (by omega), if_neg (by omega)]⟩)
    by_cases a3 : n ≤ 223
    · exact .inr (.inr (.inl ⟨by omega, a3, by rw [if_neg a1, if_pos ⟨by omega, a3⟩]⟩))
    by_cases a4 : n ≤ 239
    · exact .inr (.inr (.inr (.inl ⟨by omega, a4, by rw [if_neg a1, if_neg (by omega), if_pos ⟨by omega, a4⟩]⟩)))
    by_cases a5 : n ≤ 244
    · exact .inr (.inr (.inr (.inr (.inl ⟨by omega, a5, by rw [if_neg a1, if_neg (by omega), if_neg (by omega), if_pos ⟨by omega, a5⟩]⟩))))
    · exact .inr (.inr (.inr (.inr (.inr ⟨by omega, by rw [if_neg a1, if_neg (by omega), if_neg (by omega), if_neg (by omega)]⟩))))
  have HT : Hid (t.length + 1 = L) := hL
  have hLb : L ≤ 1000001 := by omega
  have hL1 : 1 ≤ L := by omega
  clear hL
  have hgt := hgt0
  rcases hcl with ⟨x1, hM⟩ | ⟨x1, x2, hM⟩ | ⟨x1, x2, hM⟩ | ⟨x1, x2, hM⟩ | ⟨x1, x2, hM⟩ | ⟨x1, hM⟩
  all_goals
    first
      | (exfalso; rw [hM] at hgt; omega)
      | skip
  all_goals
    have HR2 : Hid (R = if t.all contB = false then (false, false) else if badB n t then (false, false) else (true, decide (L = manyB n))) := by
      show _ = _
      rw [HR.out, if_neg hgt0]
    clear hgt0 HR
    obtain ⟨z, hz⟩ : ∃ z : Int, (n : Int) = z := ⟨_, rfl⟩
    rw [hz] at h0'
    have HM := Lib.hid hM
    rw [hM] at hgt
    clear hM
    first | (have q1 : z < 128 := by omega) | (have q1 : ¬ z < 128 := by omega) | skip
    first | (have q2 : 194 ≤ z := by omega) | (have q2 : ¬ 194 ≤ z := by omega) | skip
    first | (have q3 : z ≤ 223 := by omega) | (have q3 : ¬ z ≤ 223 := by omega) | skip
    first | (have q4 : 224 ≤ z := by omega) | (have q4 : ¬ 224 ≤ z := by omega) | skip
    first | (have q5 : z ≤ 239 := by omega) | (have q5 : ¬ z ≤ 239 := by omega) | skip
    first | (have q6 : 240 ≤ z := by omega) | (have q6 : ¬ 240 ≤ z := by omega) | skip
    first | (have q7 : z ≤ 244 := by omega) | (have q7 : ¬ z ≤ 244 := by omega) | skip
    have HX := Lib.hid (show (n : Int) = z from hz)
    clear hz hn
    try clear x1
    try clear x2
    first | (have g0 : (0 : Int) < (L : Int) := by omega) | (have g0 : ¬ (0 : Int) < (L : Int) := by omega) | skip
    first | (have g1 : (1 : Int) < (L : Int) := by omega) | (have g1 : ¬ (1 : Int) < (L : Int) := by omega) | skip
    first | (have g2 : (2 : Int) < (L : Int) := by omega) | (have g2 : ¬ (2 : Int) < (L : Int) := by omega) | skip
    first | (have g3 : (3 : Int) < (L : Int) := by omega) | (have g3 : ¬ (3 : Int) < (L : Int) := by omega) | skip
    first | (have g4 : (4 : Int) < (L : Int) := by omega) | (have g4 : ¬ (4 : Int) < (L : Int) := by omega) | skip
    clear hgt
    go_enter Tryz.func78, Tryz.ntmps78
    go_wp2
    go_loopg [5] (L - 1) (fun g i wr => ∃ k : Nat, L - k = g ∧ 1 ≤ k ∧ k ≤ L ∧ i = .int .i64 k ∧ w = wr ∧ Hid ((t.take (k - 1)).all contB = true))
    case atStart => exact ⟨1, rfl, Nat.le_refl _, hL1, rfl, rfl, rfl⟩
    case round =>
      obtain ⟨k, rfl, hk1, hk, rfl, rfl, HG⟩ := hrel
      by_cases hlt : k < L
      · have hki : (k : Int) < (L : Int) := by omega
        have hkt : k - 1 < t.length := by have := HT.out; omega
        obtain ⟨d, hd⟩ : ∃ d, t[k - 1]'hkt = d := ⟨_, rfl⟩
        have hdc : w.cell? ⟨K, o + k, none⟩ = some (.int .u8 (d.toNat : Int)) := by
          have h := HC.out k (by simp; have := HT.out; omega)
          have e : (c :: t)[k]? = some d := by rw [show k = (k - 1) + 1 by omega, List.getElem?_cons_succ, List.getElem?_eq_getElem hkt, hd]
          have e2 : nat8 (c :: t) k = (d.toNat : Int) := by
            unfold nat8
            rw [List.getD_eq_getElem?_getD, e]
            rfl
          rw [e2] at h
          exact h
        have hmem : d ∈ t := by rw [← hd]; exact List.getElem_mem hkt
        have HS : Hid ((t.take (k + 1 - 1)).all contB = contB d) := by
          show _ = _
          have e : k + 1 - 1 = (k - 1) + 1 := by omega
          rw [e, List.take_succ_eq_append_getElem hkt, hd, List.all_append, HG.out]
          simp
        have hd256 := d.toNat_lt
        obtain ⟨y, hy⟩ : ∃ y : Int, (d.toNat : Int) = y := ⟨_, rfl⟩
        rw [hy] at hdc
        have HCD : Hid (contB d = (decide (128 ≤ d.toNat) && decide (d.toNat ≤ 191))) := rfl
        have HBD : Hid (contB d = false → R = (false, false)) := by
          intro hb
          rw [HR2.out, if_pos]
          rw [← Bool.not_eq_true, List.all_eq_true]
          intro hall
          rw [hall d hmem] at hb
          cases hb
        clear hd hmem hkt
        by_cases u1 : y < 128
        · have HF := Lib.hid (HBD.out (by rw [HCD.out, decide_eq_false (by omega)]; rfl))
          clear hy
          go_wp2
          go_ret2
          exact ⟨by rw [HF.out]; rfl, rfl⟩
        · by_cases u2 : 191 < y
          · have HF := Lib.hid (HBD.out (by rw [HCD.out, decide_eq_true (show 128 ≤ d.toNat by omega), decide_eq_false (by omega)]; rfl))
            clear hy
            go_wp2
            go_ret2
            exact ⟨by rw [HF.out]; rfl, rfl⟩
          · have HF : Hid ((t.take (k + 1 - 1)).all contB = true) := by
              show _ = _
              rw [HS.out, HCD.out, decide_eq_true (show 128 ≤ d.toNat by omega), decide_eq_true (show d.toNat ≤ 191 by omega)]
              rfl
            clear hy
            go_wp2
            go_roundg (L - (k + 1))
            case measure => omega
            case rel => exact ⟨k + 1, rfl, by omega, by omega, by go_num, rfl, HF⟩
      · obtain rfl : k = L := by omega
        have hki : ¬ ((k : Int) < (k : Int)) := by omega
        have HR3 : Hid (R = if badB n t then (false, false) else (true, decide (k = manyB n))) := by
          show _ = _
          have h := HG.out
          rw [List.take_of_length_le (by have := HT.out; omega)] at h
          rw [HR2.out, h]
          simp
        clear HG HR2
        cases t with
        | nil =>
          have hk1' : k = 1 := by have := HT.out; simpa using this.symm
          subst hk1'
          have HF : Hid (R = (true, decide (1 = manyB n))) := HR3.out
          rw [HM.out] at HF
          go_wp2
          go_ret2
          exact ⟨by rw [HF.out]; rfl, rfl⟩
        | cons d t' =>
          have hdc : w.cell? ⟨K, o + 1, none⟩ = some (.int .u8 (d.toNat : Int)) := by
            have h := HC.out 1 (by simp)
            exact h
          have hk2 : (1 : Int) < (k : Int) := by have := HT.out; simp at this; omega
          have hd256 := d.toNat_lt
          have HBB : Hid (badB n (d :: t') = ((decide (n = 224) && decide (d.toNat < 160)) || (decide (n = 237) && decide (159 < d.toNat)) || (decide (n = 240) && decide (d.toNat < 144)) || (decide (n = 244) && decide (143 < d.toNat)))) := rfl
          obtain ⟨y, hy⟩ : ∃ y : Int, (d.toNat : Int) = y := ⟨_, rfl⟩
          rw [hy] at hdc
          have hnz := HX.out
          have hsp : (n = 224 ∧ y < 160) ∨ (n = 224 ∧ ¬ y < 160) ∨ (n = 237 ∧ 159 < y) ∨ (n = 237 ∧ ¬ 159 < y) ∨ (n = 240 ∧ y < 144) ∨ (n = 240 ∧ ¬ y < 144) ∨ (n = 244 ∧ 143 < y) ∨ (n = 244 ∧ ¬ 143 < y) ∨ (n ≠ 224 ∧ n ≠ 237 ∧ n ≠ 240 ∧ n ≠ 244) := by omega
          have w1 : (d.toNat < 160) = (y < 160) := by apply propext; omega
          have w2 : (159 < d.toNat) = (159 < y) := by apply propext; omega
          have w3 : (d.toNat < 144) = (y < 144) := by apply propext; omega
          have w4 : (143 < d.toNat) = (143 < y) := by apply propext; omega
          have HBV : badB n (d :: t') = ((decide (n = 224) && decide (y < 160)) || (decide (n = 237) && decide (159 < y)) || (decide (n = 240) && decide (y < 144)) || (decide (n = 244) && decide (143 < y))) := by
            rw [HBB.out]
            simp only [w1, w2, w3, w4]
          have HBV := Lib.hid HBV
          clear w1 w2 w3 w4 HBB hy
          rcases hsp with ⟨m1, b1⟩ | ⟨m1, b1⟩ | ⟨m1, b1⟩ | ⟨m1, b1⟩ | ⟨m1, b1⟩ | ⟨m1, b1⟩ | ⟨m1, b1⟩ | ⟨m1, b1⟩ | ⟨m1, m2, m3, m4⟩
          all_goals first | (exfalso; omega) | skip
          all_goals
            first
              | (have HF : Hid (R = (false, false)) := by
                  show _ = _
                  rw [HR3.out, HBV.out]
                  simp [m1, b1]
                 first | (have e1 : z = 224 := by omega) | (have e1 : z = 237 := by omega) | (have e1 : z = 240 := by omega) | (have e1 : z = 244 := by omega)
                 clear m1 hnz
                 try clear q1 q2 q3 q4 q5 q6 q7
                 go_wp2
                 go_ret2
                 exact ⟨by rw [HF.out]; rfl, rfl⟩)
              | (have HF : Hid (R = (true, decide (k = manyB n))) := by
                  show _ = _
                  rw [HR3.out, HBV.out]
                  first | (simp [m1, b1]; done) | (simp [m1, m2, m3, m4]; done)
                 first | (have e1 : z = 224 := by omega) | (have e1 : z = 237 := by omega) | (have e1 : z = 240 := by omega) | (have e1 : z = 244 := by omega) | (have f1 : ¬ z = 224 := (by omega); have f2 : ¬ z = 237 := (by omega); have f3 : ¬ z = 240 := (by omega); have f4 : ¬ z = 244 := (by omega))
                 have hMn := HM.out
                 by_cases hkM : k = manyB n
                 · have HF2 : Hid (R = (true, true)) := by
                     show _ = _
                     rw [HF.out, decide_eq_true hkM]
                   first | (have e2 : (k : Int) = 1 := by omega) | (have e2 : (k : Int) = 2 := by omega) | (have e2 : (k : Int) = 3 := by omega) | (have e2 : (k : Int) = 4 := by omega)
                   clear hkM hMn hnz HF
                   go_wp2
                   go_ret2
                   exact ⟨by rw [HF2.out]; rfl, rfl⟩
                 · have HF2 : Hid (R = (true, false)) := by
                     show _ = _
                     rw [HF.out, decide_eq_false hkM]
                   rw [hMn] at hkM
                   first | (have e2 : ((k : Int) == 1) = false := by simp; omega) | skip
                   first | (have e3 : ((k : Int) == 2) = false := by simp; omega) | skip
                   first | (have e4 : ((k : Int) == 3) = false := by simp; omega) | skip
                   first | (have e5 : ((k : Int) == 4) = false := by simp; omega) | skip
                   clear hkM hMn hnz HF
                   go_wp2
                   go_ret2
                   exact ⟨by rw [HF2.out]; rfl, rfl⟩)

theorem starts_calls (K o cap : Nat) (c : UInt8) (t : List UInt8) (w : World) (hl : t.length ≤ 1000000) (h : At8 w K o (c :: t)) :
    Calls Tryz.prog 78 #[.slice (some ⟨K, o, none⟩) (t.length + 1) cap] w fun e w' => e = .returned (.tuple #[.bool (stB (c :: t)).1, .bool (stB (c :: t)).2]) ∧ w = w' := by
  by_cases hg : manyB c.toNat < t.length + 1
  · exact starts_long K o cap c t w hl h hg
  · exact starts_short K o cap c t w hl h hg
end Go.Proofs.YtjmjmnagnbgmfaaGreatDoor
/-! The reference's number; what a scan of a text's first bytes tells (plain). -/
namespace Go.Proofs.YtjmjmnagnbgmfaaGreatDoor
open Go.RowKit Go.Shelf Go.Lib

def offB : Nat → Int
  | 1 => 192
  | 2 => 224
  | 3 => 240
  | _ => 0
def stepN (r : Int) (d : UInt8) : Int := r * 64 + (d.toNat : Int) - 128
/-- The number of a character's bytes. -/
def numR : List UInt8 → Int
  | [] => 0
  | c :: t => t.foldl stepN ((c.toNat : Int) - offB t.length)
def goodR (r : Int) : Bool := decide (r = 9) || (decide (32 ≤ r) && decide (r ≤ 255) && !decide (r = 127))
/-- A number's bytes (of the numbers that may stand in quotes). -/
def encOne (r : Int) : List UInt8 := if r < 128 then [UInt8.ofNat r.toNat] else [UInt8.ofNat (192 + r.toNat / 64), UInt8.ofNat (128 + r.toNat % 64)]
def encR : List Int → List UInt8
  | [] => []
  | r :: t => encOne r ++ encR t
theorem encR_app (a b : List Int) : encR (a ++ b) = encR a ++ encR b := by
  induction a with
  | nil => rfl
  | cons x a ih => simp only [List.cons_append, encR, ih, List.append_assoc]

theorem stB_true {c : UInt8} {t : List UInt8} {x : Bool} (h : stB (c :: t) = (true, x)) : t.length + 1 ≤ manyB c.toNat ∧ t.all contB = true ∧ badB c.toNat t = false ∧ x = decide (t.length + 1 = manyB c.toNat) := by
  rw [show stB (c :: t) = (if manyB c.toNat < t.length + 1 then (false, false) else if t.all contB = false then (false, false) else if badB c.toNat t then (false, false) else (true, decide (t.length + 1 = manyB c.toNat))) from rfl] at h
  by_cases h1 : manyB c.toNat < t.length + 1
  · rw [if_pos h1] at h; cases h
  · rw [if_neg h1] at h
    by_cases h2 : t.all contB = false
    · rw [if_pos h2] at h; cases h
    · rw [if_neg h2] at h
      by_cases h3 : badB c.toNat t = true
      · rw [if_pos h3] at h; cases h
      · rw [if_neg h3] at h
        exact ⟨by omega, by simpa using h2, by simpa using h3, (Prod.mk.inj h).2.symm⟩
theorem many_le (c : Nat) : manyB c ≤ 4 := by
  unfold manyB
  split
  · omega
  · split
    · omega
    · split
      · omega
      · split <;> omega

/-- The first character's bytes and its number: what they tell of 'may stand in quotes'. -/
theorem whole_law (b : List UInt8) (n : Nat) (h : stB (b.take n) = (true, true)) : (goodR (numR (b.take n)) && quotB (b.drop n)) = quotB b ∧ (goodR (numR (b.take n)) = true → encOne (numR (b.take n)) = b.take n) := by
  cases b with
  | nil => simp [stB] at h
  | cons c t =>
    cases n with
    | zero => simp [stB] at h
    | succ n =>
      rw [List.take_succ_cons] at h ⊢
      rw [List.drop_succ_cons]
      obtain ⟨h1, h2, h3, h4⟩ := stB_true h
      have hlen : (t.take n).length + 1 = manyB c.toNat := by simpa using h4.symm
      have hc := c.toNat_lt
      -- by how many bytes they are
      match hu : t.take n, hlen, h2, h3 with
      | [], hlen, _, _ =>
        have hn : n = 0 ∨ t = [] := by
          rcases List.take_eq_nil_iff.1 hu with h | h
          · exact .inl h
          · exact .inr h
        have hm : c.toNat < 128 := by
          unfold manyB at hlen
          by_cases a : c.toNat < 128
          · exact a
          · rw [if_neg a] at hlen
            simp at hlen
            split at hlen
            · omega
            · split at hlen
              · omega
              · split at hlen <;> omega
        have hd : t.drop n = t := by
          rcases hn with rfl | rfl
          · rfl
          · simp
        have hnum : numR [c] = (c.toNat : Int) := by simp [numR, offB]
        have hgo : goodR (numR [c]) = okA c := by
          rw [hnum]
          unfold goodR okA
          by_cases e9 : c.toNat = 9
          · simp [e9]
          · by_cases e1 : 32 ≤ c.toNat
            · by_cases e2 : c.toNat ≤ 126
              · rw [decide_eq_false (show ¬ (c.toNat : Int) = 9 by omega), decide_eq_true (show (32 : Int) ≤ (c.toNat : Int) by omega), decide_eq_true (show (c.toNat : Int) ≤ 255 by omega), decide_eq_false (show ¬ (c.toNat : Int) = 127 by omega)]
                simp [e1, e2]
              · have h127 : c.toNat = 127 := by omega
                simp [h127]
            · have : ¬ (32 : Int) ≤ (c.toNat : Int) := by omega
              have h9 : ¬ (c.toNat : Int) = 9 := by omega
              simp [e9, e1, this, h9]
        rw [hd, hgo, quotB_ascii hm]
        refine ⟨rfl, fun _ => ?_⟩
        rw [hnum]
        unfold encOne
        rw [if_pos (by omega)]
        simp
      | [d], hlen, h2, _ =>
        have hm : 194 ≤ c.toNat ∧ c.toNat ≤ 223 := by
          unfold manyB at hlen
          simp at hlen
          split at hlen
          · omega
          · split at hlen
            · assumption
            · split at hlen
              · omega
              · split at hlen <;> omega
        have hdc : 128 ≤ d.toNat ∧ d.toNat ≤ 191 := by simpa [contB] using h2
        have ht : t = d :: t.drop n := by
          have := List.take_append_drop n t
          rw [hu] at this
          exact this.symm
        have hnum : numR [c, d] = ((c.toNat : Int) - 192) * 64 + (d.toNat : Int) - 128 := by simp [numR, offB, stepN]
        have hq : quotB (c :: t) = ((c.toNat == 194 || c.toNat == 195) && quotB (t.drop n)) := by
          conv => lhs; rw [ht]
          rw [quotB_two (by omega)]
          simp [hdc.1, hdc.2]
        have hgo : goodR (numR [c, d]) = (c.toNat == 194 || c.toNat == 195) := by
          rw [hnum]
          unfold goodR
          by_cases e : c.toNat = 194 ∨ c.toNat = 195
          · have e1 : ¬ (((c.toNat : Int) - 192) * 64 + (d.toNat : Int) - 128 = 9) := by omega
            have e2 : (32 : Int) ≤ ((c.toNat : Int) - 192) * 64 + (d.toNat : Int) - 128 := by omega
            have e3 : ((c.toNat : Int) - 192) * 64 + (d.toNat : Int) - 128 ≤ 255 := by omega
            have e4 : ¬ (((c.toNat : Int) - 192) * 64 + (d.toNat : Int) - 128 = 127) := by omega
            rw [decide_eq_false e1, decide_eq_true e2, decide_eq_true e3, decide_eq_false e4]
            rcases e with e | e <;> simp [e]
          · have e1 : ¬ (((c.toNat : Int) - 192) * 64 + (d.toNat : Int) - 128 = 9) := by omega
            have e3 : ¬ ((c.toNat : Int) - 192) * 64 + (d.toNat : Int) - 128 ≤ 255 := by omega
            rw [decide_eq_false e1, decide_eq_false e3]
            have e5 : ¬ c.toNat = 194 := by omega
            have e6 : ¬ c.toNat = 195 := by omega
            simp [e5, e6]
        rw [hgo, hq]
        refine ⟨rfl, fun hg => ?_⟩
        have e : c.toNat = 194 ∨ c.toNat = 195 := by simpa using hg
        rw [hnum]
        unfold encOne
        have hr : (((c.toNat : Int) - 192) * 64 + (d.toNat : Int) - 128).toNat = (c.toNat - 192) * 64 + (d.toNat - 128) := by omega
        rw [if_neg (by omega), hr]
        have f1 : 192 + ((c.toNat - 192) * 64 + (d.toNat - 128)) / 64 = c.toNat := by omega
        have f2 : 128 + ((c.toNat - 192) * 64 + (d.toNat - 128)) % 64 = d.toNat := by omega
        rw [f1, f2]
        simp
      | [d, e], hlen, h2, h3 =>
        have hm : 224 ≤ c.toNat ∧ c.toNat ≤ 239 := by
          unfold manyB at hlen
          simp at hlen
          split at hlen
          · omega
          · split at hlen
            · omega
            · split at hlen
              · assumption
              · split at hlen <;> omega
        have hdc : (128 ≤ d.toNat ∧ d.toNat ≤ 191) ∧ (128 ≤ e.toNat ∧ e.toNat ≤ 191) := by simpa [contB] using h2
        have h3' : ¬ (c.toNat = 224 ∧ d.toNat < 160) := by
          intro ⟨g1, g2⟩
          simp [badB, g1, g2] at h3
        have hnum : numR [c, d, e] = (((c.toNat : Int) - 224) * 64 + (d.toNat : Int) - 128) * 64 + (e.toNat : Int) - 128 := by simp [numR, offB, stepN]
        have hgo : goodR (numR [c, d, e]) = false := by
          rw [hnum]
          unfold goodR
          rw [decide_eq_false (by omega), decide_eq_false (show ¬ (((c.toNat : Int) - 224) * 64 + (d.toNat : Int) - 128) * 64 + (e.toNat : Int) - 128 ≤ 255 by omega)]
          simp
        have hq : quotB (c :: t) = false := by
          cases t with
          | nil => simp at hu
          | cons x t' =>
            rw [quotB_two (by omega)]
            have e5 : ¬ c.toNat = 194 := by omega
            have e6 : ¬ c.toNat = 195 := by omega
            simp [e5, e6]
        rw [hgo, hq]
        exact ⟨rfl, fun h => by cases h⟩
      | [d, e, f], hlen, h2, h3 =>
        have hm : 240 ≤ c.toNat ∧ c.toNat ≤ 244 := by
          unfold manyB at hlen
          simp at hlen
          split at hlen
          · omega
          · split at hlen
            · omega
            · split at hlen
              · omega
              · split at hlen
                · assumption
                · omega
        have hdc : (128 ≤ d.toNat ∧ d.toNat ≤ 191) ∧ (128 ≤ e.toNat ∧ e.toNat ≤ 191) ∧ (128 ≤ f.toNat ∧ f.toNat ≤ 191) := by simpa [contB] using h2
        have h3' : ¬ (c.toNat = 240 ∧ d.toNat < 144) := by
          intro ⟨g1, g2⟩
          simp [badB, g1, g2] at h3
        have hnum : numR [c, d, e, f] = ((((c.toNat : Int) - 240) * 64 + (d.toNat : Int) - 128) * 64 + (e.toNat : Int) - 128) * 64 + (f.toNat : Int) - 128 := by simp [numR, offB, stepN]
        have hgo : goodR (numR [c, d, e, f]) = false := by
          rw [hnum]
          unfold goodR
          rw [decide_eq_false (by omega), decide_eq_false (show ¬ ((((c.toNat : Int) - 240) * 64 + (d.toNat : Int) - 128) * 64 + (e.toNat : Int) - 128) * 64 + (f.toNat : Int) - 128 ≤ 255 by omega)]
          simp
        have hq : quotB (c :: t) = false := by
          cases t with
          | nil => simp at hu
          | cons x t' =>
            rw [quotB_two (by omega)]
            have e5 : ¬ c.toNat = 194 := by omega
            have e6 : ¬ c.toNat = 195 := by omega
            simp [e5, e6]
        rw [hgo, hq]
        exact ⟨rfl, fun h => by cases h⟩
      | _ :: _ :: _ :: _ :: _, hlen, _, _ =>
        have := many_le c.toNat
        simp at hlen
        omega

/-- A scan that comes to no whole character. -/
theorem broken_law (b : List UInt8) (n : Nat) (hb : b ≠ []) (hn : n ≤ b.length) (h : ∀ m, 1 ≤ m → m ≤ n → stB (b.take m) = (true, false)) (hs : n = b.length ∨ (stB (b.take (n + 1))).1 = false) : quotB b = false := by
  cases b with
  | nil => exact absurd rfl hb
  | cons c t =>
    have hst1 : c.toNat < 128 → stB [c] = (true, true) := fun h => by simp [stB, manyB, badB, h]
    have hst1b : (c.toNat = 194 ∨ c.toNat = 195) → stB [c] = (true, false) := fun h => by
      have a1 : ¬ c.toNat < 128 := by omega
      have a2 : 194 ≤ c.toNat ∧ c.toNat ≤ 223 := by omega
      simp [stB, manyB, badB, a1, a2]
    by_cases h1 : c.toNat < 128
    · exfalso
      have hw := hst1 h1
      cases n with
      | zero =>
        rcases hs with hs | hs
        · simp at hs
        · simp [hw] at hs
      | succ n =>
        have := h 1 (by omega) (by omega)
        simp [hw] at this
    · cases ht : t with
      | nil =>
        subst ht
        show okA c = false
        cases hk : okA c with
        | false => rfl
        | true => exact absurd (okA_lt hk) h1
      | cons d t' =>
        subst ht
        rw [quotB_two (by omega)]
        by_cases h2 : (c.toNat = 194 ∨ c.toNat = 195) ∧ (128 ≤ d.toNat ∧ d.toNat ≤ 191)
        · exfalso
          have hw1 := hst1b h2.1
          have hw : stB [c, d] = (true, true) := by
            have a1 : ¬ c.toNat < 128 := by omega
            have a2 : 194 ≤ c.toNat ∧ c.toNat ≤ 223 := by omega
            have a3 : ¬ c.toNat = 224 := by omega
            have a4 : ¬ c.toNat = 237 := by omega
            have a5 : ¬ c.toNat = 240 := by omega
            have a6 : ¬ c.toNat = 244 := by omega
            simp [stB, manyB, badB, contB, a1, a2, a3, a4, a5, a6, h2.2.1, h2.2.2]
          match n, hs, h with
          | 0, hs, _ =>
            rcases hs with hs | hs
            · simp at hs
            · simp [hw1] at hs
          | 1, hs, _ =>
            rcases hs with hs | hs
            · simp at hs
            · simp [hw] at hs
          | n + 2, _, h =>
            have := h 2 (by omega) (by omega)
            simp [hw] at this
        · cases hx : (c.toNat == 194 || c.toNat == 195) && (decide (128 ≤ d.toNat) && decide (d.toNat ≤ 191)) with
          | false => rfl
          | true =>
            exfalso
            apply h2
            simpa using hx
end Go.Proofs.YtjmjmnagnbgmfaaGreatDoor
/-! The reference's number: the walk. -/
namespace Go.Proofs.YtjmjmnagnbgmfaaGreatDoor
open Go.RowKit Go.Shelf Go.Lib

theorem numK_bd (l : List UInt8) (hall : ∀ b ∈ l, 128 ≤ b.toNat ∧ b.toNat ≤ 191) (r0 : Int) (h0 : 0 ≤ r0) (h1 : r0 ≤ 127) (hk : l.length ≤ 2) : 0 ≤ l.foldl stepN r0 ∧ l.foldl stepN r0 ≤ 524287 := by
  match l, hk, hall with
  | [], _, _ => simp; omega
  | [a], _, hall =>
    have := hall a (by simp)
    simp [stepN]
    omega
  | [a, b], _, hall =>
    have h1 := hall a (by simp)
    have h2 := hall b (by simp)
    simp [stepN]
    omega
  | _ :: _ :: _ :: _, hk, _ => simp at hk

set_option maxHeartbeats 8000000 in
set_option maxRecDepth 1000000 in
theorem number_calls (K o cap : Nat) (c : UInt8) (t : List UInt8) (w : World) (hst : stB (c :: t) = (true, true)) (h : At8 w K o (c :: t)) :
    Calls Tryz.prog 79 #[.slice (some ⟨K, o, none⟩) (t.length + 1) cap] w fun e w' => e = .returned (.int .i32 (numR (c :: t))) ∧ w = w' := by
  obtain ⟨h1, h2, h3, h4⟩ := stB_true hst
  have hlen : t.length + 1 = manyB c.toNat := by simpa using h4.symm
  have hcont : ∀ b ∈ t, 128 ≤ b.toNat ∧ b.toNat ≤ 191 := fun b hb => by simpa [contB] using List.all_eq_true.1 h2 b hb
  have HC := Lib.hid h
  have h0 := h 0 (by simp)
  rw [Nat.add_zero, nat8_get (c :: t) 0 (by simp)] at h0
  have h0' : w.cell? ⟨K, o, none⟩ = some (.int .u8 (c.toNat : Int)) := h0
  clear h h0 hst h1 h2 h3 h4
  have hc256 := c.toNat_lt
  have hcl : (t.length + 1 = 1 ∧ c.toNat < 128) ∨ (t.length + 1 = 2 ∧ 194 ≤ c.toNat ∧ c.toNat ≤ 223) ∨ (t.length + 1 = 3 ∧ 224 ≤ c.toNat ∧ c.toNat ≤ 239) ∨ (t.length + 1 = 4 ∧ 240 ≤ c.toNat ∧ c.toNat ≤ 244) := by
    unfold manyB at hlen
    by_cases a1 : c.toNat < 128
    · rw [if_pos a1] at hlen; exact .inl ⟨hlen, a1⟩
    · rw [if_neg a1] at hlen
      by_cases a2 : 194 ≤ c.toNat ∧ c.toNat ≤ 223
      · rw [if_pos a2] at hlen; exact .inr (.inl ⟨hlen, a2⟩)
      · rw [if_neg a2] at hlen
        by_cases a3 : 224 ≤ c.toNat ∧ c.toNat ≤ 239
        · rw [if_pos a3] at hlen; exact .inr (.inr (.inl ⟨hlen, a3⟩))
        · rw [if_neg a3] at hlen
          by_cases a4 : 240 ≤ c.toNat ∧ c.toNat ≤ 244
          · rw [if_pos a4] at hlen; exact .inr (.inr (.inr ⟨hlen, a4⟩))
          · rw [if_neg a4] at hlen; omega
  clear hlen
  obtain ⟨z, hz⟩ : ∃ z : Int, (c.toNat : Int) = z := ⟨_, rfl⟩
  rw [hz] at h0'
  obtain ⟨r0, hr0⟩ : ∃ r0, r0 = z - offB t.length := ⟨_, rfl⟩
  obtain ⟨R, hR⟩ : ∃ R, R = numR (c :: t) := ⟨_, rfl⟩
  rw [← hR]
  have HR : Hid (R = t.foldl stepN r0) := by
    show _ = _
    rw [hR, hr0, ← hz]
    rfl
  clear hR
  have HB : Hid (∀ k, k ≤ 2 → ∀ r0 : Int, 0 ≤ r0 → r0 ≤ 127 → 0 ≤ (t.take k).foldl stepN r0 ∧ (t.take k).foldl stepN r0 ≤ 524287) := fun k hk r0 g0 g1 =>
    numK_bd _ (fun b hb => hcont b (List.mem_of_mem_take hb)) r0 g0 g1 (by rw [List.length_take]; omega)
  have HCO := Lib.hid hcont
  clear hcont
  rcases hcl with ⟨hL, x⟩ | ⟨hL, x⟩ | ⟨hL, x⟩ | ⟨hL, x⟩
  all_goals
    have hl' : t.length = t.length + 1 - 1 := by omega
    rw [hl', hL] at hr0
    simp only [Nat.sub_self, Nat.reduceSub, offB] at hr0
    have hz2 : 0 ≤ z ∧ z < 256 := by omega
    have hr1 : 0 ≤ r0 ∧ r0 ≤ 127 := by omega
    have HL := Lib.hid hL
    rw [hL]
    first
      | (have e0 : z - 192 = r0 := by omega)
      | (have e0 : z - 224 = r0 := by omega)
      | (have e0 : z - 240 = r0 := by omega)
      | (have e0 : z = r0 := by omega)
    clear hl' hz hr0 x
    go_enter Tryz.func79, Tryz.ntmps79
    go_wp2
    go_loopg [3, 4] t.length (fun g r i wr => ∃ k : Nat, t.length + 1 - k = g ∧ 1 ≤ k ∧ k ≤ t.length + 1 ∧ i = .int .i64 k ∧ r = .int .i32 ((t.take (k - 1)).foldl stepN r0) ∧ w = wr)
    case atStart => exact ⟨1, by omega, by omega, by omega, rfl, rfl, rfl⟩
    case round =>
      obtain ⟨k, rfl, hk1, hk, rfl, rfl, rfl⟩ := hrel
      have hL2 := HL.out
      by_cases hlt : k < t.length + 1
      · have hkt : k - 1 < t.length := by omega
        obtain ⟨d, hd⟩ : ∃ d, t[k - 1]'hkt = d := ⟨_, rfl⟩
        have hdc : w.cell? ⟨K, o + k, none⟩ = some (.int .u8 (d.toNat : Int)) := by
          have h := HC.out k (by simp; omega)
          have e : (c :: t)[k]? = some d := by rw [show k = (k - 1) + 1 by omega, List.getElem?_cons_succ, List.getElem?_eq_getElem hkt, hd]
          have e2 : nat8 (c :: t) k = (d.toNat : Int) := by
            unfold nat8
            rw [List.getD_eq_getElem?_getD, e]
            rfl
          rw [e2] at h
          exact h
        have hd2 := HCO.out d (by rw [← hd]; exact List.getElem_mem hkt)
        have HS : Hid ((t.take (k + 1 - 1)).foldl stepN r0 = (t.take (k - 1)).foldl stepN r0 * 64 + (d.toNat : Int) - 128) := by
          show _ = _
          rw [show k + 1 - 1 = (k - 1) + 1 by omega, List.take_succ_eq_append_getElem hkt, hd, List.foldl_append]
          rfl
        have hbd := HB.out (k - 1) (by omega) r0 hr1.1 hr1.2
        clear hd hkt
        generalize (t.take (k - 1)).foldl stepN r0 = x at *
        obtain ⟨y, hy⟩ : ∃ y : Int, (d.toNat : Int) = y := ⟨_, rfl⟩
        rw [hy] at hdc HS
        have hy2 : 128 ≤ y ∧ y ≤ 191 := by omega
        clear hy hd2
        first
          | (have hki : (k : Int) < 1 := by omega)
          | (have hki : (k : Int) < 2 := by omega)
          | (have hki : (k : Int) < 3 := by omega)
          | (have hki : (k : Int) < 4 := by omega)
        go_wp2
        go_roundg (t.length + 1 - (k + 1))
        case measure => omega
        case rel => exact ⟨k + 1, rfl, by omega, by omega, by go_num, by rw [HS.out], rfl⟩
      · have HF : Hid (R = (t.take (k - 1)).foldl stepN r0) := by
          show _ = _
          rw [HR.out, List.take_of_length_le (by omega)]
        first
          | (have hki : (k : Int) = 1 := by omega)
          | (have hki : (k : Int) = 2 := by omega)
          | (have hki : (k : Int) = 3 := by omega)
          | (have hki : (k : Int) = 4 := by omega)
        generalize (t.take (k - 1)).foldl stepN r0 = x at *
        go_wp2
        go_ret
        exact ⟨by rw [HF.out]; rfl, rfl⟩
end Go.Proofs.YtjmjmnagnbgmfaaGreatDoor
/-! The reference's Decode. -/
namespace Go.Proofs.YtjmjmnagnbgmfaaGreatDoor
open Go.RowKit Go.Shelf Go.Lib

theorem slice34_to (A : Option Addr) (n c k : Nat) (hk : k ≤ c) (W : World) : (Instr.slice 34 (.slice A n c) none (some (.int .i64 k)) none).run Tryz.prog W = .ok (.slice A k c) W := by
  have he : Tryz.prog.elem 34 = 5 := by kernel_rfl
  rw [run_slice_h W 34 A n c (by rw [he]; exact Tryz.underlying34) .i64 k (by omega) (by omega), he, Tryz.sizeOf5]
  simp only [Result.andThen, sliced, Int.toNat_natCast, Nat.sub_zero, Nat.zero_mul]
  split
  · rfl
  · cases A with
    | none => rfl
    | some a => simp [Addr.add]
theorem slice34_from (K o n c k : Nat) (hk : k ≤ n) (hc : n ≤ c) : ∃ o', (∀ W : World, (Instr.slice 34 (.slice (some ⟨K, o, none⟩) n c) (some (.int .i64 k)) none none).run Tryz.prog W = .ok (.slice (some ⟨K, o', none⟩) (n - k) (c - k)) W) ∧ (k < n → o' = o + k) := by
  refine ⟨if c = k then o else o + k, fun W => ?_, fun h => by rw [if_neg (by omega)]⟩
  have he : Tryz.prog.elem 34 = 5 := by kernel_rfl
  rw [run_slice_l W 34 (some ⟨K, o, none⟩) n c (by rw [he]; exact Tryz.underlying34) .i64 k (by omega) (by omega), he, Tryz.sizeOf5]
  simp only [Result.andThen, sliced, Int.toNat_natCast]
  split
  · rfl
  · unfold Addr.add
    split
    · rename_i h0 h1
      simp_all
    · simp
theorem info21 : (Tryz.prog.info? 21).map (fun i => (i.zero, i.size, i.bytes)) = some (some (.int .i32 0), 1, 4) := by kernel_rfl

theorem at8_take {w : World} {K o : Nat} {l : List UInt8} (h : At8 w K o l) (k : Nat) : At8 w K o (l.take k) := by
  intro j hj
  have hj' : j < k ∧ j < l.length := by rw [List.length_take] at hj; omega
  rw [h j hj'.2]
  unfold nat8
  rw [List.getD_eq_getElem?_getD, List.getD_eq_getElem?_getD, List.getElem?_take_of_lt hj'.1]
theorem at8_drop {w : World} {K o : Nat} {l : List UInt8} (h : At8 w K o l) (k : Nat) : At8 w K (o + k) (l.drop k) := by
  intro j hj
  rw [List.length_drop] at hj
  have := h (k + j) (by omega)
  rw [Nat.add_assoc, this]
  unfold nat8
  rw [List.getD_eq_getElem?_getD, List.getD_eq_getElem?_getD, List.getElem?_drop]

def valsI (rs : List Int) : List Value := rs.map (fun r => Value.int .i32 r)
theorem valsI_snoc (rs : List Int) (r : Int) : valsI (rs ++ [r]) = valsI rs ++ [.int .i32 r] := by simp [valsI]

/-- How far the scan has come. -/
def Scan (l : List UInt8) (n : Nat) (wh : Bool) : Prop := (wh = false ∧ ∀ m, 1 ≤ m → m ≤ n → stB (l.take m) = (true, false)) ∨ (wh = true ∧ 1 ≤ n ∧ stB (l.take n) = (true, true))

/-- What has been decoded. -/
structure Dec (w wr : World) (l l' : List UInt8) (ov : Value) (rs : List Int) : Prop where
  own : wr.ownsRow w.heap.size 21 1 ov rs.length (valsI rs)
  below : Below w.heap.size w wr
  good : (rs.all goodR && quotB l') = quotB l
  enc : rs.all goodR = true → encR rs ++ l' = l
  few : rs.length + l'.length ≤ l.length
theorem Dec.step {w wr : World} {l l' : List UInt8} {ov : Value} {rs : List Int} (h : Dec w wr l l' ov rs) (W1 : World) (hb : Below wr.heap.size wr W1) : W1.ownsRow w.heap.size 21 1 ov rs.length (valsI rs) :=
  h.own.kept (row := none) ⟨hb.os, hb.tape, hb.output, hb.size, fun k hk _ => hb.block k hk⟩ (by
    rcases h.own.2 with ⟨rfl, _⟩ | ⟨g, cap, cur, rfl, _⟩
    · exact .inl rfl
    · exact .inr (by simp [Value.ownBlock]))
/-- One character more. -/
theorem Dec.next {w wr w3 : World} {l l' l2 : List UInt8} {ov v' : Value} {rs : List Int} {r : Int} (h : Dec w wr l l' ov rs) (ho : w3.ownsRow w.heap.size 21 1 v' (rs.length + 1) (valsI rs ++ [.int .i32 r])) (hb : Below w.heap.size w w3)
    (hg : (goodR r && quotB l2) = quotB l') (he : goodR r = true → encOne r ++ l2 = l') (hl : l2.length < l'.length) : Dec w w3 l l2 v' (rs ++ [r]) := by
  refine ⟨?_, hb, ?_, ?_, ?_⟩
  · rw [List.length_append, valsI_snoc]; exact ho
  · rw [← h.good, ← hg, List.all_append, Bool.and_assoc]
    simp
  · intro ha
    rw [List.all_append, Bool.and_eq_true] at ha
    have h1 := h.enc ha.1
    have h2 := he (by simpa using ha.2)
    rw [encR_app, List.append_assoc, ← h1, ← h2]
    simp [encR]
  · have := h.few
    rw [List.length_append, List.length_singleton]
    omega

set_option maxHeartbeats 8000000 in
set_option maxRecDepth 1000000 in
theorem decode_calls (K o cap : Nat) (l : List UInt8) (w : World) (hl : l.length ≤ 1000000) (hcap : l.length ≤ cap) (h : At8 w K o l) :
    Calls Tryz.prog 60 #[.slice (some ⟨K, o, none⟩) l.length cap] w fun e w' => ∃ v rs, e = .returned v ∧ Dec w w' l [] v rs := by
  have HA0 := Lib.hid h
  clear h
  go_enter Tryz.func60, Tryz.ntmps60
  go_wp2
  go_loopg [0, 3] l.length (fun g bv ov wr => ∃ (o' cap' : Nat) (l' : List UInt8) (rs : List Int), l'.length = g ∧ bv = .slice (some ⟨K, o', none⟩) l'.length cap' ∧ l'.length ≤ cap' ∧ Hid (At8 w K o' l') ∧ Hid (Dec w wr l l' ov rs))
  case atStart => exact ⟨o, cap, l, [], rfl, rfl, hcap, HA0, ⟨⟨rfl, .inl ⟨rfl, rfl⟩⟩, Below.refl _ w, rfl, fun _ => rfl, by simp⟩⟩
  case round =>
    obtain ⟨o', cap', l', rs, rfl, rfl, hcap', HA, HD⟩ := hrel
    cases l' with
    | nil =>
      go_wp2
      go_ret
      exact ⟨_, rs, rfl, HD.out⟩
    | cons c t =>
      have hlen : t.length + 1 ≤ 1000000 := by have := HD.out.few; simp at this; omega
      have hLL : (c :: t).length = t.length + 1 := rfl
      rw [hLL] at hcap' ⊢
      have hpos : (0 : Int) < (t.length : Int) + 1 := by omega
      go_wp2
      go_loopg [4, 5] (t.length + 1) (fun g nv wv wr2 => ∃ (n : Nat) (wh : Bool), t.length + 1 - n = g ∧ nv = .int .i64 n ∧ wv = .bool wh ∧ n ≤ t.length + 1 ∧ wr2 = wr ∧ Hid (Scan (c :: t) n wh))
      case atStart => exact ⟨0, false, rfl, rfl, rfl, by omega, rfl, .inl ⟨rfl, fun m h1 h2 => by omega⟩⟩
      case round =>
        obtain ⟨n, wh, rfl, rfl, rfl, hn, rfl, HS⟩ := hrel
        cases wh with
        | true =>
          have hst : 1 ≤ n ∧ stB ((c :: t).take n) = (true, true) := by
            rcases HS.out with ⟨h, _⟩ | ⟨_, h⟩
            · cases h
            · exact h
          obtain ⟨m, rfl⟩ : ∃ m, n = m + 1 := ⟨n - 1, by omega⟩
          have hst2 := hst.2
          have hW := whole_law (c :: t) (m + 1) hst2
          obtain ⟨r, hr⟩ : ∃ r, numR ((c :: t).take (m + 1)) = r := ⟨_, rfl⟩
          rw [hr] at hW
          have GG := hW.1
          have EE0 := hW.2
          have EE : goodR r = true → encOne r ++ (c :: t).drop (m + 1) = c :: t := fun hg => by rw [EE0 hg, List.take_append_drop]
          have CN := number_calls K o' cap' c (t.take m) wr hst2 (at8_take (HA.out.below HD.out.below) (m + 1))
          rw [List.length_take_of_le (by omega), show numR (c :: t.take m) = r from hr] at CN
          have HCN := Lib.hid CN
          have hsl1 := fun W => slice34_to (some ⟨K, o', none⟩) (t.length + 1) cap' (m + 1) (by omega) W
          obtain ⟨i0, hi, hz0, hz1, hz2⟩ := info_parts info21
          have HX := Lib.hid (HD.out.step (wr.alloc (.cells #[.int .i32 r] 21)) ((Below.refl _ wr).alloc (Nat.le_refl _) _))
          have hc1 : ((m + 1 : Nat) : Int) = (m : Int) + 1 := by omega
          rw [hc1] at hsl1
          clear hW EE0 CN hst hst2 hr HS
          go_wp2_with (first | (go_at_call 79; refine Calls.mono HCN.out ?_; rintro e w' ⟨rfl, rfl⟩) | (at_builtin; refine wpList_append_own _ rfl (.tmp 33) (.tmp 38) 68 rfl w.heap.size 21 i0 _ 1 4 Tryz.underlying68 hi hz0 hz1 hz2 rfl (by omega) u3 rs.length (valsI rs) rfl HX.out ⟨wr.heap.size, 0, none⟩ 1 1 [.int .i32 r] rfl rfl (one_cell wr 21 _) (one_oc _ _) (by have := HD.out.few; unfold maxLen; omega) (by have := HD.out.few; omega) (by have := HD.out.below.size; simp; omega) ?_))
          all_goals
            intro v' w3 hown hg3 _
            have HB3 : Below w.heap.size w w3 := (HD.out.below.alloc HD.out.below.size _).grown hg3 (by have := HD.out.below.size; simp; omega) (own_low HX.out)
            have HD3 : Hid (Dec w w3 l ((c :: t).drop (m + 1)) v' (rs ++ [r])) := HD.out.next hown HB3 GG EE (by rw [List.length_drop, hLL]; omega)
            have HA3 : Hid (At8 w K (o' + (m + 1)) ((c :: t).drop (m + 1))) := at8_drop HA.out (m + 1)
            have HA4 : Hid (t.length + 1 ≤ (m + 1) → At8 w K o' ((c :: t).drop (m + 1))) := fun h j hj => by
              rw [List.length_drop, hLL] at hj
              omega
            have hdl : ((c :: t).drop (m + 1)).length = t.length + 1 - (m + 1) := by rw [List.length_drop]; rfl
            have HDL := Lib.hid hdl
            clear hown hg3 HB3 hdl
            go_wp2
            all_goals
              go_roundg (t.length + 1 - (m + 1))
              case measure => omega
              case rel =>
                have hdl := HDL.out
                have LE : t.length + 1 - (m + 1) = t.length - m := by omega
                rw [LE] at hdl
                first
                  | (refine ⟨o' + (m + 1), cap' - (m + 1), (c :: t).drop (m + 1), rs ++ [r], by rw [hdl, LE], ?_, ?_, HA3, HD3⟩
                     · rw [hdl]
                     · rw [hdl]; omega)
                  | (refine ⟨o', 0, (c :: t).drop (m + 1), rs ++ [r], by rw [hdl, LE], ?_, ?_, HA4.out (by omega), HD3⟩
                     · rw [hdl]
                     · rw [hdl]; omega)
        | false =>
          have hsc : ∀ m, 1 ≤ m → m ≤ n → stB ((c :: t).take m) = (true, false) := by
            rcases HS.out with ⟨_, h⟩ | ⟨h, _⟩
            · exact h
            · cases h
          by_cases hlt : n < t.length + 1
          · have hki : (n : Int) < (t.length : Int) + 1 := by omega
            obtain ⟨ok, is, hs⟩ : ∃ ok is, stB (c :: t.take n) = (ok, is) := ⟨_, _, rfl⟩
            have CS := starts_calls K o' cap' c (t.take n) wr (by rw [List.length_take]; omega) (at8_take (HA.out.below HD.out.below) (n + 1))
            rw [hs, List.length_take_of_le (by omega)] at CS
            have HCS := Lib.hid CS
            have hsl1 := fun W => slice34_to (some ⟨K, o', none⟩) (t.length + 1) cap' (n + 1) (by omega) W
            have hc1 : ((n + 1 : Nat) : Int) = (n : Int) + 1 := by omega
            rw [hc1] at hsl1
            clear CS
            cases ok with
            | true =>
              have HS2 : Hid (Scan (c :: t) (n + 1) is) := by
                cases is with
                | false =>
                  refine .inl ⟨rfl, fun m h1 h2 => ?_⟩
                  by_cases hm : m ≤ n
                  · exact hsc m h1 hm
                  · obtain rfl : m = n + 1 := by omega
                    exact hs
                | true => exact .inr ⟨rfl, by omega, hs⟩
              clear hs HS
              go_wp2_with (go_at_call 78; refine Calls.mono HCS.out ?_; rintro e w' ⟨rfl, rfl⟩)
              go_roundg (t.length + 1 - (n + 1))
              case measure => omega
              case rel => exact ⟨n + 1, is, rfl, by go_num, rfl, by omega, rfl, HS2⟩
            | false =>
              clear HS
              by_cases hn0 : n = 0
              · subst hn0
                have hmx2 : max (0 : Int) 1 = 1 := by omega
                have hq := broken_law (c :: t) 0 (by simp) hn hsc (.inr (by rw [show (c :: t).take (0 + 1) = c :: t.take 0 from rfl, hs]))
                have GG : (goodR 65533 && quotB ((c :: t).drop 1)) = quotB (c :: t) := by
                  rw [hq, show goodR 65533 = false by decide, Bool.false_and]
                have EE : goodR 65533 = true → encOne 65533 ++ (c :: t).drop 1 = c :: t := fun h => absurd h (by decide)
                obtain ⟨i0, hi, hz0, hz1, hz2⟩ := info_parts info21
                have HX := Lib.hid (HD.out.step (wr.alloc (.cells #[.int .i32 65533] 21)) ((Below.refl _ wr).alloc (Nat.le_refl _) _))
                clear hq
                go_wp2_with (first | (go_at_call 78; refine Calls.mono HCS.out ?_; rintro e w' ⟨rfl, rfl⟩) | (at_builtin; refine wpList_append_own _ rfl (.tmp 40) (.tmp 41) 68 rfl w.heap.size 21 i0 _ 1 4 Tryz.underlying68 hi hz0 hz1 hz2 rfl (by omega) u3 rs.length (valsI rs) rfl HX.out ⟨wr.heap.size, 0, none⟩ 1 1 [.int .i32 65533] rfl rfl (one_cell wr 21 _) (one_oc _ _) (by have := HD.out.few; unfold maxLen; omega) (by have := HD.out.few; omega) (by have := HD.out.below.size; simp; omega) ?_))
                all_goals
                  intro v' w3 hown hg3 _
                  have HB3 : Below w.heap.size w w3 := (HD.out.below.alloc HD.out.below.size _).grown hg3 (by have := HD.out.below.size; simp; omega) (own_low HX.out)
                  have HD3 : Hid (Dec w w3 l ((c :: t).drop 1) v' (rs ++ [65533])) := HD.out.next hown HB3 GG EE (by rw [List.length_drop, hLL]; omega)
                  have HA3 : Hid (At8 w K (o' + 1) ((c :: t).drop 1)) := at8_drop HA.out 1
                  have HA4 : Hid (t.length + 1 ≤ 1 → At8 w K o' ((c :: t).drop 1)) := fun h j hj => by
                    rw [List.length_drop, hLL] at hj
                    omega
                  have hdl : ((c :: t).drop 1).length = t.length + 1 - 1 := by rw [List.length_drop]; rfl
                  have HDL := Lib.hid hdl
                  clear hown hg3 HB3 hdl
                  go_wp2
                  all_goals
                    go_roundg (t.length + 1 - 1)
                    case measure => omega
                    case rel =>
                      have hdl := HDL.out
                      have LE : t.length + 1 - 1 = t.length := by omega
                      rw [LE] at hdl
                      first
                        | (refine ⟨o' + 1, cap' - 1, (c :: t).drop 1, rs ++ [65533], by rw [hdl, LE], ?_, ?_, HA3, HD3⟩
                           · rw [hdl]
                           · rw [hdl]; omega)
                        | (refine ⟨o', 0, (c :: t).drop 1, rs ++ [65533], by rw [hdl, LE], ?_, ?_, HA4.out (by omega), HD3⟩
                           · rw [hdl]
                           · rw [hdl]; omega)
              · have hmx : (1 : Int) ≤ (n : Int) := by omega
                have hmx2 : max (n : Int) 1 = (n : Int) := by omega
                have hq := broken_law (c :: t) n (by simp) hn hsc (.inr (by rw [show (c :: t).take (n + 1) = c :: t.take n from rfl, hs]))
                have GG : (goodR 65533 && quotB ((c :: t).drop n)) = quotB (c :: t) := by
                  rw [hq, show goodR 65533 = false by decide, Bool.false_and]
                have EE : goodR 65533 = true → encOne 65533 ++ (c :: t).drop n = c :: t := fun h => absurd h (by decide)
                obtain ⟨i0, hi, hz0, hz1, hz2⟩ := info_parts info21
                have HX := Lib.hid (HD.out.step (wr.alloc (.cells #[.int .i32 65533] 21)) ((Below.refl _ wr).alloc (Nat.le_refl _) _))
                clear hq
                go_wp2_with (first | (go_at_call 78; refine Calls.mono HCS.out ?_; rintro e w' ⟨rfl, rfl⟩) | (at_builtin; refine wpList_append_own _ rfl (.tmp 40) (.tmp 41) 68 rfl w.heap.size 21 i0 _ 1 4 Tryz.underlying68 hi hz0 hz1 hz2 rfl (by omega) u3 rs.length (valsI rs) rfl HX.out ⟨wr.heap.size, 0, none⟩ 1 1 [.int .i32 65533] rfl rfl (one_cell wr 21 _) (one_oc _ _) (by have := HD.out.few; unfold maxLen; omega) (by have := HD.out.few; omega) (by have := HD.out.below.size; simp; omega) ?_))
                all_goals
                  intro v' w3 hown hg3 _
                  have HB3 : Below w.heap.size w w3 := (HD.out.below.alloc HD.out.below.size _).grown hg3 (by have := HD.out.below.size; simp; omega) (own_low HX.out)
                  have HD3 : Hid (Dec w w3 l ((c :: t).drop n) v' (rs ++ [65533])) := HD.out.next hown HB3 GG EE (by rw [List.length_drop, hLL]; omega)
                  have HA3 : Hid (At8 w K (o' + n) ((c :: t).drop n)) := at8_drop HA.out n
                  have HA4 : Hid (t.length + 1 ≤ n → At8 w K o' ((c :: t).drop n)) := fun h j hj => by
                    rw [List.length_drop, hLL] at hj
                    omega
                  have hdl : ((c :: t).drop n).length = t.length + 1 - n := by rw [List.length_drop]; rfl
                  have HDL := Lib.hid hdl
                  clear hown hg3 HB3 hdl
                  go_wp2
                  all_goals
                    go_roundg (t.length + 1 - n)
                    case measure => omega
                    case rel =>
                      have hdl := HDL.out
                      have LE : t.length + 1 - n = t.length + 1 - n := by omega
                      rw [LE] at hdl
                      first
                        | (refine ⟨o' + n, cap' - n, (c :: t).drop n, rs ++ [65533], by rw [hdl, LE], ?_, ?_, HA3, HD3⟩
                           · rw [hdl]
                           · rw [hdl]; omega)
                        | (refine ⟨o', 0, (c :: t).drop n, rs ++ [65533], by rw [hdl, LE], ?_, ?_, HA4.out (by omega), HD3⟩
                           · rw [hdl]
                           · rw [hdl]; omega)
          · obtain rfl : n = t.length + 1 := by omega
            have hki : ¬ ((t.length : Int) + 1 < (t.length : Int) + 1) := by omega
            have hmx : (1 : Int) ≤ (t.length : Int) + 1 := by omega
            have hmx2 : max ((t.length : Int) + 1) 1 = (t.length : Int) + 1 := by omega
            clear HS
            have hq := broken_law (c :: t) (t.length + 1) (by simp) hn hsc (.inl rfl)
            have GG : (goodR 65533 && quotB ((c :: t).drop (t.length + 1))) = quotB (c :: t) := by
              rw [hq, show goodR 65533 = false by decide, Bool.false_and]
            have EE : goodR 65533 = true → encOne 65533 ++ (c :: t).drop (t.length + 1) = c :: t := fun h => absurd h (by decide)
            obtain ⟨i0, hi, hz0, hz1, hz2⟩ := info_parts info21
            have HX := Lib.hid (HD.out.step (wr.alloc (.cells #[.int .i32 65533] 21)) ((Below.refl _ wr).alloc (Nat.le_refl _) _))
            clear hq
            go_wp2_with (first | (at_builtin; refine wpList_append_own _ rfl (.tmp 40) (.tmp 41) 68 rfl w.heap.size 21 i0 _ 1 4 Tryz.underlying68 hi hz0 hz1 hz2 rfl (by omega) u3 rs.length (valsI rs) rfl HX.out ⟨wr.heap.size, 0, none⟩ 1 1 [.int .i32 65533] rfl rfl (one_cell wr 21 _) (one_oc _ _) (by have := HD.out.few; unfold maxLen; omega) (by have := HD.out.few; omega) (by have := HD.out.below.size; simp; omega) ?_))
            all_goals
              intro v' w3 hown hg3 _
              have HB3 : Below w.heap.size w w3 := (HD.out.below.alloc HD.out.below.size _).grown hg3 (by have := HD.out.below.size; simp; omega) (own_low HX.out)
              have HD3 : Hid (Dec w w3 l ((c :: t).drop (t.length + 1)) v' (rs ++ [65533])) := HD.out.next hown HB3 GG EE (by rw [List.length_drop, hLL]; omega)
              have HA3 : Hid (At8 w K (o' + (t.length + 1)) ((c :: t).drop (t.length + 1))) := at8_drop HA.out (t.length + 1)
              have HA4 : Hid (t.length + 1 ≤ (t.length + 1) → At8 w K o' ((c :: t).drop (t.length + 1))) := fun h j hj => by
                rw [List.length_drop, hLL] at hj
                omega
              have hdl : ((c :: t).drop (t.length + 1)).length = t.length + 1 - (t.length + 1) := by rw [List.length_drop]; rfl
              have HDL := Lib.hid hdl
              clear hown hg3 HB3 hdl
              go_wp2
              all_goals
                go_roundg (t.length + 1 - (t.length + 1))
                case measure => omega
                case rel =>
                  have hdl := HDL.out
                  have LE : t.length + 1 - (t.length + 1) = 0 := by omega
                  rw [LE] at hdl
                  first
                    | (refine ⟨o' + (t.length + 1), cap' - (t.length + 1), (c :: t).drop (t.length + 1), rs ++ [65533], by rw [hdl, LE], ?_, ?_, HA3, HD3⟩
                       · rw [hdl]
                       · rw [hdl]; omega)
                    | (refine ⟨o', 0, (c :: t).drop (t.length + 1), rs ++ [65533], by rw [hdl, LE], ?_, ?_, HA4.out (by omega), HD3⟩
                       · rw [hdl]
                       · rw [hdl]; omega)
end Go.Proofs.YtjmjmnagnbgmfaaGreatDoor
/-! The reference's One and Encode, at characters below 256. -/
namespace Go.Proofs.YtjmjmnagnbgmfaaGreatDoor
open Go.RowKit Go.Shelf Go.Lib

theorem one_calls (z : Nat) (hz : z ≤ 255) (w : World) :
    Calls Tryz.prog 93 #[.int .i32 (z : Int)] w fun e w' => e = .returned (.slice (some ⟨w.heap.size, 0, none⟩) (encOne z).length (encOne z).length) ∧ w' = w.alloc (.cells (Lib.byteCells (encOne z)).toArray 5) := by
  obtain ⟨y, hy⟩ : ∃ y : Int, (z : Int) = y := ⟨_, rfl⟩
  have hy2 : 0 ≤ y ∧ y ≤ 255 := by omega
  have k1 : y < 55296 := by omega
  have k2 : y ≤ 1114111 := by omega
  have k3 : 0 ≤ y := by omega
  by_cases h : z < 128
  · have e1 : encOne (z : Int) = [UInt8.ofNat z] := by
      unfold encOne
      rw [if_pos (by omega)]
      simp
    have e2 : (Lib.byteCells [UInt8.ofNat z]).toArray = #[.int .u8 y] := by
      have : ((UInt8.ofNat z).toNat : Int) = y := by rw [UInt8.toNat_ofNat']; omega
      simp only [Lib.byteCells, List.map_cons, List.map_nil, this]
    rw [e1, e2, hy]
    have k4 : y < 128 := by omega
    clear e1 e2 hy
    go_enter Tryz.func93, Tryz.ntmps93
    go_wp2_with (go_at_call 102; go_in)
    go_ret
    exact ⟨rfl, rfl⟩
  · have e1 : encOne (z : Int) = [UInt8.ofNat (192 + z / 64), UInt8.ofNat (128 + z % 64)] := by
      unfold encOne
      rw [if_neg (by omega)]
      simp
    obtain ⟨q, hq⟩ : ∃ q : Int, q = y.tdiv 64 := ⟨_, rfl⟩
    obtain ⟨m, hm⟩ : ∃ m : Int, m = y.tmod 64 := ⟨_, rfl⟩
    have hq2 : q = y / 64 := by rw [hq, Int.tdiv_eq_ediv_of_nonneg k3]
    have hm2 : m = y % 64 := by rw [hm, Int.tmod_eq_emod_of_nonneg k3]
    have e2 : (Lib.byteCells [UInt8.ofNat (192 + z / 64), UInt8.ofNat (128 + z % 64)]).toArray = #[.int .u8 (192 + q), .int .u8 (128 + m)] := by
      have h1 : ((UInt8.ofNat (192 + z / 64)).toNat : Int) = 192 + q := by rw [UInt8.toNat_ofNat']; omega
      have h2 : ((UInt8.ofNat (128 + z % 64)).toNat : Int) = 128 + m := by rw [UInt8.toNat_ofNat']; omega
      simp only [Lib.byteCells, List.map_cons, List.map_nil, h1, h2]
    rw [e1, e2, hy]
    have k4 : ¬ y < 128 := by omega
    have k5 : y < 2048 := by omega
    have hq' : y.tdiv 64 = q := hq.symm
    have hm' : y.tmod 64 = m := hm.symm
    have hqb : 0 ≤ q ∧ q ≤ 3 := by omega
    have hmb : 0 ≤ m ∧ m ≤ 63 := by omega
    clear e1 e2 hy hq hm hq2 hm2
    go_enter Tryz.func93, Tryz.ntmps93
    go_wp2_with (go_at_call 102; go_in)
    go_ret
    exact ⟨rfl, rfl⟩

theorem valsI_at {w : World} {B : Nat} {v : Value} {rs : List Int} (h : w.ownsRow B 21 1 v rs.length (valsI rs)) (k : Nat) (hk : k < rs.length) : ∃ g cap, v = .slice (some ⟨g, 0, none⟩) rs.length cap ∧ g < w.heap.size ∧ w.cell? ⟨g, k, none⟩ = some (.int .i32 (rs[k]'hk)) ∧ rs.length ≤ cap := by
  rcases h.2 with ⟨_, hn⟩ | ⟨g, cap, cur, rfl, hg, hh, hc, hm, hcs, ht⟩
  · omega
  · refine ⟨g, cap, rfl, (Array.getElem?_eq_some_iff.1 hh).1, ?_, hc⟩
    rw [Nat.mul_one] at ht
    have e : (valsI rs)[k]? = some (.int .i32 (rs[k]'hk)) := by simp [valsI, hk]
    rw [← ht, List.getElem?_take_of_lt hk, Array.getElem?_toList] at e
    simp only [World.cell?, hh]
    simpa using e
theorem valsI_len {w : World} {B : Nat} {v : Value} {rs : List Int} (h : w.ownsRow B 21 1 v rs.length (valsI rs)) : ∃ A cap, v = .slice A rs.length cap := by
  rcases h.2 with ⟨rfl, hn⟩ | ⟨g, cap, cur, rfl, _⟩
  · exact ⟨none, 0, by rw [hn]⟩
  · exact ⟨_, _, rfl⟩
theorem encOne_len (r : Int) : 1 ≤ (encOne r).length ∧ (encOne r).length ≤ 2 := by
  unfold encOne
  split <;> simp
theorem encR_len (rs : List Int) : (encR rs).length ≤ 2 * rs.length := by
  induction rs with
  | nil => simp [encR]
  | cons r t ih =>
    have := (encOne_len r).2
    simp only [encR, List.length_append, List.length_cons]
    omega
theorem byteCells_app (a b : List UInt8) : Lib.byteCells (a ++ b) = Lib.byteCells a ++ Lib.byteCells b := by simp [Lib.byteCells]

set_option maxHeartbeats 8000000 in
set_option maxRecDepth 1000000 in
theorem encode_calls (v : Value) (rs : List Int) (B : Nat) (w : World) (hown : w.ownsRow B 21 1 v rs.length (valsI rs)) (hg : ∀ r ∈ rs, 0 ≤ r ∧ r ≤ 255) (hl : rs.length ≤ 1000000) :
    Calls Tryz.prog 80 #[v] w fun e w' => ∃ v', e = .returned v' ∧ w'.ownsRow w.heap.size 5 1 v' (encR rs).length (Lib.byteCells (encR rs)) ∧ Below w.heap.size w w' := by
  have HO := Lib.hid hown
  have HG := Lib.hid hg
  obtain ⟨A, cap, rfl⟩ := valsI_len hown
  clear hown hg
  go_enter Tryz.func80, Tryz.ntmps80
  go_wp2
  go_loopg [3, 7] rs.length (fun g ov i wr => ∃ k : Nat, rs.length - k = g ∧ k ≤ rs.length ∧ i = .int .i64 k ∧ Hid (wr.ownsRow w.heap.size 5 1 ov (encR (rs.take k)).length (Lib.byteCells (encR (rs.take k)))) ∧ Hid (Below w.heap.size w wr))
  case atStart => exact ⟨0, by omega, by omega, rfl, (show _ from ⟨rfl, .inl ⟨rfl, rfl⟩⟩), Below.refl _ w⟩
  case round =>
    obtain ⟨k, rfl, hk, rfl, HE, HB⟩ := hrel
    by_cases hlt : k < rs.length
    · have hki : (k : Int) < (rs.length : Int) := by omega
      obtain ⟨g, cap', hv, hgl, hcell, hcap⟩ := valsI_at HO.out k hlt
      injection hv with hA _ hC
      subst hA hC
      obtain ⟨r, hr⟩ : ∃ r, rs[k]'hlt = r := ⟨_, rfl⟩
      rw [hr] at hcell
      have hrb := HG.out r (by rw [← hr]; exact List.getElem_mem hlt)
      have hc2 : wr.cell? ⟨g, k, none⟩ = some (.int .i32 r) := (HB.out.cell (p := ⟨g, k, none⟩) hgl).trans hcell
      have HTK : Hid (encR (rs.take (k + 1)) = encR (rs.take k) ++ encOne r) := by
        show _ = _
        rw [List.take_succ_eq_append_getElem hlt, hr, encR_app]
        simp [encR]
      have hlen : (encR (rs.take k)).length ≤ 2000000 := by
        have := encR_len (rs.take k)
        rw [List.length_take] at this
        omega
      obtain ⟨z, rfl⟩ : ∃ z : Nat, r = (z : Int) := ⟨r.toNat, by omega⟩
      have CO := Lib.hid (one_calls z (by omega) wr)
      have hel := encOne_len (z : Int)
      clear hr hcell
      generalize encOne (z : Int) = ch at *
      generalize encR (rs.take k) = acc at *
      obtain ⟨i0, hi, hz0, hz1, hz2⟩ := info_parts info5b
      have HA : Hid (Below wr.heap.size wr (wr.alloc (.cells (Lib.byteCells ch).toArray 5))) := (Below.refl _ wr).alloc (Nat.le_refl _) _
      have HX : Hid ((wr.alloc (.cells (Lib.byteCells ch).toArray 5)).ownsRow w.heap.size 5 1 u3 acc.length (Lib.byteCells acc)) := HE.out.kept (row := none) ⟨HA.out.os, HA.out.tape, HA.out.output, HA.out.size, fun k hk _ => HA.out.block k hk⟩ (by
        rcases HE.out.2 with ⟨rfl, _⟩ | ⟨g, cap, cur, rfl, _⟩
        · exact .inl rfl
        · exact .inr (by simp [Value.ownBlock]))
      have HCELL : Hid (∀ (j : Nat) (u : Value), (Lib.byteCells ch)[j]? = some u → (wr.alloc (.cells (Lib.byteCells ch).toArray 5)).cell? ((⟨wr.heap.size, 0, none⟩ : Addr).add j) = some u) := by
        intro j u hj
        have e : (⟨wr.heap.size, 0, none⟩ : Addr).add j = ⟨wr.heap.size, j, none⟩ := by unfold Addr.add; split <;> simp_all
        have hn := heap_alloc_new wr (.cells (Lib.byteCells ch).toArray 5)
        rw [e]
        simp only [World.cell?, hn]
        simpa using hj
      have HOC : Hid (∀ u ∈ Lib.byteCells ch, u.oneCell' = true) := by
        intro u hu
        simp only [Lib.byteCells, List.mem_map] at hu
        obtain ⟨b, _, rfl⟩ := hu
        rfl
      have hbl : (Lib.byteCells ch).length = ch.length * 1 := by simp [Lib.byteCells]
      go_wp2_with (first | (go_at_call 93; refine Calls.mono CO.out ?_; rintro e w' ⟨rfl, rfl⟩) | (at_builtin; refine wpList_append_own _ rfl (.tmp 10) (.tmp 15) 34 rfl w.heap.size 5 i0 _ 1 1 Tryz.underlying34 hi hz0 hz1 hz2 rfl (by omega) u3 acc.length (Lib.byteCells acc) rfl HX.out ⟨wr.heap.size, 0, none⟩ ch.length ch.length (Lib.byteCells ch) rfl hbl HCELL.out HOC.out (by unfold maxLen; omega) (by omega) (by have := HB.out.size; simp; omega) ?_))
      intro v' w3 hown3 hg3 _
      have HO3 : Hid (w3.ownsRow w.heap.size 5 1 v' (encR (rs.take (k + 1))).length (Lib.byteCells (encR (rs.take (k + 1))))) := by
        show World.ownsRow _ _ _ _ _ _ _
        rw [HTK.out, List.length_append, byteCells_app]
        exact hown3
      have HB3 : Hid (Below w.heap.size w w3) := (HB.out.alloc HB.out.size _).grown hg3 (by have := HB.out.size; simp; omega) (own_low HX.out)
      clear hown3 hg3
      go_wp2
      go_roundg (rs.length - (k + 1))
      case measure => omega
      case rel => exact ⟨k + 1, rfl, by omega, by go_num, HO3, HB3⟩
    · obtain rfl : k = rs.length := by omega
      have hki : ¬ ((rs.length : Int) < (rs.length : Int)) := by omega
      have HF : Hid (wr.ownsRow w.heap.size 5 1 u3 (encR rs).length (Lib.byteCells (encR rs))) := by
        have h := HE.out
        rw [List.take_of_length_le (Nat.le_refl _)] at h
        exact h
      go_wp2
      go_ret
      exact ⟨_, rfl, HF.out, HB.out⟩
end Go.Proofs.YtjmjmnagnbgmfaaGreatDoor
