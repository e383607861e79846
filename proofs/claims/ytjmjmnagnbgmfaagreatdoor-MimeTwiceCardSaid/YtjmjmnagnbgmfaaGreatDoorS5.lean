/- utf8.Valid at texts of ASCII bytes and of characters of two bytes that begin with C2 or C3: it answers true. -/
import Derived.Test.YtjmjmnagnbgmfaaGreatDoorS4
import Derived.Deep.DeepCutAuto
import Derived.Deep.CutBlock
namespace Go.Proofs.YtjmjmnagnbgmfaaGreatDoor
open Go.RowKit Go.Shelf Go.Lib

/-- Is a text of ASCII bytes and of pairs that begin with C2 or C3? -/
def lat1 : List UInt8 → Bool
  | [] => true
  | [b] => decide (b.toNat < 128)
  | b :: c :: l => if b.toNat < 128 then lat1 (c :: l) else (b.toNat == 194 || b.toNat == 195) && (decide (128 ≤ c.toNat) && decide (c.toNat ≤ 191)) && lat1 l

theorem lat1_ascii {b : UInt8} {l : List UInt8} (h : b.toNat < 128) : lat1 (b :: l) = lat1 l := by
  cases l with
  | nil => simp [lat1, h]
  | cons c l => simp [lat1, h]
theorem lat1_two {b : UInt8} {l : List UInt8} (h : 128 ≤ b.toNat) (hl : lat1 (b :: l) = true) : ∃ c t, l = c :: t ∧ (b.toNat = 194 ∨ b.toNat = 195) ∧ 128 ≤ c.toNat ∧ c.toNat ≤ 191 ∧ lat1 t = true := by
  cases l with
  | nil => simp [lat1] at hl; omega
  | cons c l =>
    have hn : ¬ b.toNat < 128 := by omega
    simp only [lat1, hn, if_false, Bool.and_eq_true, Bool.or_eq_true, beq_iff_eq, decide_eq_true_eq] at hl
    exact ⟨c, l, rfl, hl.1.1, hl.1.2.1, hl.1.2.2, hl.2⟩
theorem lat1_drop : ∀ (k : Nat) (l : List UInt8), k ≤ l.length → (∀ j, j < k → (l.getD j 0).toNat < 128) → lat1 l = true → lat1 (l.drop k) = true
  | 0, l, _, _, h => by simpa using h
  | k + 1, [], hk, _, _ => by simp at hk
  | k + 1, b :: l, hk, ha, h => by
    rw [lat1_ascii (by simpa using ha 0 (by omega))] at h
    exact lat1_drop k l (by simpa using hk) (fun j hj => by simpa using ha (j + 1) (by omega)) h

/-- What a call may read of the two tables that utf8.Valid asks. -/
def Tabs (w : World) : Prop := w.cell? ⟨1, 194, none⟩ = some (.int .u8 2) ∧ w.cell? ⟨1, 195, none⟩ = some (.int .u8 2) ∧ w.cell? ⟨2, 0, none⟩ = some (.int .u8 128) ∧ w.cell? ⟨2, 1, none⟩ = some (.int .u8 191)
theorem Tabs.below {w w' : World} (h : Tabs w) (hb : Below w.heap.size w w') : Tabs w' := by
  have k := fun (a : Addr) (v : Value) (ha : w.cell? a = some v) => (hb.cell (World.block_lt_of_cell? w a ha)).trans ha
  exact ⟨k _ _ h.1, k _ _ h.2.1, k _ _ h.2.2.1, k _ _ h.2.2.2⟩

/-- These bytes lie at this place. -/
def At8 (w : World) (K o : Nat) (l : List UInt8) : Prop := ∀ j, j < l.length → w.cell? ⟨K, o + j, none⟩ = some (.int .u8 (nat8 l j))
theorem At8.below {w w' : World} {K o : Nat} {l : List UInt8} (h : At8 w K o l) (hb : Below w.heap.size w w') : At8 w' K o l := fun j hj => (hb.cell (World.block_lt_of_cell? w _ (h j hj))).trans (h j hj)
theorem At8.drop {w : World} {K o o' k : Nat} {l : List UInt8} (h : At8 w K o l) (ho : k < l.length → o' = o + k) : At8 w K o' (l.drop k) := by
  intro j hj
  rw [List.length_drop] at hj
  rw [ho (by omega), Nat.add_assoc, h (k + j) (by omega)]
  simp [nat8, List.getD_eq_getElem?_getD, List.getElem?_drop]

theorem cut_from (K o n k : Nat) (m : Int) (hm : m = (k : Int)) (N : Nat) (hN : N = n + k) : ∃ o', (∀ W : World, (Instr.slice 34 (.slice (some ⟨K, o, none⟩) N N) (some (.int .i64 m)) none none).run Tryz.prog W = .ok (.slice (some ⟨K, o', none⟩) n n) W) ∧ (0 < n → o' = o + k) := by
  subst hm hN
  refine ⟨if n + k = k then o else o + k, fun W => ?_, fun h => by rw [if_neg (by omega)]⟩
  have he : Tryz.prog.elem 34 = 5 := by kernel_rfl
  rw [run_slice_l W 34 (some ⟨K, o, none⟩) (n + k) (n + k) (by rw [he]; exact Tryz.underlying34) .i64 k (by omega) (by omega), he, Tryz.sizeOf5]
  simp only [Result.andThen, sliced, Int.toNat_natCast, Nat.add_sub_cancel]
  split
  · rfl
  · unfold Addr.add
    split
    · rename_i h0 h1
      simp at h1
      subst h1
      rfl
    · simp
theorem cut_all (K o n c : Nat) (W : World) (hc : n ≤ c) : (Instr.slice 34 (.slice (some ⟨K, o, none⟩) n c) none (some (.int .i64 n)) (some (.int .i64 n))).run Tryz.prog W = .ok (.slice (some ⟨K, o, none⟩) n n) W := by
  have he : Tryz.prog.elem 34 = 5 := by kernel_rfl
  rw [run_slice_hm W 34 (some ⟨K, o, none⟩) n c (by rw [he]; exact Tryz.underlying34) .i64 .i64 n n (by omega) (by omega) (by omega), he, Tryz.sizeOf5]
  simp [Result.andThen, sliced, Addr.add]

theorem below_drewN {B : Nat} {a w : World} (h : Below B a w) (n : Nat) : Below B a (w.drewN n) := ⟨h.os, h.tape, h.output, h.size, h.block⟩
theorem At8.drewN {w : World} {K o : Nat} {l : List UInt8} (h : At8 w K o l) (q : Nat) : At8 (w.drewN q) K o l := fun j hj => h j hj
theorem word_at (K o n c : Nat) (l : List UInt8) (w : World) (hl : l.length = n) (hn : 8 ≤ n) (hm : n ≤ 140737488351232) (h : At8 w K o l) :
    Calls Tryz.prog 94 #[.slice (some ⟨K, o, none⟩) n c] w fun e w' => e = .returned (.int .u64 (wordL l)) ∧ ∃ q, w' = w.drewN q :=
  word_calls K o n c l w hn hm (fun j hj => h j (by omega))
theorem ascii_of_bits {l : List UInt8} (h : (bits BinOp.and IntKind.u64 (wordL l) 9259542123273814144 == 0) = true) (j : Nat) (hj : j < 8) : (l.getD j 0).toNat < 128 := by
  have e := u64_and_nat (wordL l) hiBits (wordL_lt l) (by decide +kernel)
  have e2 : bits BinOp.and IntKind.u64 (wordL l) 9259542123273814144 = ((wordL l &&& hiBits : Nat) : Int) := e
  rw [e2] at h
  have h3 : wordL l &&& hiBits = 0 := by
    have := eq_of_beq h
    omega
  exact wordL_ascii h3 j hj

theorem and_hi_or {a b : Nat} (h : (a ||| b) &&& hiBits = 0) : a &&& hiBits = 0 ∧ b &&& hiBits = 0 := by
  rw [Nat.and_or_distrib_right] at h
  exact Nat.or_eq_zero_iff.1 h
theorem or_lt {a b : Nat} (ha : a < 18446744073709551616) (hb : b < 18446744073709551616) : (a ||| b) < 18446744073709551616 := Nat.or_lt_two_pow (n := 64) ha hb
theorem and_of_bits {a : Nat} (ha : a < 18446744073709551616) (h : (bits BinOp.and IntKind.u64 (a : Int) 9259542123273814144 == 0) = true) : a &&& hiBits = 0 := by
  have e := u64_and_nat a hiBits ha (by decide +kernel)
  have e2 : bits BinOp.and IntKind.u64 (a : Int) 9259542123273814144 = ((a &&& hiBits : Nat) : Int) := e
  rw [e2] at h
  have := eq_of_beq h
  omega
theorem getD_drop (l : List UInt8) (k j : Nat) : (l.drop k).getD j 0 = l.getD (k + j) 0 := by simp [List.getD_eq_getElem?_getD, List.getElem?_drop]
theorem ascii_of_bits2 {l : List UInt8} (h : (bits BinOp.and IntKind.u64 (bits BinOp.or IntKind.u64 (wordL l) (wordL (l.drop 8))) 9259542123273814144 == 0) = true) (j : Nat) (hj : j < 16) : (l.getD j 0).toNat < 128 := by
  rw [u64_or_nat _ _ (wordL_lt _) (wordL_lt _)] at h
  have k := and_hi_or (and_of_bits (or_lt (wordL_lt _) (wordL_lt _)) h)
  by_cases h8 : j < 8
  · exact wordL_ascii k.1 j h8
  · have := wordL_ascii k.2 (j - 8) (by omega)
    rw [getD_drop, show 8 + (j - 8) = j by omega] at this
    exact this
theorem ascii_of_bits4 {l : List UInt8} (h : (bits BinOp.and IntKind.u64 (bits BinOp.or IntKind.u64 (bits BinOp.or IntKind.u64 (wordL l) (wordL (l.drop 8))) (bits BinOp.or IntKind.u64 (wordL (l.drop 16)) (wordL (l.drop 24)))) 9259542123273814144 == 0) = true) (j : Nat) (hj : j < 32) : (l.getD j 0).toNat < 128 := by
  rw [u64_or_nat _ _ (wordL_lt _) (wordL_lt _), u64_or_nat _ _ (wordL_lt _) (wordL_lt _), u64_or_nat _ _ (or_lt (wordL_lt _) (wordL_lt _)) (or_lt (wordL_lt _) (wordL_lt _))] at h
  have k := and_hi_or (and_of_bits (or_lt (or_lt (wordL_lt _) (wordL_lt _)) (or_lt (wordL_lt _) (wordL_lt _))) h)
  have k1 := and_hi_or k.1
  have k2 := and_hi_or k.2
  rcases (show j < 8 ∨ (8 ≤ j ∧ j < 16) ∨ (16 ≤ j ∧ j < 24) ∨ 24 ≤ j by omega) with h8 | h8 | h8 | h8
  · exact wordL_ascii k1.1 j h8
  · have := wordL_ascii k1.2 (j - 8) (by omega)
    rw [getD_drop, show 8 + (j - 8) = j by omega] at this
    exact this
  · have := wordL_ascii k2.1 (j - 16) (by omega)
    rw [getD_drop, show 16 + (j - 16) = j by omega] at this
    exact this
  · have := wordL_ascii k2.2 (j - 24) (by omega)
    rw [getD_drop, show 24 + (j - 24) = j by omega] at this
    exact this

set_option maxHeartbeats 8000000 in
set_option maxRecDepth 1000000 in
theorem valid8_calls (K o n c : Nat) (l : List UInt8) (w : World) (hm : n ≤ 140737488351232) (hc : n ≤ c) (hl : l.length = n) (hat : At8 w K o l) (hlat : lat1 l = true) (hT : Tabs w) :
    Calls Tryz.prog 81 #[.slice (some ⟨K, o, none⟩) n c] w fun e w' => e = .returned (.bool true) ∧ Below w.heap.size w w' := by
  have h0 := fun W => cut_all K o n c W hc
  have HL := Lib.hid hl
  have HA := Lib.hid hat
  have HY := Lib.hid hlat
  have HT := Lib.hid hT
  clear hl hat hlat hT
  go_enter Tryz.func81, Tryz.ntmps81
  go_wp2
  go_loopg [0] n (fun g p wr => ∃ (o' n' : Nat) (l' : List UInt8), n' = g ∧ p = .slice (some ⟨K, o', none⟩) n' n' ∧ n' ≤ n ∧ Hid (l'.length = n' ∧ At8 wr K o' l' ∧ lat1 l' = true) ∧ Below w.heap.size w wr)
  case atStart => exact ⟨o, n, l, rfl, rfl, Nat.le_refl _, ⟨HL.out, HA.out, HY.out⟩, Below.refl _ _⟩
  case round =>
    clear h0
    obtain ⟨o', n', l', rfl, rfl, hn, HI, hB⟩ := hrel
    cases n' with
    | zero =>
      go_wp2
      go_ret
      exact ⟨rfl, hB⟩
    | succ m =>
      obtain ⟨hl, hat, hlat⟩ := HI.out
      clear HI HL HA HY
      match l', hl with
      | b :: t, hl =>
      have hlt : t.length = m := by simpa using hl
      have hc0 : wr.cell? ⟨K, o', none⟩ = some (.int .u8 (nat8 (b :: t) 0)) := hat 0 (by simp)
      rw [show nat8 (b :: t) 0 = (b.toNat : Int) from rfl] at hc0
      have hb256 := b.toNat_lt
      obtain ⟨o1, hcut1, ho1⟩ := cut_from K o' m 1 1 rfl (m + 1) rfl
      have hat1 : At8 wr K o1 t := by
        have := At8.drop (k := 1) hat (o' := o1) (fun h => ho1 (by simpa [hlt] using h))
        simpa using this
      by_cases hb : b.toNat < 128
      · rw [lat1_ascii hb] at hlat
        have HI1 : Hid (t.length = m ∧ At8 wr K o1 t ∧ lat1 t = true) := ⟨hlt, hat1, hlat⟩
        clear hl hat hlt hat1 hlat ho1
        by_cases hm8 : m ≤ 8
        · go_wp2
          go_roundg m
          case measure => omega
          case rel => exact ⟨o1, m, t, rfl, rfl, by omega, HI1.out, hB⟩
        · obtain ⟨q, rfl⟩ : ∃ q, m = q + 8 := ⟨m - 8, by omega⟩
          obtain ⟨o2, hcut2, ho2⟩ := cut_from K o1 q 8 8 rfl (q + 8) rfl
          have HO2 := Lib.hid ho2
          clear ho2
          cases hbit : (bits BinOp.and IntKind.u64 (wordL t : Int) 9259542123273814144 == 0)
          · go_wp2_with (go_at_call 94; refine (word_at K o1 (q + 8) _ t _ HI1.out.1 (by omega) (by omega) HI1.out.2.1).mono ?_; rintro e w' ⟨rfl, q1, rfl⟩)
            go_roundg (q + 8)
            case measure => omega
            case rel => exact ⟨o1, q + 8, t, rfl, rfl, by omega, ⟨HI1.out.1, HI1.out.2.1.drewN _, HI1.out.2.2⟩, below_drewN hB _⟩
          · go_wp2_with (go_at_call 94; refine (word_at K o1 (q + 8) _ t _ HI1.out.1 (by omega) (by omega) HI1.out.2.1).mono ?_; rintro e w' ⟨rfl, q1, rfl⟩)
            have asc := fun j hj => ascii_of_bits (l := t) hbit j hj
            have HI2 : Hid ((t.drop 8).length = q ∧ At8 (wr.drewN q1) K o2 (t.drop 8) ∧ lat1 (t.drop 8) = true) :=
              ⟨by rw [List.length_drop, HI1.out.1]; omega, At8.drop (HI1.out.2.1.drewN _) (fun h => HO2.out (by rw [HI1.out.1] at h; omega)), lat1_drop 8 t (by rw [HI1.out.1]; omega) asc HI1.out.2.2⟩
            have hB2 := below_drewN hB q1
            clear asc HI1 HO2 hB hcut1 hcut2
            have HBIT := Lib.hid hbit
            clear hbit
            generalize t.drop 8 = t2 at HI2
            generalize wr.drewN q1 = W1 at HI2 hB2 ⊢
            by_cases hq16 : q ≤ 16
            · have hd : decide ((16 : Int) < (q : Int)) = false := by simp; omega
              go_quiet (fail)
              go_wp2
              go_roundg q
              case measure => omega
              case rel => exact ⟨o2, q, t2, rfl, rfl, by omega, ⟨HI2.out.1, HI2.out.2.1.drewN _, HI2.out.2.2⟩, below_drewN hB2 _⟩
            · obtain ⟨p, rfl⟩ : ∃ p, q = p + 8 + 8 := ⟨q - 16, by omega⟩
              obtain ⟨o3, hcut3, ho3⟩ := cut_from K o2 (p + 8) 8 8 rfl (p + 8 + 8) rfl
              obtain ⟨o4, hcut4, ho4⟩ := cut_from K o2 p 16 16 rfl (p + 8 + 8) rfl
              have HO3 := Lib.hid ho3
              have HO4 := Lib.hid ho4
              clear ho3 ho4
              have c1 : ∀ n', Calls Tryz.prog 94 #[.slice (some ⟨K, o2, none⟩) (p + 8 + 8) (p + 8 + 8)] (W1.drewN n') fun e w' => e = .returned (.int .u64 (wordL t2)) ∧ ∃ q, w' = (W1.drewN n').drewN q := fun n' => word_at K o2 _ _ t2 _ HI2.out.1 (by omega) (by omega) (HI2.out.2.1.drewN n')
              have c2 : ∀ n', Calls Tryz.prog 94 #[.slice (some ⟨K, o3, none⟩) (p + 8) (p + 8)] (W1.drewN n') fun e w' => e = .returned (.int .u64 (wordL (t2.drop 8))) ∧ ∃ q, w' = (W1.drewN n').drewN q := fun n' => word_at K o3 _ _ (t2.drop 8) _ (by rw [List.length_drop, HI2.out.1]; omega) (by omega) (by omega) (At8.drop (HI2.out.2.1.drewN n') (fun h => HO3.out (by omega)))
              have C1 := Lib.hid c1
              have C2 := Lib.hid c2
              clear c1 c2
              have hd : decide ((16 : Int) < (p : Int) + 8 + 8) = true := by simp; omega
              cases hbit2 : (bits BinOp.and IntKind.u64 (bits BinOp.or IntKind.u64 (wordL t2 : Int) (wordL (t2.drop 8) : Int)) 9259542123273814144 == 0)
              · go_quiet (first | (go_at_call 94; with_reducible exact Calls.quiet_of (C1.out _)) | (go_at_call 94; with_reducible exact Calls.quiet_of (C2.out _)))
                go_wp2
                go_roundg (p + 8 + 8)
                case measure => omega
                case rel => exact ⟨o2, p + 8 + 8, t2, rfl, rfl, by omega, ⟨HI2.out.1, HI2.out.2.1.drewN _, HI2.out.2.2⟩, below_drewN hB2 _⟩
              · go_quiet (first | (go_at_call 94; with_reducible exact Calls.quiet_of (C1.out _)) | (go_at_call 94; with_reducible exact Calls.quiet_of (C2.out _)))
                go_wp2
                have asc := fun j hj => ascii_of_bits2 (l := t2) hbit2 j hj
                have HI3 : Hid ((t2.drop 16).length = p ∧ At8 (W1.drewN nq) K o4 (t2.drop 16) ∧ lat1 (t2.drop 16) = true) :=
                  ⟨by rw [List.length_drop, HI2.out.1]; omega, At8.drop (HI2.out.2.1.drewN _) (fun h => HO4.out (by rw [HI2.out.1] at h; omega)), lat1_drop 16 t2 (by rw [HI2.out.1]; omega) asc HI2.out.2.2⟩
                have hB3 := below_drewN hB2 nq
                have HBIT2 := Lib.hid hbit2
                clear asc HI2 hB2 hcut3 hcut4 C1 C2 hbit2 hd
                generalize t2.drop 16 = t3 at HI3
                generalize W1.drewN nq = W2 at HI3 hB3 ⊢
                go_loopg [0] p (fun g v wr => ∃ (o' n' : Nat) (l' : List UInt8), n' = g ∧ v = .slice (some ⟨K, o', none⟩) n' n' ∧ n' ≤ p ∧ Hid (l'.length = n' ∧ At8 wr K o' l' ∧ lat1 l' = true) ∧ Below w.heap.size w wr)
                case atStart => exact ⟨o4, p, t3, rfl, rfl, Nat.le_refl _, HI3.out, hB3⟩
                case round =>
                  obtain ⟨o5, n5, l5, rfl, rfl, hn5, HI5, hB5⟩ := hrel
                  clear HI3 hB3
                  by_cases h32 : n5 ≤ 32
                  · have hd : decide ((32 : Int) < (n5 : Int)) = false := by simp; omega
                    go_wp2
                    go_quiet (fail)
                    go_wp2
                    go_roundg n5
                    case measure => omega
                    case rel => exact ⟨o5, n5, l5, rfl, rfl, by omega, ⟨HI5.out.1, HI5.out.2.1.drewN _, HI5.out.2.2⟩, below_drewN hB5 _⟩
                  · obtain ⟨r, rfl⟩ : ∃ r, n5 = r + 8 + 8 + 8 + 8 := ⟨n5 - 32, by omega⟩
                    obtain ⟨o6, hcut6, ho6⟩ := cut_from K o5 (r + 8 + 8 + 8) 8 8 rfl (r + 8 + 8 + 8 + 8) (by omega)
                    obtain ⟨o7, hcut7, ho7⟩ := cut_from K o5 (r + 8 + 8) 16 16 rfl (r + 8 + 8 + 8 + 8) (by omega)
                    obtain ⟨o8, hcut8, ho8⟩ := cut_from K o5 (r + 8) 24 24 rfl (r + 8 + 8 + 8 + 8) (by omega)
                    obtain ⟨o9, hcut9, ho9⟩ := cut_from K o5 r 32 32 rfl (r + 8 + 8 + 8 + 8) (by omega)
                    have C1 : Hid (∀ n', Calls Tryz.prog 94 #[.slice (some ⟨K, o5, none⟩) (r + 8 + 8 + 8 + 8) (r + 8 + 8 + 8 + 8)] (wr.drewN n') fun e w' => e = .returned (.int .u64 (wordL l5)) ∧ ∃ q, w' = (wr.drewN n').drewN q) := fun n' => word_at K o5 _ _ l5 _ HI5.out.1 (by omega) (by omega) (HI5.out.2.1.drewN n')
                    have C2 : Hid (∀ n', Calls Tryz.prog 94 #[.slice (some ⟨K, o6, none⟩) (r + 8 + 8 + 8) (r + 8 + 8 + 8)] (wr.drewN n') fun e w' => e = .returned (.int .u64 (wordL (l5.drop 8))) ∧ ∃ q, w' = (wr.drewN n').drewN q) := fun n' => word_at K o6 _ _ (l5.drop 8) _ (by rw [List.length_drop, HI5.out.1]; omega) (by omega) (by omega) (At8.drop (HI5.out.2.1.drewN n') (fun h => ho6 (by omega)))
                    have C3 : Hid (∀ n', Calls Tryz.prog 94 #[.slice (some ⟨K, o7, none⟩) (r + 8 + 8) (r + 8 + 8)] (wr.drewN n') fun e w' => e = .returned (.int .u64 (wordL (l5.drop 16))) ∧ ∃ q, w' = (wr.drewN n').drewN q) := fun n' => word_at K o7 _ _ (l5.drop 16) _ (by rw [List.length_drop, HI5.out.1]; omega) (by omega) (by omega) (At8.drop (HI5.out.2.1.drewN n') (fun h => ho7 (by omega)))
                    have C4 : Hid (∀ n', Calls Tryz.prog 94 #[.slice (some ⟨K, o8, none⟩) (r + 8) (r + 8)] (wr.drewN n') fun e w' => e = .returned (.int .u64 (wordL (l5.drop 24))) ∧ ∃ q, w' = (wr.drewN n').drewN q) := fun n' => word_at K o8 _ _ (l5.drop 24) _ (by rw [List.length_drop, HI5.out.1]; omega) (by omega) (by omega) (At8.drop (HI5.out.2.1.drewN n') (fun h => ho8 (by omega)))
                    have HO9 := Lib.hid ho9
                    clear ho6 ho7 ho8 ho9
                    have hd : decide ((32 : Int) < (r : Int) + 8 + 8 + 8 + 8) = true := by simp; omega
                    cases hbit3 : (bits BinOp.and IntKind.u64 (bits BinOp.or IntKind.u64 (bits BinOp.or IntKind.u64 (wordL l5 : Int) (wordL (l5.drop 8) : Int)) (bits BinOp.or IntKind.u64 (wordL (l5.drop 16) : Int) (wordL (l5.drop 24) : Int))) 9259542123273814144 == 0)
                    · go_wp2
                      go_quiet (first | (go_at_call 94; with_reducible exact Calls.quiet_of (C1.out _)) | (go_at_call 94; with_reducible exact Calls.quiet_of (C2.out _)) | (go_at_call 94; with_reducible exact Calls.quiet_of (C3.out _)) | (go_at_call 94; with_reducible exact Calls.quiet_of (C4.out _)))
                      go_wp2
                      go_roundg (r + 8 + 8 + 8 + 8)
                      case measure => omega
                      case rel => exact ⟨o5, r + 8 + 8 + 8 + 8, l5, rfl, rfl, by omega, ⟨HI5.out.1, HI5.out.2.1.drewN _, HI5.out.2.2⟩, below_drewN hB5 _⟩
                    · go_wp2
                      go_quiet (first | (go_at_call 94; with_reducible exact Calls.quiet_of (C1.out _)) | (go_at_call 94; with_reducible exact Calls.quiet_of (C2.out _)) | (go_at_call 94; with_reducible exact Calls.quiet_of (C3.out _)) | (go_at_call 94; with_reducible exact Calls.quiet_of (C4.out _)))
                      go_wp2
                      have asc := fun j hj => ascii_of_bits4 (l := l5) hbit3 j hj
                      go_roundg r
                      case measure => omega
                      case rel => exact ⟨o9, r, l5.drop 32, rfl, rfl, by omega, ⟨by rw [List.length_drop, HI5.out.1]; omega, At8.drop (HI5.out.2.1.drewN _) (fun h => HO9.out (by rw [HI5.out.1] at h; omega)), lat1_drop 32 l5 (by rw [HI5.out.1]; omega) asc HI5.out.2.2⟩, below_drewN hB5 _⟩
      · obtain ⟨c2, t2, rfl, hb2, hc1, hc2, hlat2⟩ := lat1_two (by omega) hlat
        obtain ⟨m, rfl⟩ : ∃ m', m = m' + 1 := ⟨m - 1, by simp at hlt; omega⟩
        have hc21 : wr.cell? ⟨K, o' + 1, none⟩ = some (.int .u8 (nat8 (b :: c2 :: t2) 1)) := hat 1 (by simp)
        rw [show nat8 (b :: c2 :: t2) 1 = (c2.toNat : Int) from rfl] at hc21
        obtain ⟨o2, hcut2, ho2⟩ := cut_from K o' m 2 2 rfl (m + 1 + 1) (by omega)
        have hat2 : At8 wr K o2 t2 := by
          have := At8.drop (k := 2) hat (o' := o2) (fun h => ho2 (by simp at hlt; simp at h; omega))
          simpa using this
        have HI2 : Hid (t2.length = m ∧ At8 wr K o2 t2 ∧ lat1 t2 = true) := ⟨by simpa using hlt, hat2, hlat2⟩
        have hT2 := HT.out.below hB
        obtain ⟨hf1, hf2, hf3, hf4⟩ := hT2
        clear hl hat hlt hat1 hlat hlat2 hat2 ho2 ho1 hcut1
        have hd1 : decide ((c2.toNat : Int) < 128) = false := by simp; omega
        have hd2 : decide ((191 : Int) < (c2.toNat : Int)) = false := by simp; omega
        have hd3 : decide ((m : Int) + 1 + 1 < 2) = false := by simp; omega
        have hK : K < wr.heap.size := World.block_lt_of_cell? wr _ hc21
        have hcA : ∀ O : Obj, (wr.alloc O).cell? ⟨K, o' + 1, none⟩ = some (.int .u8 c2.toNat) := fun O => (World.cell?_alloc_lt wr O _ hK).trans hc21
        rcases hb2 with hb2 | hb2
        · have hbe : (b.toNat : Int) = 194 := by omega
          go_wp2
          go_quiet (fail)
          go_wp2
          go_roundg m
          case measure => omega
          case rel => exact ⟨o2, m, t2, rfl, rfl, by omega, ⟨HI2.out.1, (HI2.out.2.1.below ((Below.refl _ _).alloc (Nat.le_refl _) _)).drewN _, HI2.out.2.2⟩, below_drewN (hB.alloc hB.size _) _⟩
        · have hbe : (b.toNat : Int) = 195 := by omega
          go_wp2
          go_quiet (fail)
          go_wp2
          go_roundg m
          case measure => omega
          case rel => exact ⟨o2, m, t2, rfl, rfl, by omega, ⟨HI2.out.1, (HI2.out.2.1.below ((Below.refl _ _).alloc (Nat.le_refl _) _)).drewN _, HI2.out.2.2⟩, below_drewN (hB.alloc hB.size _) _⟩
end Go.Proofs.YtjmjmnagnbgmfaaGreatDoor
