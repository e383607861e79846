import Derived.Test.YtjmjmnagnbgmfaaGreatDoorS7
import Derived.Test.YtjmjmnagnbgmfaaGreatDoorS12
/-! The reference's Has, Letter, Digit, Is. -/
namespace Go.Proofs.YtjmjmnagnbgmfaaGreatDoor
open Go.RowKit Go.Shelf Go.Lib

set_option maxHeartbeats 2000000 in
theorem has_calls (l : List UInt8) (c : UInt8) (w : World) (hl : l.length ≤ 1000000) :
    Calls Tryz.prog 34 #[.string (sOf l), .int .u8 c.toNat] w fun e w' => e = .returned (.bool (l.contains c)) ∧ w = w' := by
  have hsz : (sOf l).size = l.length := size_sOf l
  obtain ⟨r, hr⟩ : ∃ r, r = l.contains c := ⟨_, rfl⟩
  rw [← hr]
  have HR := Lib.hid hr
  clear hr
  go_enter Tryz.func34, Tryz.ntmps34
  go_wp2
  go_loopg [8] l.length (fun g i wr => ∃ k : Nat, l.length - k = g ∧ k ≤ l.length ∧ i = .int .i64 k ∧ Hid ((l.take k).contains c = false) ∧ w = wr)
  case atStart => exact ⟨0, by omega, by omega, rfl, rfl, rfl⟩
  case round =>
    obtain ⟨k, rfl, hk, rfl, HK, rfl⟩ := hrel
    by_cases hlt : k < l.length
    · have hki : (k : Int) < (l.length : Int) := by omega
      obtain ⟨b, hb⟩ : ∃ b, l[k]'hlt = b := ⟨_, rfl⟩
      have hbk : ∀ h, (sOf l)[k]'h = b := fun h => by rw [← hb]; rfl
      have hb256 := b.toNat_lt
      have hc256 := c.toNat_lt
      have hmem : b ∈ l := by rw [← hb]; exact List.getElem_mem hlt
      have HTK : Hid ((l.take (k + 1)).contains c = ((l.take k).contains c || b == c)) := by
        show _ = _
        rw [List.take_succ_eq_append_getElem hlt, hb]
        by_cases h : b = c
        · subst h; simp
        · have h2 : ¬ c = b := fun e => h e.symm
          simp [h, h2]
      clear hb
      by_cases hbc : b = c
      · subst hbc
        have HF : Hid (r = true) := by
          show _ = _
          rw [HR.out]
          simpa using hmem
        clear hmem
        go_wp2
        go_ret
        exact ⟨by rw [HF.out]; rfl, rfl⟩
      · have hne : ¬ (b.toNat : Int) = (c.toNat : Int) := fun e => hbc (UInt8.toNat_inj.1 (by omega))
        have hne2 : ((b.toNat : Int) == (c.toNat : Int)) = false := by simpa using hne
        have HF : Hid ((l.take (k + 1)).contains c = false) := by
          show _ = _
          rw [HTK.out, HK.out]
          simpa using hbc
        have hkb : (k : Int) + 1 ≤ 9223372036854775807 := by omega
        clear hmem
        go_wp2
        go_roundg (l.length - (k + 1))
        case measure => omega
        case rel => exact ⟨k + 1, rfl, by omega, by go_num, HF, rfl⟩
    · obtain rfl : k = l.length := by omega
      have hki : ¬ ((l.length : Int) < (l.length : Int)) := by omega
      have HF : Hid (r = false) := by
        have h := HK.out
        rw [List.take_of_length_le (Nat.le_refl _)] at h
        rw [HR.out]; exact h
      go_wp2
      go_ret
      exact ⟨by rw [HF.out]; rfl, rfl⟩

theorem rletter_calls (c : UInt8) (w : World) : Calls Tryz.prog 58 #[.int .u8 c.toNat] w fun e w' => e = .returned (.bool (letB c)) ∧ w = w' := by
  have hb := c.toNat_lt
  by_cases h1 : 65 ≤ c.toNat <;> by_cases h2 : c.toNat ≤ 90 <;> by_cases h3 : 97 ≤ c.toNat <;> by_cases h4 : c.toNat ≤ 122
  all_goals first | (exfalso; omega) | skip
  all_goals
    have hv : letB c = ((decide (65 ≤ c.toNat) && decide (c.toNat ≤ 90)) || (decide (97 ≤ c.toNat) && decide (c.toNat ≤ 122))) := rfl
    simp only [h1, h2, h3, h4, decide_true, decide_false, Bool.and_true, Bool.and_false, Bool.or_false, Bool.or_true] at hv
    rw [hv]
    clear hv
    generalize hn : (c.toNat : Int) = n
    have g1 : (65 ≤ n) = (65 ≤ c.toNat) := by rw [← hn]; apply propext; omega
    have g2 : (n ≤ 90) = (c.toNat ≤ 90) := by rw [← hn]; apply propext; omega
    have g3 : (97 ≤ n) = (97 ≤ c.toNat) := by rw [← hn]; apply propext; omega
    have g4 : (n ≤ 122) = (c.toNat ≤ 122) := by rw [← hn]; apply propext; omega
    rw [← g1] at h1; rw [← g2] at h2; rw [← g3] at h3; rw [← g4] at h4
    clear g1 g2 g3 g4 hn
    go_enter Tryz.func58, Tryz.ntmps58
    go_wp2
    go_ret
    exact ⟨rfl, rfl⟩

theorem rdigit_calls (c : UInt8) (w : World) : Calls Tryz.prog 59 #[.int .u8 c.toNat] w fun e w' => e = .returned (.bool (digB c)) ∧ w = w' := by
  have hb := c.toNat_lt
  by_cases h1 : 48 ≤ c.toNat <;> by_cases h2 : c.toNat ≤ 57
  all_goals first | (exfalso; omega) | skip
  all_goals
    have hv : digB c = (decide (48 ≤ c.toNat) && decide (c.toNat ≤ 57)) := rfl
    simp only [h1, h2, decide_true, decide_false, Bool.and_true, Bool.and_false] at hv
    rw [hv]
    clear hv
    generalize hn : (c.toNat : Int) = n
    have g1 : (48 ≤ n) = (48 ≤ c.toNat) := by rw [← hn]; apply propext; omega
    have g2 : (n ≤ 57) = (c.toNat ≤ 57) := by rw [← hn]; apply propext; omega
    rw [← g1] at h1; rw [← g2] at h2
    clear g1 g2 hn
    go_enter Tryz.func59, Tryz.ntmps59
    go_wp2
    go_ret
    exact ⟨rfl, rfl⟩


set_option maxHeartbeats 2000000 in
theorem ris_calls (s : ByteArray) (w : World) (hs : s.size ≤ 140737488351232) :
    Calls Tryz.prog 31 #[.string s] w fun e w' => e = .returned (.bool (isTok s.data.toList)) ∧ w = w' := by
  obtain ⟨r, hr⟩ : ∃ r, r = isTok s.data.toList := ⟨_, rfl⟩
  rw [← hr]
  have HR := Lib.hid hr
  clear hr
  go_enter Tryz.func31, Tryz.ntmps31
  go_wp2
  go_loopg [6] s.size (fun g i wr => ∃ k : Nat, s.size - k = g ∧ k ≤ s.size ∧ i = .int .i64 k ∧ Hid ((s.data.toList.take k).all tokB = true) ∧ w = wr)
  case atStart => exact ⟨0, by omega, by omega, rfl, rfl, rfl⟩
  case round =>
    obtain ⟨k, rfl, hk, rfl, HK, rfl⟩ := hrel
    by_cases hlt : k < s.size
    · have hb := (s[k]'hlt).toNat_lt
      have hbad : tokB (s[k]'hlt) = false → r = false := by
        intro h
        rw [HR.out, isTok]
        have : s.data.toList.all tokB = false := by
          rw [← Bool.not_eq_true, List.all_eq_true]
          intro hall
          have := hall (s[k]'hlt) (List.mem_of_getElem? (get_data s k hlt))
          rw [h] at this
          cases this
        rw [this, Bool.false_and]
      have hgood : tokB (s[k]'hlt) = true → (s.data.toList.take (k + 1)).all tokB = true := by
        intro h
        rw [List.take_succ_eq_append_getElem (by rw [size_data]; exact hlt), List.all_append, HK.out, Bool.true_and, List.all_cons, List.all_nil, Bool.and_true]
        exact h
      have HB := Lib.hid hbad
      have HG := Lib.hid hgood
      clear hbad hgood
      have hcl := fun w => rletter_calls (s[k]'hlt) w
      have hcd := fun w => rdigit_calls (s[k]'hlt) w
      have hcs := fun w => has_calls signs (s[k]'hlt) w (by decide)
      have HT : Hid (tokB (s[k]'hlt) = (letB (s[k]'hlt) || digB (s[k]'hlt) || signs.contains (s[k]'hlt))) := rfl
      have CL := Lib.hid hcl
      have CD := Lib.hid hcd
      have CS := Lib.hid hcs
      clear hcl hcd hcs
      cases h1 : letB (s[k]'hlt)
      · rw [h1] at CL
        cases h2 : digB (s[k]'hlt)
        · rw [h2] at CD
          cases h3 : signs.contains (s[k]'hlt)
          · rw [h3] at CS
            have HF : Hid (r = false) := HB.out (by rw [HT.out, h1, h2, h3]; rfl)
            clear h1 h2 h3
            go_wp2_with (first | (go_at_call 58; refine (CL.out _).mono ?_; rintro e w' ⟨rfl, rfl⟩) | (go_at_call 59; refine (CD.out _).mono ?_; rintro e w' ⟨rfl, rfl⟩) | (go_at_call 34; refine (CS.out _).mono ?_; rintro e w' ⟨rfl, rfl⟩))
            go_ret
            exact ⟨by rw [HF.out]; rfl, rfl⟩
          · rw [h3] at CS
            have HF := Lib.hid (HG.out (by rw [HT.out, h1, h2, h3]; rfl))
            clear h1 h2 h3
            go_wp2_with (first | (go_at_call 58; refine (CL.out _).mono ?_; rintro e w' ⟨rfl, rfl⟩) | (go_at_call 59; refine (CD.out _).mono ?_; rintro e w' ⟨rfl, rfl⟩) | (go_at_call 34; refine (CS.out _).mono ?_; rintro e w' ⟨rfl, rfl⟩))
            go_roundg (s.size - (k + 1))
            case measure => omega
            case rel => exact ⟨k + 1, rfl, by omega, by go_num, HF, rfl⟩
        · rw [h2] at CD
          have HF := Lib.hid (HG.out (by rw [HT.out, h1, h2]; rfl))
          clear h1 h2
          go_wp2_with (first | (go_at_call 58; refine (CL.out _).mono ?_; rintro e w' ⟨rfl, rfl⟩) | (go_at_call 59; refine (CD.out _).mono ?_; rintro e w' ⟨rfl, rfl⟩))
          go_roundg (s.size - (k + 1))
          case measure => omega
          case rel => exact ⟨k + 1, rfl, by omega, by go_num, HF, rfl⟩
      · rw [h1] at CL
        have HF := Lib.hid (HG.out (by rw [HT.out, h1]; rfl))
        clear h1
        go_wp2_with (go_at_call 58; refine (CL.out _).mono ?_; rintro e w' ⟨rfl, rfl⟩)
        go_roundg (s.size - (k + 1))
        case measure => omega
        case rel => exact ⟨k + 1, rfl, by omega, by go_num, HF, rfl⟩
    · obtain rfl : k = s.size := by omega
      have hfin : r = !s.data.toList.isEmpty := by
        have h := HK.out
        rw [List.take_of_length_le (by rw [size_data]; omega)] at h
        rw [HR.out, isTok, h, Bool.true_and]
      have HF := Lib.hid hfin
      clear hfin
      go_wp2
      go_ret
      exact ⟨by rw [HF.out, ← Lib.toList_data]; rfl, rfl⟩

end Go.Proofs.YtjmjmnagnbgmfaaGreatDoor
/-! The reference's Lower and small. -/
namespace Go.Proofs.YtjmjmnagnbgmfaaGreatDoor
open Go.RowKit Go.Shelf Go.Lib

theorem info5b : (Tryz.prog.info? 5).map (fun i => (i.zero, i.size, i.bytes)) = some (some (.int .u8 0), 1, 1) := by kernel_rfl

theorem own_low {w : World} {B e size n : Nat} {v : Value} {xs : List Value} (h : w.ownsRow B e size v n xs) : ∀ k, v.ownBlock = some k → B ≤ k := by
  intro k hk
  rcases h.2 with ⟨rfl, _⟩ | ⟨g, cap, cur, rfl, hg, _⟩
  · cases hk
  · simp only [Value.ownBlock, Option.some.injEq] at hk
    omega
theorem one_cell (W : World) (t : TypeId) (x : Value) : ∀ (j : Nat) (u : Value), [x][j]? = some u → (W.alloc (.cells #[x] t)).cell? ((⟨W.heap.size, 0, none⟩ : Addr).add j) = some u := by
  intro j u hj
  match j, hj with
  | 0, hj => simp at hj; subst hj; simp [Addr.add]
theorem one_oc (k : IntKind) (n : Int) : ∀ u ∈ ([.int k n] : List Value), u.oneCell' = true := by
  intro u hu
  simp at hu
  subst hu
  rfl
/-- An own row of bytes, as a text. -/
theorem own_string {w : World} {B : Nat} {v : Value} {l : List UInt8} (h : w.ownsRow B 5 1 v l.length (Lib.byteCells l)) : (convert 34 9 v).run Tryz.prog w = .ok (.string (sOf l)) w := by
  rcases h.2 with ⟨rfl, hn⟩ | ⟨g, cap, cur, rfl, hg, hh, hc, hm, hcs, ht⟩
  · have : l = [] := List.eq_nil_of_length_eq_zero hn
    subst this
    exact run_convert_bytes_nil w 34 5 Tryz.underlying34 Tryz.underlying5 0 0 9 Tryz.underlying9
  · have hl : l.length * 1 = l.length := Nat.mul_one _
    rw [hl] at ht
    refine rowB_string (w := w) (K := g) (l := l) ?_ cap 9 Tryz.underlying9
    intro j hj
    refine ⟨?_, by simp only [World.frozen?, hh]; simp⟩
    have e : (Lib.byteCells l)[j]? = some (.int .u8 (nat8 l j)) := by
      simp [Lib.byteCells, nat8, List.getD_eq_getElem?_getD, hj]
    rw [← ht, List.getElem?_take_of_lt hj, Array.getElem?_toList] at e
    simp only [World.cell?, hh]
    simpa using e

theorem byteCells_snoc (l : List UInt8) (b : UInt8) : Lib.byteCells (l ++ [b]) = Lib.byteCells l ++ [.int .u8 (b.toNat : Int)] := by simp [Lib.byteCells]
theorem low_snoc (l : List UInt8) (b : UInt8) : low (l ++ [b]) = low l ++ [lowB b] := by simp [low]
theorem low_len2 (l : List UInt8) : (low l).length = l.length := by simp [low]

set_option maxHeartbeats 4000000 in
set_option maxRecDepth 100000 in
theorem rlower_calls (s : ByteArray) (w : World) (hs : s.size ≤ 2000000) :
    Calls Tryz.prog 32 #[.string s] w fun e w' => e = .returned (.string (sOf (low s.data.toList))) ∧ Below w.heap.size w w' := by
  obtain ⟨l, hl⟩ : ∃ l, l = s.data.toList := ⟨_, rfl⟩
  rw [← hl]
  have hsl : s = sOf l := by rw [hl, sOf_data]
  subst hsl
  clear hl
  have hsz : (sOf l).size = l.length := size_sOf l
  rw [hsz] at hs
  go_enter Tryz.func32, Tryz.ntmps32
  go_wp2
  go_loopg [3, 8] l.length (fun g v i wr => ∃ k : Nat, l.length - k = g ∧ k ≤ l.length ∧ i = .int .i64 k ∧ Hid (wr.ownsRow w.heap.size 5 1 v (low (l.take k)).length (Lib.byteCells (low (l.take k)))) ∧ Hid (Below w.heap.size w wr))
  case atStart => exact ⟨0, by omega, by omega, rfl, (show _ from ⟨rfl, .inl ⟨rfl, rfl⟩⟩), Below.refl _ w⟩
  case round =>
    obtain ⟨k, rfl, hk, rfl, HO, HB⟩ := hrel
    by_cases hlt : k < l.length
    · have hki : (k : Int) < (l.length : Int) := by omega
      obtain ⟨b, hb⟩ : ∃ b, l[k]'hlt = b := ⟨_, rfl⟩
      have hbk : ∀ h, (sOf l)[k]'h = b := fun h => by rw [← hb]; rfl
      have hb256 := b.toNat_lt
      have HTK : Hid (low (l.take (k + 1)) = low (l.take k) ++ [lowB b]) := by
        show _ = _
        rw [List.take_succ_eq_append_getElem hlt, hb, low_snoc]
      have hlen : (low (l.take k)).length ≤ 2000000 := by rw [low_len2, List.length_take]; omega
      have hln := lowB_nat b
      clear hb
      obtain ⟨n, hn⟩ : ∃ n : Int, (b.toNat : Int) = n := ⟨_, rfl⟩
      have hn256 : 0 ≤ n ∧ n < 256 := by omega
      generalize low (l.take k) = acc at *
      obtain ⟨i0, hi, hz0, hz1, hz2⟩ := info_parts info5b
      have hfin : ∀ (W1 : World), Below wr.heap.size wr W1 → W1.ownsRow w.heap.size 5 1 u3 acc.length (Lib.byteCells acc) := fun W1 hb => HO.out.kept (row := none) ⟨hb.os, hb.tape, hb.output, hb.size, fun k hk _ => hb.block k hk⟩ (by
        rcases HO.out.2 with ⟨rfl, _⟩ | ⟨g, cap, cur, rfl, _⟩
        · exact .inl rfl
        · exact .inr (by simp [Value.ownBlock]))
      have HFIN := Lib.hid hfin
      clear hfin
      by_cases hA : 65 ≤ b.toNat ∧ b.toNat ≤ 90
      · have h1 : (65 : Int) ≤ n := by omega
        have h2 : n ≤ 90 := by omega
        have h3 : (n + 32) % 256 = n + 32 := by omega
        rw [if_pos hA] at hln
        clear hA
        have hln' : ((lowB b).toNat : Int) = n + 32 := by omega
        have HA : Hid (Below wr.heap.size wr (wr.alloc (.cells #[.int .u8 (n + 32)] 5))) := (Below.refl _ wr).alloc (Nat.le_refl _) _
        have HX := Lib.hid (HFIN.out _ HA.out)
        go_wp2_with (at_builtin; refine wpList_append_own _ rfl (.tmp 22) (.tmp 24) 34 rfl w.heap.size 5 i0 _ 1 1 Tryz.underlying34 hi hz0 hz1 hz2 rfl (by omega) u3 acc.length (Lib.byteCells acc) rfl HX.out ⟨wr.heap.size, 0, none⟩ 1 1 [.int .u8 (n + 32)] rfl rfl (one_cell wr 5 _) (one_oc _ _) (by unfold maxLen; omega) (by omega) (by have := HB.out.size; simp; omega) ?_)
        intro v' w3 hown hg _
        have HO3 : Hid (w3.ownsRow w.heap.size 5 1 v' (low (l.take (k + 1))).length (Lib.byteCells (low (l.take (k + 1))))) := by
          show World.ownsRow _ _ _ _ _ _ _
          rw [HTK.out, List.length_append, byteCells_snoc, hln']
          exact hown
        have HB3 : Hid (Below w.heap.size w w3) := (HB.out.alloc HB.out.size _).grown hg (by have := HB.out.size; simp; omega) (own_low HX.out)
        clear hown hg
        go_wp2
        go_roundg (l.length - (k + 1))
        case measure => omega
        case rel => exact ⟨k + 1, rfl, by omega, by go_num, HO3, HB3⟩
      · have hln' : ((lowB b).toNat : Int) = n := by rw [if_neg hA] at hln; omega
        by_cases h65 : 65 ≤ b.toNat
        · have h1 : (65 : Int) ≤ n := by omega
          have h2 : ¬ n ≤ 90 := by omega
          have HA : Hid (Below wr.heap.size wr (wr.alloc (.cells #[.int .u8 n] 5))) := (Below.refl _ wr).alloc (Nat.le_refl _) _
          have HX := Lib.hid (HFIN.out _ HA.out)
          go_wp2_with (at_builtin; refine wpList_append_own _ rfl (.tmp 22) (.tmp 24) 34 rfl w.heap.size 5 i0 _ 1 1 Tryz.underlying34 hi hz0 hz1 hz2 rfl (by omega) u3 acc.length (Lib.byteCells acc) rfl HX.out ⟨wr.heap.size, 0, none⟩ 1 1 [.int .u8 n] rfl rfl (one_cell wr 5 _) (one_oc _ _) (by unfold maxLen; omega) (by omega) (by have := HB.out.size; simp; omega) ?_)
          intro v' w3 hown hg _
          have HO3 : Hid (w3.ownsRow w.heap.size 5 1 v' (low (l.take (k + 1))).length (Lib.byteCells (low (l.take (k + 1))))) := by
            show World.ownsRow _ _ _ _ _ _ _
            rw [HTK.out, List.length_append, byteCells_snoc, hln']
            exact hown
          have HB3 : Hid (Below w.heap.size w w3) := (HB.out.alloc HB.out.size _).grown hg (by have := HB.out.size; simp; omega) (own_low HX.out)
          clear hown hg
          go_wp2
          go_roundg (l.length - (k + 1))
          case measure => omega
          case rel => exact ⟨k + 1, rfl, by omega, by go_num, HO3, HB3⟩
        · have h1 : ¬ (65 : Int) ≤ n := by omega
          have HA : Hid (Below wr.heap.size wr (wr.alloc (.cells #[.int .u8 n] 5))) := (Below.refl _ wr).alloc (Nat.le_refl _) _
          have HX := Lib.hid (HFIN.out _ HA.out)
          go_wp2_with (at_builtin; refine wpList_append_own _ rfl (.tmp 22) (.tmp 24) 34 rfl w.heap.size 5 i0 _ 1 1 Tryz.underlying34 hi hz0 hz1 hz2 rfl (by omega) u3 acc.length (Lib.byteCells acc) rfl HX.out ⟨wr.heap.size, 0, none⟩ 1 1 [.int .u8 n] rfl rfl (one_cell wr 5 _) (one_oc _ _) (by unfold maxLen; omega) (by omega) (by have := HB.out.size; simp; omega) ?_)
          intro v' w3 hown hg _
          have HO3 : Hid (w3.ownsRow w.heap.size 5 1 v' (low (l.take (k + 1))).length (Lib.byteCells (low (l.take (k + 1))))) := by
            show World.ownsRow _ _ _ _ _ _ _
            rw [HTK.out, List.length_append, byteCells_snoc, hln']
            exact hown
          have HB3 : Hid (Below w.heap.size w w3) := (HB.out.alloc HB.out.size _).grown hg (by have := HB.out.size; simp; omega) (own_low HX.out)
          clear hown hg
          go_wp2
          go_roundg (l.length - (k + 1))
          case measure => omega
          case rel => exact ⟨k + 1, rfl, by omega, by go_num, HO3, HB3⟩
    · obtain rfl : k = l.length := by omega
      have hki : ¬ ((l.length : Int) < (l.length : Int)) := by omega
      have ho := HO.out
      rw [List.take_of_length_le (Nat.le_refl _)] at ho
      have hcv := own_string ho
      clear ho
      go_wp2
      go_ret
      exact ⟨rfl, HB.out⟩

set_option maxHeartbeats 2000000 in
theorem rsmall_calls (s : ByteArray) (w : World) (hs : s.size ≤ 2000000) :
    Calls Tryz.prog 41 #[.string s] w fun e w' => e = .returned (.bool (smallB s.data.toList)) ∧ Below w.heap.size w w' := by
  have hi := fun w => ris_calls s w (by omega)
  have hl := fun w => rlower_calls s w hs
  obtain ⟨r, hr⟩ : ∃ r, r = smallB s.data.toList := ⟨_, rfl⟩
  rw [← hr]
  have HR := Lib.hid hr
  have HI := Lib.hid hi
  have HL := Lib.hid hl
  clear hr hi hl
  cases h : isTok s.data.toList
  · rw [h] at HI
    have HF : Hid (r = false) := by rw [HR.out, smallB, h]; rfl
    clear h
    go_enter Tryz.func41, Tryz.ntmps41
    go_wp2_with (go_at_call 31; refine (HI.out _).mono ?_; rintro e w' ⟨rfl, rfl⟩)
    go_ret
    exact ⟨by rw [HF.out]; rfl, Below.refl _ _⟩
  · rw [h] at HI
    have HF : Hid (r = (low s.data.toList == s.data.toList)) := by rw [HR.out, smallB, h, Bool.true_and]; exact rfl
    clear h
    go_enter Tryz.func41, Tryz.ntmps41
    go_wp2_with (first | (go_at_call 31; refine (HI.out _).mono ?_; rintro e w' ⟨rfl, rfl⟩) | (go_at_call 32; refine (HL.out _).mono ?_; rintro e w' ⟨rfl, hB⟩))
    go_ret
    refine ⟨?_, hB⟩
    rw [HF.out]
    show Ending.returned (Value.bool ((sOf (low s.data.toList)).toList == s.toList)) = _
    rw [toList_sOf, Lib.toList_data]

end Go.Proofs.YtjmjmnagnbgmfaaGreatDoor
