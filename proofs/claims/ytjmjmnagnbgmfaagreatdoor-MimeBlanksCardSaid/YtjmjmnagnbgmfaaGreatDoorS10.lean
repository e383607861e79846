/- mime.params: a type's parameters. -/
import Derived.Test.YtjmjmnagnbgmfaaGreatDoorS9
namespace Go.Proofs.YtjmjmnagnbgmfaaGreatDoor
open Go.RowKit Go.Shelf Go.Lib Go.Proofs.YtjmjmnagnbgmfaaGreatDoorW.PrintWords PMimeReads

/-- A type's parameters, of what stands behind its two names; at most so many rounds. -/
def paramsB : Nat → List Pm → List UInt8 → List Pm
  | 0, out, _ => out
  | _ + 1, out, [] => out
  | k + 1, out, _ :: t =>
    match (cutA (Lib.trimLeftS t blanks) [59, 61]).2 with
    | [] => out
    | c :: r =>
      if c.toNat = 61 then
        let nm := low (cutA (Lib.trimLeftS t blanks) [59, 61]).1
        paramsB k (if (valueB r).2.2 && !out.any (·.1 == nm) && isTok nm && quotB (valueB r).1 then out ++ [(nm, (valueB r).1)] else out) (valueB r).2.1
      else paramsB k out (c :: r)

/-- Does a text begin with this byte? -/
def headIs (c : UInt8) : List UInt8 → Bool
  | [] => false
  | b :: _ => b == c
theorem prefix_calls (l : List UInt8) (c : UInt8) (w : World) : Calls Tryz.prog 55 #[.string (sOf l), .string ⟨#[c]⟩] w fun e w' => e = .returned (.bool (headIs c l)) ∧ Below w.heap.size w w' := by
  have h := hasPrefix_f (sOf l) c
  rw [data_sOf] at h
  exact (strings_HasPrefix.calls (sOf l) ⟨#[c]⟩ _ w h).mono fun e w' ⟨he, hd⟩ => ⟨he, hd.below⟩

/-- Behind a parameter's name. -/
def stepP (k : Nat) (out : List Pm) (nm : List UInt8) : List UInt8 → List Pm
  | [] => out
  | c :: r => if c.toNat = 61 then paramsB k (if (valueB r).2.2 && !out.any (·.1 == nm) && isTok nm && quotB (valueB r).1 then out ++ [(nm, (valueB r).1)] else out) (valueB r).2.1 else paramsB k out (c :: r)
theorem paramsB_nil (k : Nat) (out : List Pm) : paramsB k out [] = out := by cases k <;> rfl
theorem paramsB_cons (k : Nat) (out : List Pm) (c : UInt8) (t : List UInt8) : paramsB (k + 1) out (c :: t) = stepP k out (low (cutA (Lib.trimLeftS t blanks) [59, 61]).1) (cutA (Lib.trimLeftS t blanks) [59, 61]).2 := by
  unfold stepP
  rw [paramsB]
theorem stepP_eq (k : Nat) (out : List Pm) (nm : List UInt8) (c : UInt8) (r : List UInt8) (h : c.toNat = 61) : stepP k out nm (c :: r) = paramsB k (if (valueB r).2.2 && !out.any (·.1 == nm) && isTok nm && quotB (valueB r).1 then out ++ [(nm, (valueB r).1)] else out) (valueB r).2.1 := by
  simp only [stepP, h, if_true]
theorem stepP_ne (k : Nat) (out : List Pm) (nm : List UInt8) (r : List UInt8) (h : ¬ ∃ t, ∃ c : UInt8, r = c :: t ∧ c.toNat = 61) : stepP k out nm r = paramsB k out r := by
  cases r with
  | nil => rw [paramsB_nil]; rfl
  | cons c r =>
    have : ¬ c.toNat = 61 := fun h' => h ⟨r, c, rfl, h'⟩
    simp only [stepP, this, if_false]

theorem trimLeft_len (l cs : List UInt8) : (Lib.trimLeftS l cs).length ≤ l.length := by
  unfold Lib.trimLeftS
  exact (List.dropWhile_sublist _).length_le
theorem trimRight_len (l cs : List UInt8) : (Lib.trimRightS l cs).length ≤ l.length := by
  unfold Lib.trimRightS
  rw [List.length_reverse]
  have := (List.dropWhile_sublist (fun x => cs.contains x) (l := l.reverse)).length_le
  simpa using this
theorem valueB_len (l : List UInt8) : (valueB l).1.length ≤ l.length ∧ (valueB l).2.1.length ≤ l.length := by
  have h1 := quotedB_le l
  have h2 := cutA_len l [59]
  have h3 := cutA_len (l.drop (quotedB l).2) [59]
  have h4 := trimRight_len (cutA l [59]).1 blanks
  have h5 : (l.drop (quotedB l).2).length ≤ l.length := by simp
  unfold valueB
  split
  · exact ⟨h1.2, Nat.le_trans h3.2 h5⟩
  · exact ⟨Nat.le_trans h4 h2.1, h2.2⟩
theorem low_len (l : List UInt8) : (low l).length = l.length := by simp [low]

/-- The row of parameters, and the name's variable. -/
structure PS (w wr : World) (K : Nat) (x : ByteArray) (v : Value) (ps : List Pm) : Prop where
  below : Below w.heap.size w wr
  ge : w.heap.size ≤ K
  blk : wr.heap[K]? = some (.cells #[.string x] 9 (0, 0))
  own : wr.ownsRow w.heap.size 36 2 v ps.length (cellsP ps)
namespace PS
variable {w wr w1 : World} {K : Nat} {x : ByteArray} {v : Value} {ps : List Pm}
theorem lt (h : PS w wr K x v ps) : K < wr.heap.size := (Array.getElem?_eq_some_iff.1 h.blk).1
theorem cell (h : PS w wr K x v ps) : wr.cell? ⟨K, 0, none⟩ = some (.string x) := by simp [World.cell?, h.blk]
theorem frozen (h : PS w wr K x v ps) : wr.frozen? ⟨K, 0, none⟩ = false := by simp [World.frozen?, h.blk]
theorem step (h : PS w wr K x v ps) (hb : Below wr.heap.size wr w1) : PS w w1 K x v ps :=
  ⟨h.below.trans (hb.mono h.below.size), h.ge, (hb.block K h.lt).trans h.blk, pw_own_below h.own hb⟩
theorem ne (h : PS w wr K x v ps) : v.ownBlock ≠ some K := by
  intro hk
  obtain ⟨c, hc⟩ := own_typed h.own K hk
  rw [h.blk] at hc
  injection hc with hc
  injection hc with _ ht
  exact absurd ht (by decide)
theorem set (h : PS w wr K x v ps) (y : ByteArray) : PS w (wr.setCell ⟨K, 0, none⟩ (.string y)) K y v ps := by
  refine ⟨h.below.setCell h.ge _, h.ge, ?_, ?_⟩
  · simp [World.setCell, Array.getElem?_modify, h.blk]
  · refine own_move h.own (fun k hk => Below.heap_setCell wr _ _ k (fun e => h.ne (by rw [hk, e])))
end PS

theorem info36 : (Tryz.prog.info? 36).map (fun i => (i.zero, i.size, i.bytes)) = some (some (.agg #[.string ⟨#[]⟩, .string ⟨#[]⟩]), 2, 32) := by kernel_rfl

set_option maxHeartbeats 8000000 in
set_option maxRecDepth 1000000 in
theorem params_calls (l : List UInt8) (w : World) (hs : l.length ≤ 1000000) (hT : Tabs w) :
    Calls Tryz.prog 28 #[.string (sOf l)] w fun e w' => ∃ v, e = .returned v ∧ w'.ownsRow w.heap.size 36 2 v (paramsB l.length [] l).length (cellsP (paramsB l.length [] l)) ∧ Below w.heap.size w w' := by
  obtain ⟨R, hR⟩ : ∃ R, R = paramsB l.length [] l := ⟨_, rfl⟩
  rw [← hR]
  have HR := Lib.hid hR
  have HT := Lib.hid hT
  clear hR hT
  go_enter Tryz.func28, Tryz.ntmps28
  go_wp2
  go_loopg [0, 3] l.length (fun k s v wr => ∃ (l' : List UInt8) (ps : List Pm), s = .string (sOf l') ∧ Hid (l'.length ≤ k ∧ paramsB k ps l' = R) ∧ Below w.heap.size w wr ∧ Hid (wr.ownsRow w.heap.size 36 2 v ps.length (cellsP ps)) ∧ ps.length + l'.length ≤ l.length)
  case atStart => exact ⟨l, [], rfl, ⟨Nat.le_refl _, HR.out.symm⟩, Below.refl _ _, own_nil _ _ _ _, by simp⟩
  case round =>
    obtain ⟨l', ps, rfl, HP, hB, HO, hlen⟩ := hrel
    have hts := toList_sOf
    cases l' with
    | nil =>
      have hps : R = ps := by
        have := HP.out.2
        rw [← this]
        cases gk <;> rfl
      subst hps
      go_wp2
      go_ret
      exact ⟨_, rfl, HO.out, hB⟩
    | cons c0 t =>
      obtain ⟨k, rfl⟩ : ∃ k, gk = k + 1 := ⟨gk - 1, by have := HP.out.1; simp at this; omega⟩
      have hS1 : 1 ≤ (sOf (c0 :: t)).size := by rw [size_sOf]; simp
      have hS2 : (sOf (c0 :: t)).extract 1 (sOf (c0 :: t)).size = sOf t := by rw [← sOf_drop, data_sOf]; rfl
      have hS3 : (sOf (c0 :: t)).toList.isEmpty = false := by rw [toList_sOf]; rfl
      have hS4 : ¬ (sOf (c0 :: t)).toList = [] := by rw [toList_sOf]; simp
      have HS0 : Hid (PS w (wr.alloc (.cells #[.string ⟨#[]⟩] 9)) wr.heap.size ⟨#[]⟩ u3 ps) :=
        ⟨hB.alloc hB.size _, hB.size, heap_alloc_new wr _, HO.out.alloc _⟩
      have hl1 : t.length + 1 ≤ 1000000 := by simp at hlen; omega
      have hl2 := trimLeft_len t blanks
      have hl3 := cutA_len (Lib.trimLeftS t blanks) [59, 61]
      clear HO hB hts
      generalize sOf (c0 :: t) = S0 at *
      go_wp2_with fail
      refine (trimLeft_calls _ _).mono ?_
      rintro e w1 ⟨rfl, hb1⟩
      have HS1 := Lib.hid (HS0.out.step hb1)
      clear hb1 HS0 hS1 hS2 hS3 hS4
      rw [data_sOf]
      go_wp2_with fail
      have hcut := cut2_calls (sOf (Lib.trimLeftS t blanks)) ⟨#[59, 61]⟩ w1 (by rw [size_sOf]; omega) (by decide) semieq_ascii
      rw [data_sOf] at hcut
      refine Calls.mono hcut ?_
      clear hcut
      rintro e w2 ⟨rfl, hb2⟩
      have HS2 := Lib.hid (HS1.out.step hb2)
      clear hb2 HS1
      obtain ⟨n0, r0, hnr⟩ : ∃ n0 r0, cutA (Lib.trimLeftS t blanks) [59, 61] = (n0, r0) := ⟨_, _, rfl⟩
      have hl3' : n0.length ≤ t.length ∧ r0.length ≤ t.length := by rw [hnr] at hl3; simp only at hl3; omega
      have HNR := Lib.hid hnr
      rw [hnr]
      clear hnr hl3 hl2
      have hc2 := HS2.out.cell
      have hf2 := HS2.out.frozen
      go_wp2_with fail
      have HS3 := Lib.hid (HS2.out.set (sOf n0))
      clear HS2 hc2 hf2
      generalize w2.setCell ⟨wr.heap.size, 0, none⟩ (.string (sOf n0)) = w3 at HS3 ⊢
      have hlow := lower_calls (sOf n0) w3 (by rw [size_sOf]; omega)
      rw [data_sOf] at hlow
      refine Calls.mono hlow ?_
      clear hlow
      rintro e w4 ⟨rfl, hb4⟩
      have HS4 := Lib.hid (HS3.out.step hb4)
      clear hb4 HS3
      have hc4 := HS4.out.cell
      have hf4 := HS4.out.frozen
      go_wp2_with fail
      have HS5 := Lib.hid (HS4.out.set (sOf (low n0)))
      clear HS4 hc4 hf4
      generalize w4.setCell ⟨wr.heap.size, 0, none⟩ (.string (sOf (low n0))) = w5 at HS5 ⊢
      have hnl : (low n0).length ≤ t.length := by rw [low_len]; exact hl3'.1
      have HQ : Hid (paramsB (k + 1) ps (c0 :: t) = stepP k ps (low n0) r0) := by
        have e := paramsB_cons k ps c0 t
        rw [HNR.out] at e
        exact e
      clear HNR
      generalize low n0 = nm at HS5 hnl HQ ⊢
      refine (prefix_calls r0 61 w5).mono ?_
      rintro e w6 ⟨rfl, hb6⟩
      have HS6 := Lib.hid (HS5.out.step hb6)
      clear hb6 HS5
      by_cases h61 : ∃ r, ∃ c : UInt8, r0 = c :: r ∧ c.toNat = 61
      · obtain ⟨r, c, rfl, hc61⟩ := h61
        have hbt : headIs 61 (c :: r) = true := by
          have : c = 61 := UInt8.toNat_inj.1 hc61
          subst this
          rfl
        rw [hbt]
        clear hbt
        have HQ2 : Hid (paramsB (k + 1) ps (c0 :: t) = paramsB k (if (valueB r).2.2 && !ps.any (·.1 == nm) && isTok nm && quotB (valueB r).1 then ps ++ [(nm, (valueB r).1)] else ps) (valueB r).2.1) := by
          have := HQ.out
          rw [stepP_eq _ _ _ _ _ hc61] at this
          exact this
        clear HQ
        obtain ⟨A, cc, rfl, hcc, hrd⟩ := prd_of_own HS6.out.own
        clear hrd
        obtain ⟨v1, rest, ok, hv⟩ : ∃ v1 rest ok, valueB r = (v1, rest, ok) := ⟨_, _, _, rfl⟩
        have hvl := valueB_len r
        rw [hv] at hvl
        have hrl : r.length + 1 ≤ t.length := by have := hl3'.2; simp at this; omega
        have hval := value_calls (sOf r) w6 (by rw [size_sOf]; omega)
        rw [data_sOf, hv] at hval
        simp only at hval hvl
        have HQ3 : Hid (paramsB k (if ok && !ps.any (·.1 == nm) && isTok nm && quotB v1 then ps ++ [(nm, v1)] else ps) rest = R) := by
          have e := HQ2.out
          rw [hv] at e
          rw [← HP.out.2]
          exact e.symm
        clear HQ2 hv
        have hS1 : 1 ≤ (sOf (c :: r)).size := by rw [size_sOf]; simp
        have hS2 : (sOf (c :: r)).extract 1 (sOf (c :: r)).size = sOf r := by rw [← sOf_drop, data_sOf]; rfl
        generalize sOf (c :: r) = S1 at *
        have HV := Lib.hid hval
        clear hval
        have hmf : ∀ (fn : Fn) (first cap : Array Value) (w : World), (Instr.makeFunc fn first cap).run Tryz.prog w = .ok (.func fn first cap) w := fun _ _ _ _ => rfl
        go_wp2_with fail
        refine Calls.mono HV.out ?_
        clear HV
        rintro e w7 ⟨rfl, hb7⟩
        have HS7 := Lib.hid (HS6.out.step hb7)
        clear hb7 HS6 hS1 hS2
        go_wp2_with fail
        obtain ⟨A', cc', he, hcc', hrd⟩ := prd_of_own HS7.out.own
        injection he with he1 he2 he3
        subst he1 he3
        refine (contains_calls A cc ps w7 hrd 57 (.inl rfl) _ (fun x => x.1 == nm) (pred57 nm wr.heap.size w7 HS7.out.lt HS7.out.cell)).mono ?_
        clear hrd
        rintro e w8 ⟨rfl, hb8⟩
        have HS8 := Lib.hid (HS7.out.step hb8)
        clear hb8 HS7
        have hkb : rest.length ≤ k := by
          have := HP.out.1
          simp at this
          omega
        have hlb : ps.length + 1 + rest.length ≤ l.length := by
          simp at hlen
          omega
        have hc8 := HS8.out.cell
        have hT8 := Lib.hid (HT.out.below HS8.out.below)
        have CI := Lib.hid (fun w => is_calls (sOf nm) w (by rw [size_sOf]; omega))
        have CQ := Lib.hid (quotable_calls (sOf v1) w8 (by rw [size_sOf]; omega) hT8.out)
        rw [data_sOf] at CI CQ
        by_cases hall : ok = true ∧ ps.any (fun x => x.1 == nm) = false ∧ isTok nm = true ∧ quotB v1 = true
        · obtain ⟨h1, h2, h3, h4⟩ := hall
          rw [h2]
          rw [h1, h2, h3, h4] at HQ3
          rw [h3] at CI
          rw [h4] at CQ
          subst h1
          clear h2 h3 h4
          have HQ4 : Hid (paramsB k (ps ++ [(nm, v1)]) rest = R) := by
            have e := HQ3.out
            simp only [Bool.not_false, Bool.and_true, if_true] at e
            exact e
          clear HQ3
          go_wp2_with (first | (go_at_call 26; refine (CI.out _).mono ?_; rintro e w' ⟨rfl, rfl⟩))
          refine Calls.mono CQ.out ?_
          rintro e w9 ⟨rfl, hb9⟩
          have HS9 := Lib.hid (HS8.out.step hb9)
          clear hb9 HS8 hc8 CI CQ hT8
          have hc9 := HS9.out.cell
          obtain ⟨i0, hi, hz0, hz1, hz2⟩ := info_parts info36
          go_wp2_with (at_builtin; refine wpList_append_own _ rfl (.tmp 47) (.tmp 51) _ rfl w.heap.size 36 i0 _ 2 32 Tryz.underlying23 hi hz0 hz1 hz2 rfl (by omega) _ ps.length (cellsP ps) rfl (HS9.out.own.alloc _) ⟨w9.heap.size, 0, none⟩ 1 1 (encP (nm, v1)) rfl rfl ?c1 ?c2 ?c3 ?c4 ?c5 ?_)
          case c1 =>
            intro j u hj
            match j, hj with
            | 0, hj => simp [encP] at hj; subst hj; simp [Addr.add]
            | 1, hj => simp [encP] at hj; subst hj; simp [Addr.add]
          case c2 =>
            intro u hu
            simp [encP] at hu
            rcases hu with rfl | rfl <;> rfl
          case c3 => unfold maxLen; omega
          case c4 => omega
          case c5 => have := HS9.out.below.size; simp; omega
          · intro v' w10 hown hg _
            have hB10 : Below w.heap.size w w10 := (HS9.out.below.alloc HS9.out.below.size _).grown hg (by have := HS9.out.below.size; simp; omega) (own_base HS9.out.own)
            have hown2 : w10.ownsRow w.heap.size 36 2 v' (ps ++ [(nm, v1)]).length (cellsP (ps ++ [(nm, v1)])) := by
              rw [cellsP_snoc, List.length_append]
              exact hown
            have HOWN := Lib.hid hown2
            clear hown hown2 hg HS9 hc9 hz0 hz1 hz2 hi
            go_wp2
            go_roundg k
            case measure => omega
            case rel => exact ⟨rest, ps ++ [(nm, v1)], rfl, ⟨hkb, HQ4.out⟩, hB10, HOWN.out, by rw [List.length_append]; simp; omega⟩
        · have HQ4 : Hid (paramsB k ps rest = R) := by
            have e := HQ3.out
            rw [if_neg (by
              simp only [Bool.and_eq_true, Bool.not_eq_true']
              exact fun h => hall ⟨h.1.1.1, h.1.1.2, h.1.2, h.2⟩)] at e
            exact e
          clear HQ3 hmf
          have hl4 : ps.length + rest.length ≤ l.length := by omega
          cases ok with
          | false =>
            clear CI CQ hall
            go_wp2_with fail
            go_roundg k
            case measure => omega
            case rel => exact ⟨rest, ps, rfl, ⟨hkb, HQ4.out⟩, HS8.out.below, HS8.out.own, hl4⟩
          | true =>
            cases hany : ps.any (fun x => x.1 == nm) with
            | true =>
              clear CI CQ hall hany
              go_wp2_with fail
              go_roundg k
              case measure => omega
              case rel => exact ⟨rest, ps, rfl, ⟨hkb, HQ4.out⟩, HS8.out.below, HS8.out.own, hl4⟩
            | false =>
              cases htok : isTok nm with
              | false =>
                rw [htok] at CI
                clear CQ hall hany htok
                go_wp2_with (go_at_call 26; refine (CI.out _).mono ?_; rintro e w' ⟨rfl, rfl⟩)
                go_roundg k
                case measure => omega
                case rel => exact ⟨rest, ps, rfl, ⟨hkb, HQ4.out⟩, HS8.out.below, HS8.out.own, hl4⟩
              | true =>
                have hq : quotB v1 = false := by
                  cases h : quotB v1 with
                  | false => rfl
                  | true => exact absurd ⟨rfl, hany, htok, h⟩ hall
                rw [htok] at CI
                rw [hq] at CQ
                clear hall hany htok hq
                go_wp2_with (go_at_call 26; refine (CI.out _).mono ?_; rintro e w' ⟨rfl, rfl⟩)
                refine Calls.mono CQ.out ?_
                rintro e w9 ⟨rfl, hb9⟩
                have HS9 := Lib.hid (HS8.out.step hb9)
                clear hb9 HS8 hc8 CI CQ hT8
                go_wp2_with fail
                go_roundg k
                case measure => omega
                case rel => exact ⟨rest, ps, rfl, ⟨hkb, HQ4.out⟩, HS9.out.below, HS9.out.own, hl4⟩
      · have hbt : headIs 61 r0 = false := by
          cases r0 with
          | nil => rfl
          | cons c r =>
            have : ¬ c.toNat = 61 := fun h => h61 ⟨r, c, rfl, h⟩
            show (c == 61) = false
            rw [beq_eq_false_iff_ne]
            intro h
            exact this (by rw [h]; rfl)
        rw [hbt]
        clear hbt
        have HQ2 : Hid (paramsB k ps r0 = R) := by
          have := HQ.out
          rw [stepP_ne _ _ _ _ h61, HP.out.2] at this
          exact this.symm
        have hlk : r0.length ≤ k := by
          have := HP.out.1
          simp at this
          omega
        have hlen2 : ps.length + r0.length ≤ l.length := by
          simp at hlen
          omega
        clear HQ h61
        go_wp2_with fail
        go_roundg k
        case measure => omega
        case rel => exact ⟨r0, ps, rfl, ⟨hlk, HQ2.out⟩, HS6.out.below, HS6.out.own, hlen2⟩
end Go.Proofs.YtjmjmnagnbgmfaaGreatDoor
