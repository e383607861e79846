import Derived.Test.YtjmjmnagnbgmfaaGreatDoorS9
/- mime.params: a type's parameters. -/
namespace Go.Proofs.YtjmjmnagnbgmfaaGreatDoor
open Go.RowKit Go.Shelf Go.Lib Go.Proofs.YtjmjmnagnbgmfaaGreatDoorW.PrintWords PMimeReads

/-- A type's parameters, of what stands behind its two names; at most so many rounds. -/
def paramsB : Nat → List Pm → List UInt8 → List Pm
  | 0, out, _ => out
  | _ + 1, out, [] => out
  | k + 1, out, _ :: t =>
    match (cutA (Lib.trimLeftS t blanks) [59, 61]).2 with
    | [] => out
    | c :: r =>
      if c.toNat = 61 then
        let nm := low (cutA (Lib.trimLeftS t blanks) [59, 61]).1
        paramsB k (if (valueB r).2.2 && !out.any (·.1 == nm) && isTok nm && quotB (valueB r).1 then out ++ [(nm, (valueB r).1)] else out) (valueB r).2.1
      else paramsB k out (c :: r)

/-- Does a text begin with this byte? -/
def headIs (c : UInt8) : List UInt8 → Bool
  | [] => false
  | b :: _ => b == c
theorem prefix_calls (l : List UInt8) (c : UInt8) (w : World) : Calls Tryz.prog 55 #[.string (sOf l), .string ⟨#[c]⟩] w fun e w' => e = .returned (.bool (headIs c l)) ∧ Below w.heap.size w w' := by
  have h := hasPrefix_f (sOf l) c
  rw [data_sOf] at h
  exact (strings_HasPrefix.calls (sOf l) ⟨#[c]⟩ _ w h).mono fun e w' ⟨he, hd⟩ => ⟨he, hd.below⟩

/-- Behind a parameter's name. -/
def stepP (k : Nat) (out : List Pm) (nm : List UInt8) : List UInt8 → List Pm
  | [] => out
  | c :: r => if c.toNat = 61 then paramsB k (if (valueB r).2.2 && !out.any (·.1 == nm) && isTok nm && quotB (valueB r).1 then out ++ [(nm, (valueB r).1)] else out) (valueB r).2.1 else paramsB k out (c :: r)
theorem paramsB_nil (k : Nat) (out : List Pm) : paramsB k out [] = out := by cases k <;> rfl
theorem paramsB_cons (k : Nat) (out : List Pm) (c : UInt8) (t : List UInt8) : paramsB (k + 1) out (c :: t) = stepP k out (low (cutA (Lib.trimLeftS t blanks) [59, 61]).1) (cutA (Lib.trimLeftS t blanks) [59, 61]).2 := by
  unfold stepP
  rw [paramsB]
theorem stepP_eq (k : Nat) (out : List Pm) (nm : List UInt8) (c : UInt8) (r : List UInt8) (h : c.toNat = 61) : stepP k out nm (c :: r) = paramsB k (if (valueB r).2.2 && !out.any (·.1 == nm) && isTok nm && quotB (valueB r).1 then out ++ [(nm, (valueB r).1)] else out) (valueB r).2.1 := by
  simp only [stepP, h, if_true]
theorem stepP_ne (k : Nat) (out : List Pm) (nm : List UInt8) (r : List UInt8) (h : ¬ ∃ t, ∃ c : UInt8, r = c :: t ∧ c.toNat = 61) : stepP k out nm r = paramsB k out r := by
  cases r with
  | nil => rw [paramsB_nil]; rfl
  | cons c r =>
    have : ¬ c.toNat = 61 := fun h' => h ⟨r, c, rfl, h'⟩
    simp only [stepP, this, if_false]

theorem trimLeft_len (l cs : List UInt8) : (Lib.trimLeftS l cs).length ≤ l.length := by
  unfold Lib.trimLeftS
  exact (List.dropWhile_sublist _).length_le
theorem trimRight_len (l cs : List UInt8) : (Lib.trimRightS l cs).length ≤ l.length := by
  unfold Lib.trimRightS
  rw [List.length_reverse]
  have := (List.dropWhile_sublist (fun x => cs.contains x) (l := l.reverse)).length_le
  simpa using this
theorem valueB_len (l : List UInt8) : (valueB l).1.length ≤ l.length ∧ (valueB l).2.1.length ≤ l.length := by
  have h1 := quotedB_le l
  have h2 := cutA_len l [59]
  have h3 := cutA_len (l.drop (quotedB l).2) [59]
  have h4 := trimRight_len (cutA l [59]).1 blanks
  have h5 : (l.drop (quotedB l).2).length ≤ l.length := by simp
  unfold valueB
  split
  · exact ⟨h1.2, Nat.le_trans h3.2 h5⟩
  · exact ⟨Nat.le_trans h4 h2.1, h2.2⟩
theorem low_len (l : List UInt8) : (low l).length = l.length := by simp [low]

/-- The row of parameters, and the name's variable. -/
structure PS (w wr : World) (K : Nat) (x : ByteArray) (v : Value) (ps : List Pm) : Prop where
  below : Below w.heap.size w wr
  ge : w.heap.size ≤ K
  blk : wr.heap[K]? = some (.cells #[.string x] 9 (0, 0))
  own : wr.ownsRow w.heap.size 36 2 v ps.length (cellsP ps)
namespace PS
variable {w wr w1 : World} {K : Nat} {x : ByteArray} {v : Value} {ps : List Pm}
theorem lt (h : PS w wr K x v ps) : K < wr.heap.size := (Array.getElem?_eq_some_iff.1 h.blk).1
theorem cell (h : PS w wr K x v ps) : wr.cell? ⟨K, 0, none⟩ = some (.string x) := by simp [World.cell?, h.blk]
theorem frozen (h : PS w wr K x v ps) : wr.frozen? ⟨K, 0, none⟩ = false := by simp [World.frozen?, h.blk]
theorem step (h : PS w wr K x v ps) (hb : Below wr.heap.size wr w1) : PS w w1 K x v ps :=
  ⟨h.below.trans (hb.mono h.below.size), h.ge, (hb.block K h.lt).trans h.blk, pw_own_below h.own hb⟩
theorem ne (h : PS w wr K x v ps) : v.ownBlock ≠ some K := by
  intro hk
  obtain ⟨c, hc⟩ := own_typed h.own K hk
  rw [h.blk] at hc
  injection hc with hc
  injection hc with _ ht
  exact absurd ht (by decide)
theorem set (h : PS w wr K x v ps) (y : ByteArray) : PS w (wr.setCell ⟨K, 0, none⟩ (.string y)) K y v ps := by
  refine ⟨h.below.setCell h.ge _, h.ge, ?_, ?_⟩
  · simp [World.setCell, Array.getElem?_modify, h.blk]
  · refine own_move h.own (fun k hk => Below.heap_setCell wr _ _ k (fun e => h.ne (by rw [hk, e])))
end PS

theorem info36 : (Tryz.prog.info? 36).map (fun i => (i.zero, i.size, i.bytes)) = some (some (.agg #[.string ⟨#[]⟩, .string ⟨#[]⟩]), 2, 32) := by kernel_rfl

set_option maxHeartbeats 8000000 in
set_option maxRecDepth 1000000 in
theorem params_calls (l : List UInt8) (w : World) (hs : l.length ≤ 1000000) (hT : Tabs w) :
    Calls Tryz.prog 28 #[.string (sOf l)] w fun e w' => ∃ v, e = .returned v ∧ w'.ownsRow w.heap.size 36 2 v (paramsB l.length [] l).length (cellsP (paramsB l.length [] l)) ∧ Below w.heap.size w w' := by
  obtain ⟨R, hR⟩ : ∃ R, R = paramsB l.length [] l := ⟨_, rfl⟩
  rw [← hR]
  have HR := Lib.hid hR
  have HT := Lib.hid hT
  clear hR hT
  go_enter Tryz.func28, Tryz.ntmps28
  go_wp2
  go_loopg [0, 3] l.length (fun k s v wr => ∃ (l' : List UInt8) (ps : List Pm), s = .string (sOf l') ∧ Hid (l'.length ≤ k ∧ paramsB k ps l' = R) ∧ Below w.heap.size w wr ∧ Hid (wr.ownsRow w.heap.size 36 2 v ps.length (cellsP ps)) ∧ ps.length + l'.length ≤ l.length)
  case atStart => exact ⟨l, [], rfl, ⟨Nat.le_refl _, HR.out.symm⟩, Below.refl _ _, own_nil _ _ _ _, by simp⟩
  case round =>
    obtain ⟨l', ps, rfl, HP, hB, HO, hlen⟩ := hrel
    have hts := toList_sOf
    cases l' with
    | nil =>
      have hps : R = ps := by
        have := HP.out.2
        rw [← this]
        cases gk <;> rfl
      subst hps
      go_wp2
      go_ret
      exact ⟨_, rfl, HO.out, hB⟩
    | cons c0 t =>
      obtain ⟨k, rfl⟩ : ∃ k, gk = k + 1 := ⟨gk - 1, by have := HP.out.1; simp at this; omega⟩
      have hS1 : 1 ≤ (sOf (c0 :: t)).size := by rw [size_sOf]; simp
      have hS2 : (sOf (c0 :: t)).extract 1 (sOf (c0 :: t)).size = sOf t := by rw [← sOf_drop, data_sOf]; rfl
      have hS3 : (sOf (c0 :: t)).toList.isEmpty = false := by rw [toList_sOf]; rfl
      have hS4 : ¬ (sOf (c0 :: t)).toList = [] := by rw [toList_sOf]; simp
      have HS0 : Hid (PS w (wr.alloc (.cells #[.string ⟨#[]⟩] 9)) wr.heap.size ⟨#[]⟩ u3 ps) :=
        ⟨hB.alloc hB.size _, hB.size, heap_alloc_new wr _, HO.out.alloc _⟩
      have hl1 : t.length + 1 ≤ 1000000 := by simp at hlen; omega
      have hl2 := trimLeft_len t blanks
      have hl3 := cutA_len (Lib.trimLeftS t blanks) [59, 61]
      clear HO hB hts
      generalize sOf (c0 :: t) = S0 at *
      go_wp2_with fail
      refine (trimLeft_calls _ _).mono ?_
      rintro e w1 ⟨rfl, hb1⟩
      have HS1 := Lib.hid (HS0.out.step hb1)
      clear hb1 HS0 hS1 hS2 hS3 hS4
      rw [data_sOf]
      go_wp2_with fail
      have hcut := cut2_calls (sOf (Lib.trimLeftS t blanks)) ⟨#[59, 61]⟩ w1 (by rw [size_sOf]; omega) (by decide) semieq_ascii
      rw [data_sOf] at hcut
      refine Calls.mono hcut ?_
      clear hcut
      rintro e w2 ⟨rfl, hb2⟩
      have HS2 := Lib.hid (HS1.out.step hb2)
      clear hb2 HS1
      obtain ⟨n0, r0, hnr⟩ : ∃ n0 r0, cutA (Lib.trimLeftS t blanks) [59, 61] = (n0, r0) := ⟨_, _, rfl⟩
      have hl3' : n0.length ≤ t.length ∧ r0.length ≤ t.length := by rw [hnr] at hl3; simp only at hl3; omega
      have HNR := Lib.hid hnr
      rw [hnr]
      clear hnr hl3 hl2
      have hc2 := HS2.out.cell
      have hf2 := HS2.out.frozen
      go_wp2_with fail
      have HS3 := Lib.hid (HS2.out.set (sOf n0))
      clear HS2 hc2 hf2
      generalize w2.setCell ⟨wr.heap.size, 0, none⟩ (.string (sOf n0)) = w3 at HS3 ⊢
      have hlow := lower_calls (sOf n0) w3 (by rw [size_sOf]; omega)
      rw [data_sOf] at hlow
      refine Calls.mono hlow ?_
      clear hlow
      rintro e w4 ⟨rfl, hb4⟩
      have HS4 := Lib.hid (HS3.out.step hb4)
      clear hb4 HS3
      have hc4 := HS4.out.cell
      have hf4 := HS4.out.frozen
      go_wp2_with fail
      have HS5 := Lib.hid (HS4.out.set (sOf (low n0)))
      clear HS4 hc4 hf4
      generalize w4.setCell ⟨wr.heap.size, 0, none⟩ (.string (sOf (low n0))) = w5 at HS5 ⊢
      have hnl : (low n0).length ≤ t.length := by rw [low_len]; exact hl3'.1
      have HQ : Hid (paramsB (k + 1) ps (c0 :: t) = stepP k ps (low n0) r0) := by
        have e := paramsB_cons k ps c0 t
        rw [HNR.out] at e
        exact e
      clear HNR
      generalize low n0 = nm at HS5 hnl HQ ⊢
      refine (prefix_calls r0 61 w5).mono ?_
      rintro e w6 ⟨rfl, hb6⟩
      have HS6 := Lib.hid (HS5.out.step hb6)
      clear hb6 HS5
      by_cases h61 : ∃ r, ∃ c : UInt8, r0 = c :: r ∧ c.toNat = 61
      · obtain ⟨r, c, rfl, hc61⟩ := h61
        have hbt : headIs 61 (c :: r) = true := by
          have : c = 61 := UInt8.toNat_inj.1 hc61
          subst this
          rfl
        rw [hbt]
        clear hbt
        have HQ2 : Hid (paramsB (k + 1) ps (c0 :: t) = paramsB k (if (valueB r).2.2 && !ps.any (·.1 == nm) && isTok nm && quotB (valueB r).1 then ps ++ [(nm, (valueB r).1)] else ps) (valueB r).2.1) := by
          have := HQ.out
          rw [stepP_eq _ _ _ _ _ hc61] at this
          exact this
        clear HQ
        obtain ⟨A, cc, rfl, hcc, hrd⟩ := prd_of_own HS6.out.own
        clear hrd
        obtain ⟨v1, rest, ok, hv⟩ : ∃ v1 rest ok, valueB r = (v1, rest, ok) := ⟨_, _, _, rfl⟩
        have hvl := valueB_len r
        rw [hv] at hvl
        have hrl : r.length + 1 ≤ t.length := by have := hl3'.2; simp at this; omega
        have hval := value_calls (sOf r) w6 (by rw [size_sOf]; omega)
        rw [data_sOf, hv] at hval
        simp only at hval hvl
        have HQ3 : Hid (paramsB k (if ok && !ps.any (·.1 == nm) && isTok nm && quotB v1 then ps ++ [(nm, v1)] else ps) rest = R) := by
          have e := HQ2.out
          rw [hv] at e
          rw [← HP.out.2]
          exact e.symm
        clear HQ2 hv
        have hS1 : 1 ≤ (sOf (c :: r)).size := by rw [size_sOf]; simp
        have hS2 : (sOf (c :: r)).extract 1 (sOf (c :: r)).size = sOf r := by rw [← sOf_drop, data_sOf]; rfl
        generalize sOf (c :: r) = S1 at *
        have HV := Lib.hid hval
        clear hval
        have hmf : ∀ (fn : Fn) (first cap : Array Value) (w : World), (Instr.makeFunc fn first cap).run Tryz.prog w = .ok (.func fn first cap) w := fun _ _ _ _ => rfl
        go_wp2_with fail
        refine Calls.mono HV.out ?_
        clear HV
        rintro e w7 ⟨rfl, hb7⟩
        have HS7 := Lib.hid (HS6.out.step hb7)
        clear hb7 HS6 hS1 hS2
        go_wp2_with fail
        obtain ⟨A', cc', he, hcc', hrd⟩ := prd_of_own HS7.out.own
        injection he with he1 he2 he3
        subst he1 he3
        refine (contains_calls A cc ps w7 hrd 57 (.inl rfl) _ (fun x => x.1 == nm) (pred57 nm wr.heap.size w7 HS7.out.lt HS7.out.cell)).mono ?_
        clear hrd
        rintro e w8 ⟨rfl, hb8⟩
        have HS8 := Lib.hid (HS7.out.step hb8)
        clear hb8 HS7
        have hkb : rest.length ≤ k := by
          have := HP.out.1
          simp at this
          omega
        have hlb : ps.length + 1 + rest.length ≤ l.length := by
          simp at hlen
          omega
        have hc8 := HS8.out.cell
        have hT8 := Lib.hid (HT.out.below HS8.out.below)
        have CI := Lib.hid (fun w => is_calls (sOf nm) w (by rw [size_sOf]; omega))
        have CQ := Lib.hid (quotable_calls (sOf v1) w8 (by rw [size_sOf]; omega) hT8.out)
        rw [data_sOf] at CI CQ
        by_cases hall : ok = true ∧ ps.any (fun x => x.1 == nm) = false ∧ isTok nm = true ∧ quotB v1 = true
        · obtain ⟨h1, h2, h3, h4⟩ := hall
          rw [h2]
          rw [h1, h2, h3, h4] at HQ3
          rw [h3] at CI
          rw [h4] at CQ
          subst h1
          clear h2 h3 h4
          have HQ4 : Hid (paramsB k (ps ++ [(nm, v1)]) rest = R) := by
            have e := HQ3.out
            simp only [Bool.not_false, Bool.and_true, if_true] at e
            exact e
          clear HQ3
          go_wp2_with (first | (go_at_call 26; refine (CI.out _).mono ?_; rintro e w' ⟨rfl, rfl⟩))
          refine Calls.mono CQ.out ?_
          rintro e w9 ⟨rfl, hb9⟩
          have HS9 := Lib.hid (HS8.out.step hb9)
          clear hb9 HS8 hc8 CI CQ hT8
          have hc9 := HS9.out.cell
          obtain ⟨i0, hi, hz0, hz1, hz2⟩ := info_parts info36
          go_wp2_with (at_builtin; refine wpList_append_own _ rfl (.tmp 47) (.tmp 51) _ rfl w.heap.size 36 i0 _ 2 32 Tryz.underlying23 hi hz0 hz1 hz2 rfl (by omega) _ ps.length (cellsP ps) rfl (HS9.out.own.alloc _) ⟨w9.heap.size, 0, none⟩ 1 1 (encP (nm, v1)) rfl rfl ?c1 ?c2 ?c3 ?c4 ?c5 ?_)
          case c1 =>
            intro j u hj
            match j, hj with
            | 0, hj => simp [encP] at hj; subst hj; simp [Addr.add]
            | 1, hj => simp [encP] at hj; subst hj; simp [Addr.add]
          case c2 =>
            intro u hu
            simp [encP] at hu
            rcases hu with rfl | rfl <;> rfl
          case c3 => unfold maxLen; omega
          case c4 => omega
          case c5 => have := HS9.out.below.size; simp; omega
          · intro v' w10 hown hg _
            have hB10 : Below w.heap.size w w10 := (HS9.out.below.alloc HS9.out.below.size _).grown hg (by have := HS9.out.below.size; simp; omega) (own_base HS9.out.own)
            have hown2 : w10.ownsRow w.heap.size 36 2 v' (ps ++ [(nm, v1)]).length (cellsP (ps ++ [(nm, v1)])) := by
              rw [cellsP_snoc, List.length_append]
              exact hown
            have HOWN := Lib.hid hown2
            clear hown hown2 hg HS9 hc9 hz0 hz1 hz2 hi
            go_wp2
            go_roundg k
            case measure => omega
            case rel => exact ⟨rest, ps ++ [(nm, v1)], rfl, ⟨hkb, HQ4.out⟩, hB10, HOWN.out, by rw [List.length_append]; simp; omega⟩
        · have HQ4 : Hid (paramsB k ps rest = R) := by
            have e := HQ3.out
            rw [if_neg (by
              simp only [Bool.and_eq_true, Bool.not_eq_true']
              exact fun h => hall ⟨h.1.1.1, h.1.1.2, h.1.2, h.2⟩)] at e
            exact e
          clear HQ3 hmf
          have hl4 : ps.length + rest.length ≤ l.length := by omega
          cases ok with
          | false =>
            clear CI CQ hall
            go_wp2_with fail
            go_roundg k
            case measure => omega
            case rel => exact ⟨rest, ps, rfl, ⟨hkb, HQ4.out⟩, HS8.out.below, HS8.out.own, hl4⟩
          | true =>
            cases hany : ps.any (fun x => x.1 == nm) with
            | true =>
              clear CI CQ hall hany
              go_wp2_with fail
              go_roundg k
              case measure => omega
              case rel => exact ⟨rest, ps, rfl, ⟨hkb, HQ4.out⟩, HS8.out.below, HS8.out.own, hl4⟩
            | false =>
              cases htok : isTok nm with
              | false =>
                rw [htok] at CI
                clear CQ hall hany htok
                go_wp2_with (go_at_call 26; refine (CI.out _).mono ?_; rintro e w' ⟨rfl, rfl⟩)
                go_roundg k
                case measure => omega
                case rel => exact ⟨rest, ps, rfl, ⟨hkb, HQ4.out⟩, HS8.out.below, HS8.out.own, hl4⟩
              | true =>
                have hq : quotB v1 = false := by
                  cases h : quotB v1 with
                  | false => rfl
                  | true => exact absurd ⟨rfl, hany, htok, h⟩ hall
                rw [htok] at CI
                rw [hq] at CQ
                clear hall hany htok hq
                go_wp2_with (go_at_call 26; refine (CI.out _).mono ?_; rintro e w' ⟨rfl, rfl⟩)
                refine Calls.mono CQ.out ?_
                rintro e w9 ⟨rfl, hb9⟩
                have HS9 := Lib.hid (HS8.out.step hb9)
                clear hb9 HS8 hc8 CI CQ hT8
                go_wp2_with fail
                go_roundg k
                case measure => omega
                case rel => exact ⟨rest, ps, rfl, ⟨hkb, HQ4.out⟩, HS9.out.below, HS9.out.own, hl4⟩
      · have hbt : headIs 61 r0 = false := by
          cases r0 with
          | nil => rfl
          | cons c r =>
            have : ¬ c.toNat = 61 := fun h => h61 ⟨r, c, rfl, h⟩
            show (c == 61) = false
            rw [beq_eq_false_iff_ne]
            intro h
            exact this (by rw [h]; rfl)
        rw [hbt]
        clear hbt
        have HQ2 : Hid (paramsB k ps r0 = R) := by
          have := HQ.out
          rw [stepP_ne _ _ _ _ h61, HP.out.2] at this
          exact this.symm
        have hlk : r0.length ≤ k := by
          have := HP.out.1
          simp at this
          omega
        have hlen2 : ps.length + r0.length ≤ l.length := by
          simp at hlen
          omega
        clear HQ h61
        go_wp2_with fail
        go_roundg k
        case measure => omega
        case rel => exact ⟨r0, ps, rfl, ⟨hlk, HQ2.out⟩, HS6.out.below, HS6.out.own, hlen2⟩
end Go.Proofs.YtjmjmnagnbgmfaaGreatDoor
/- mime.Parse: a type. -/
namespace Go.Proofs.YtjmjmnagnbgmfaaGreatDoor
open Go.RowKit Go.Shelf Go.Lib Go.Proofs.YtjmjmnagnbgmfaaGreatDoorW.PrintWords PMimeReads

/-- A type: its two names, its parameters. -/
abbrev Mm := List UInt8 × List UInt8 × List Pm
/-- The two names as they stand, and what stands behind them, of a text; none: there is no type. -/
def namesB (l : List UInt8) : Option (List UInt8 × List UInt8 × List UInt8) :=
  let c := cutB (Lib.trimS l blanks) 47
  let d := cutA c.2.1 [59]
  if c.2.2 && isTok c.1 && isTok (Lib.trimRightS d.1 blanks) then some (c.1, Lib.trimRightS d.1 blanks, d.2) else none
/-- The type that a text is read as, and whether there is one. -/
def parseB (l : List UInt8) : Mm × Bool :=
  match namesB l with
  | none => (([], [], []), false)
  | some (k, s, r) => ((low k, low s, paramsB r.length [] r), true)

theorem trimS_len (l cs : List UInt8) : (Lib.trimS l cs).length ≤ l.length := by
  unfold Lib.trimS
  exact Nat.le_trans (trimLeft_len _ _) (trimRight_len _ _)
theorem cutB_len (l : List UInt8) (c : UInt8) : (cutB l c).1.length ≤ l.length ∧ (cutB l c).2.1.length ≤ l.length := by
  have h1 := (List.takeWhile_sublist (fun x : UInt8 => x != c) (l := l)).length_le
  have h2 := (List.dropWhile_sublist (fun x : UInt8 => x != c) (l := l)).length_le
  simp only [cutB, List.length_tail]
  omega

/-- A block of three cells in the world of a call. -/
structure MS (w wr : World) (M : Nat) (a b c : Value) : Prop where
  below : Below w.heap.size w wr
  ge : w.heap.size ≤ M
  blk : wr.heap[M]? = some (.cells #[a, b, c] 25 (0, 0))
namespace MS
variable {w wr w1 : World} {M : Nat} {a b c : Value}
theorem lt (h : MS w wr M a b c) : M < wr.heap.size := (Array.getElem?_eq_some_iff.1 h.blk).1
theorem c0 (h : MS w wr M a b c) : wr.cell? ⟨M, 0, none⟩ = some a := by simp [World.cell?, h.blk]
theorem c1 (h : MS w wr M a b c) : wr.cell? ⟨M, 1, none⟩ = some b := by simp [World.cell?, h.blk]
theorem c2 (h : MS w wr M a b c) : wr.cell? ⟨M, 2, none⟩ = some c := by simp [World.cell?, h.blk]
theorem frozen (h : MS w wr M a b c) (j : Nat) : wr.frozen? ⟨M, j, none⟩ = false := by simp [World.frozen?, h.blk]
theorem step (h : MS w wr M a b c) (hb : Below wr.heap.size wr w1) : MS w w1 M a b c := ⟨h.below.trans (hb.mono h.below.size), h.ge, (hb.block M h.lt).trans h.blk⟩
theorem set (h : MS w wr M a b c) (a' b' c' : Value) : MS w (((wr.setCell ⟨M, 0, none⟩ a').setCell ⟨M, 1, none⟩ b').setCell ⟨M, 2, none⟩ c') M a' b' c' := by
  refine ⟨((h.below.setCell h.ge _).setCell h.ge _).setCell h.ge _, h.ge, ?_⟩
  simp [World.setCell, Array.getElem?_modify, h.blk]
end MS

set_option maxHeartbeats 8000000 in
set_option maxRecDepth 1000000 in
theorem parse_calls (l : List UInt8) (w : World) (hs : l.length ≤ 1000000) (hT : Tabs w) :
    Calls Tryz.prog 10 #[.string (sOf l)] w fun e w' => ∃ v, e = .returned (.tuple #[.agg #[.string (sOf (parseB l).1.1), .string (sOf (parseB l).1.2.1), v], .bool (parseB l).2]) ∧ w'.ownsRow w.heap.size 36 2 v (parseB l).1.2.2.length (cellsP (parseB l).1.2.2) ∧ Below w.heap.size w w' := by
  obtain ⟨R, hR⟩ : ∃ R, R = parseB l := ⟨_, rfl⟩
  rw [← hR]
  have HR := Lib.hid hR
  have HT := Lib.hid hT
  clear hR hT
  have hl1 := trimS_len l blanks
  have HS0 : Hid (MS w (w.alloc (.cells #[.string ⟨#[]⟩, .string ⟨#[]⟩, .slice none 0 0] 25)) w.heap.size (.string ⟨#[]⟩) (.string ⟨#[]⟩) (.slice none 0 0)) :=
    ⟨(Below.refl _ w).alloc (Nat.le_refl _) _, Nat.le_refl _, heap_alloc_new w _⟩
  have htrim := Lib.hid (fun w => trim_calls (sOf l) w (by rw [size_sOf]; omega))
  rw [data_sOf] at htrim
  have HN : Hid (namesB l = (let c := cutB (Lib.trimS l blanks) 47; let d := cutA c.2.1 [59]; if c.2.2 && isTok c.1 && isTok (Lib.trimRightS d.1 blanks) then some (c.1, Lib.trimRightS d.1 blanks, d.2) else none)) := rfl
  generalize Lib.trimS l blanks = l1 at htrim HN hl1
  have hcut := Lib.hid (fun w => cut_calls (sOf l1) 47 w (by rw [size_sOf]; omega))
  rw [data_sOf] at hcut
  have hl2 := cutB_len l1 47
  obtain ⟨kind, rest, ok, hc⟩ : ∃ kind rest ok, cutB l1 47 = (kind, rest, ok) := ⟨_, _, _, rfl⟩
  rw [hc] at hcut hl2 HN
  simp only at hcut hl2
  clear hc
  have hcut2 := Lib.hid (fun w => cut2_calls (sOf rest) ⟨#[59]⟩ w (by rw [size_sOf]; omega) (by decide) semi_ascii)
  rw [data_sOf] at hcut2
  have hl3 := cutA_len rest [59]
  obtain ⟨sub0, rest2, hc⟩ : ∃ sub0 rest2, cutA rest [59] = (sub0, rest2) := ⟨_, _, rfl⟩
  change Hid (∀ w, Calls Tryz.prog 24 _ w fun e w' => e = .returned (.tuple #[.string (sOf (cutA rest [59]).1), .string (sOf (cutA rest [59]).2)]) ∧ _) at hcut2
  rw [hc] at hcut2 hl3
  simp only at hcut2 hl3
  have hright := Lib.hid (fun w => right_calls (sOf sub0) w (by rw [size_sOf]; omega))
  rw [data_sOf] at hright
  have hl4 := trimRight_len sub0 blanks
  have HN2 : Hid (namesB l = if ok && isTok kind && isTok (Lib.trimRightS sub0 blanks) then some (kind, Lib.trimRightS sub0 blanks, rest2) else none) := by
    have := HN.out
    simp only [hc] at this
    exact this
  clear HN hc
  generalize Lib.trimRightS sub0 blanks = sub at hright HN2 hl4
  go_enter Tryz.func10, Tryz.ntmps10
  go_wp2_with fail
  refine (htrim.out _).mono ?_
  rintro e w1 ⟨rfl, hb1⟩
  have HS1 := Lib.hid (HS0.out.step hb1)
  clear hb1 HS0 htrim
  go_wp2_with fail
  refine (hcut.out _).mono ?_
  rintro e w2 ⟨rfl, q2, rfl⟩
  have HS2 := Lib.hid (HS1.out.step (w1 := w1.drewN q2) (below_drewN (Below.refl _ _) q2))
  clear HS1 hcut
  generalize w1.drewN q2 = w2 at HS2 ⊢
  go_wp2_with fail
  refine (hcut2.out _).mono ?_
  rintro e w3 ⟨rfl, hb3⟩
  have HS3 := Lib.hid (HS2.out.step hb3)
  clear hb3 HS2 hcut2
  go_wp2_with fail
  refine (hright.out _).mono ?_
  rintro e w4 ⟨rfl, hb4⟩
  have HS4 := Lib.hid (HS3.out.step hb4)
  clear hb4 HS3 hright
  have CK := Lib.hid (fun w => is_calls (sOf kind) w (by rw [size_sOf]; omega))
  have CS := Lib.hid (fun w => is_calls (sOf sub) w (by rw [size_sOf]; omega))
  rw [data_sOf] at CK CS
  have z0 := HS4.out.c0
  have z1 := HS4.out.c1
  have z2 := HS4.out.c2
  have f0 := HS4.out.frozen 0
  have f1 := HS4.out.frozen 1
  have f2 := HS4.out.frozen 2
  by_cases hall : ok = true ∧ isTok kind = true ∧ isTok sub = true
  · obtain ⟨rfl, h2, h3⟩ := hall
    have hyes : namesB l = some (kind, sub, rest2) := by
      rw [HN2.out, h2, h3]
      rfl
    have HF : Hid (R = ((low kind, low sub, paramsB rest2.length [] rest2), true)) := by
      rw [HR.out]
      unfold parseB
      rw [hyes]
      exact rfl
    rw [h2] at CK
    rw [h3] at CS
    clear hyes h2 h3 z0 z1 z2 f0 f1 f2
    have LK := Lib.hid (fun w => lower_calls (sOf kind) w (by rw [size_sOf]; omega))
    have LS := Lib.hid (fun w => lower_calls (sOf sub) w (by rw [size_sOf]; omega))
    rw [data_sOf] at LK LS
    go_wp2_with fail
    refine (CK.out _).mono ?_
    rintro e w' ⟨rfl, rfl⟩
    go_wp2_with fail
    refine (CS.out _).mono ?_
    rintro e w' ⟨rfl, rfl⟩
    go_wp2_with fail
    refine (LK.out _).mono ?_
    rintro e w5 ⟨rfl, hb5⟩
    have HS5 := Lib.hid (HS4.out.step hb5)
    clear hb5 HS4 CK CS LK
    go_wp2_with fail
    refine (LS.out _).mono ?_
    rintro e w6 ⟨rfl, hb6⟩
    have HS6 := Lib.hid (HS5.out.step hb6)
    clear hb6 HS5 LS
    go_wp2_with fail
    refine (params_calls rest2 w6 (by omega) (HT.out.below HS6.out.below)).mono ?_
    rintro e w7 ⟨v, rfl, hown, hb7⟩
    have HS7 := Lib.hid (HS6.out.step hb7)
    have HO := Lib.hid hown
    obtain ⟨A, cc, rfl, _, _⟩ := prd_of_own hown
    have hge := HS6.out.below.size
    clear hb7 HS6 hown
    have z0 := HS7.out.c0
    have z1 := HS7.out.c1
    have z2 := HS7.out.c2
    have f0 := HS7.out.frozen 0
    have f1 := HS7.out.frozen 1
    have f2 := HS7.out.frozen 2
    go_wp2_with fail
    have S := HS7.out.set (.string (sOf (low kind))) (.string (sOf (low sub))) (.slice A (paramsB rest2.length [] rest2).length cc)
    have y0 := S.c0
    have y1 := S.c1
    have y2 := S.c2
    refine bodyPost_ret (v := .tuple #[.agg #[.string (sOf (low kind)), .string (sOf (low sub)), .slice A (paramsB rest2.length [] rest2).length cc], .bool true]) (by simp [results, Tryz.results10, go_sem, y0, y1, y2]) rfl ⟨_, by rw [HF.out], ?_, S.below⟩
    rw [HF.out]
    have hne : (Value.slice A (paramsB rest2.length [] rest2).length cc).ownBlock ≠ some w.heap.size := by
      intro hk
      obtain ⟨c, hc⟩ := own_typed HO.out _ hk
      rw [HS7.out.blk] at hc
      injection hc with hc
      injection hc with _ ht
      exact absurd ht (by decide)
    have hmove := own_move (w1 := ((w7.setCell ⟨w.heap.size, 0, none⟩ (.string (sOf (low kind)))).setCell ⟨w.heap.size, 1, none⟩ (.string (sOf (low sub)))).setCell ⟨w.heap.size, 2, none⟩ (.slice A (paramsB rest2.length [] rest2).length cc)) HO.out (fun k hk => by
      have hkk : k ≠ w.heap.size := fun e => hne (by rw [hk, e])
      rw [Below.heap_setCell _ _ _ k hkk, Below.heap_setCell _ _ _ k hkk, Below.heap_setCell _ _ _ k hkk])
    exact own_weaken hmove hge
  · have hno : namesB l = none := by
      rw [HN2.out, if_neg (by simp only [Bool.and_eq_true]; exact fun h => hall ⟨h.1.1, h.1.2, h.2⟩)]
    have HF : Hid (R = (([], [], []), false)) := by
      rw [HR.out]
      unfold parseB
      rw [hno]
      exact rfl
    clear hno
    cases ok with
    | false =>
      clear hall CK CS
      go_wp2_with fail
      have S := HS4.out.set (.string ⟨#[]⟩) (.string ⟨#[]⟩) (.slice none 0 0)
      have y0 := S.c0
      have y1 := S.c1
      have y2 := S.c2
      refine bodyPost_ret (v := .tuple #[.agg #[.string ⟨#[]⟩, .string ⟨#[]⟩, .slice none 0 0], .bool false]) (by simp [results, Tryz.results10, go_sem, y0, y1, y2]) rfl ⟨.slice none 0 0, by rw [HF.out]; rfl, by rw [HF.out]; exact own_nil _ _ _ _, S.below⟩
    | true =>
      cases hk : isTok kind with
      | false =>
        rw [hk] at CK
        clear hall CS hk
        go_wp2_with (go_at_call 26; with_reducible refine (CK.out _).mono ?_; rintro e w' ⟨rfl, rfl⟩)
        have S := HS4.out.set (.string ⟨#[]⟩) (.string ⟨#[]⟩) (.slice none 0 0)
        have y0 := S.c0
        have y1 := S.c1
        have y2 := S.c2
        refine bodyPost_ret (v := .tuple #[.agg #[.string ⟨#[]⟩, .string ⟨#[]⟩, .slice none 0 0], .bool false]) (by simp [results, Tryz.results10, go_sem, y0, y1, y2]) rfl ⟨.slice none 0 0, by rw [HF.out]; rfl, by rw [HF.out]; exact own_nil _ _ _ _, S.below⟩
      | true =>
        have hk2 : isTok sub = false := by
          cases h : isTok sub with
          | false => rfl
          | true => exact absurd ⟨rfl, hk, h⟩ hall
        rw [hk] at CK
        rw [hk2] at CS
        clear hall hk hk2
        go_wp2_with fail
        refine (CK.out _).mono ?_
        rintro e w' ⟨rfl, rfl⟩
        go_wp2_with fail
        refine (CS.out _).mono ?_
        rintro e w' ⟨rfl, rfl⟩
        go_wp2_with fail
        have S := HS4.out.set (.string ⟨#[]⟩) (.string ⟨#[]⟩) (.slice none 0 0)
        have y0 := S.c0
        have y1 := S.c1
        have y2 := S.c2
        refine bodyPost_ret (v := .tuple #[.agg #[.string ⟨#[]⟩, .string ⟨#[]⟩, .slice none 0 0], .bool false]) (by simp [results, Tryz.results10, go_sem, y0, y1, y2]) rfl ⟨.slice none 0 0, by rw [HF.out]; rfl, by rw [HF.out]; exact own_nil _ _ _ _, S.below⟩
end Go.Proofs.YtjmjmnagnbgmfaaGreatDoor
/- mime.Right: whether a type may be read so. -/
namespace Go.Proofs.YtjmjmnagnbgmfaaGreatDoor
open Go.RowKit Go.Shelf Go.Lib Go.Proofs.YtjmjmnagnbgmfaaGreatDoorW.PrintWords PMimeReads

/-- Are these parameters right, behind those? -/
def goodP : List Pm → List Pm → Bool
  | _, [] => true
  | pre, p :: t => !pre.any (·.1 == p.1) && smallB p.1 && quotB p.2 && goodP (pre ++ [p]) t
/-- May a type be read so? -/
def rightB (m : Mm) : Bool := goodP [] m.2.2 && smallB m.1 && smallB m.2.1

/-- All names and values are of modest size. -/
def Mod (ps : List Pm) : Prop := ∀ p ∈ ps, p.1.length ≤ 1000000 ∧ p.2.length ≤ 1000000

theorem PRd.take {w : World} {A : Option Addr} {ps : List Pm} (h : PRd w A ps) (k : Nat) : PRd w A (ps.take k) := by
  have hl : (ps.take k).length ≤ ps.length := List.length_take_le' _ _
  refine ⟨by have := h.1; omega, fun hn => ?_⟩
  obtain ⟨b, off, rfl, hlt, hc⟩ := h.2 (by omega)
  refine ⟨b, off, rfl, hlt, fun j p hj i u hu => hc j p ?_ i u hu⟩
  rw [List.getElem?_take] at hj
  split at hj
  · exact hj
  · cases hj

theorem slice_to (A : Option Addr) (n c k : Nat) (hk : k ≤ c) (W : World) : (Instr.slice 23 (.slice A n c) none (some (.int .i64 k)) none).run Tryz.prog W = .ok (.slice A k c) W := by
  have he : Tryz.prog.elem 23 = 36 := by kernel_rfl
  rw [run_slice_h W 23 A n c (by rw [he]; exact Tryz.underlying23) .i64 k (by omega) (by omega), he, Tryz.sizeOf36]
  simp only [Result.andThen, sliced, Int.toNat_natCast, Nat.sub_zero, Nat.zero_mul]
  split
  · rfl
  · cases A with
    | none => rfl
    | some a => simp [Addr.add]

set_option maxHeartbeats 8000000 in
set_option maxRecDepth 1000000 in
theorem right13_calls (a b : List UInt8) (A : Option Addr) (c : Nat) (ps : List Pm) (w : World) (ha : a.length ≤ 1000000) (hb : b.length ≤ 1000000) (hm : Mod ps) (hc : ps.length ≤ c) (hr : PRd w A ps) (hn : ps.length ≤ 140737488351232) (hT : Tabs w) :
    Calls Tryz.prog 13 #[.agg #[.string (sOf a), .string (sOf b), .slice A ps.length c]] w fun e w' => e = .returned (.bool (rightB (a, b, ps))) ∧ Below w.heap.size w w' := by
  obtain ⟨R, hR⟩ : ∃ R, R = rightB (a, b, ps) := ⟨_, rfl⟩
  rw [← hR]
  have HR := Lib.hid hR
  have HT := Lib.hid hT
  have HM := Lib.hid hm
  have HP := Lib.hid hr
  clear hR hT hm hr
  have HS0 : Hid (MS w (w.alloc (.cells #[.string (sOf a), .string (sOf b), .slice A ps.length c] 25)) w.heap.size (.string (sOf a)) (.string (sOf b)) (.slice A ps.length c)) :=
    ⟨(Below.refl _ w).alloc (Nat.le_refl _) _, Nat.le_refl _, heap_alloc_new w _⟩
  go_enter Tryz.func13, Tryz.ntmps13
  go_wp2
  go_loopg [9] ps.length (fun g i wr => ∃ k : Nat, ps.length - k = g ∧ k ≤ ps.length ∧ i = .int .i64 k ∧ Hid (MS w wr w.heap.size (.string (sOf a)) (.string (sOf b)) (.slice A ps.length c)) ∧ Hid (goodP (ps.take k) (ps.drop k) = goodP [] ps))
  case atStart => exact ⟨0, by omega, by omega, rfl, HS0, rfl⟩
  case round =>
    obtain ⟨k, rfl, hk, rfl, HS, HG⟩ := hrel
    clear HS0
    have c0 := HS.out.c0
    have c1 := HS.out.c1
    have c2 := HS.out.c2
    by_cases hlt : k < ps.length
    · obtain ⟨nm, v, hp⟩ : ∃ nm v, ps[k]'hlt = (nm, v) := ⟨_, _, rfl⟩
      have hpk : ps[k]? = some (nm, v) := by rw [List.getElem?_eq_getElem hlt, hp]
      have hmod := HM.out (nm, v) (List.mem_of_getElem? hpk)
      simp only at hmod
      obtain ⟨bl, off, rfl, hbl, hcells⟩ := (HP.out.below HS.out.below).2 (by omega)
      have d0 := hcells k (nm, v) hpk 0 _ rfl
      have d1 := hcells k (nm, v) hpk 1 _ rfl
      rw [Nat.add_zero] at d0
      have HGS : Hid (goodP (ps.take k) (ps.drop k) = (!(ps.take k).any (·.1 == nm) && smallB nm && quotB v && goodP (ps.take (k + 1)) (ps.drop (k + 1)))) := by
        rw [List.drop_eq_getElem_cons hlt, hp, List.take_succ_eq_append_getElem hlt, hp]
        exact rfl
      have hsl := fun W => slice_to (some ⟨bl, off, none⟩) ps.length c k (by omega) W
      have hmf : ∀ (fn : Fn) (first cap : Array Value) (w : World), (Instr.makeFunc fn first cap).run Tryz.prog w = .ok (.func fn first cap) w := fun _ _ _ _ => rfl
      clear hcells hp
      have hMlt := HS.out.lt
      have e2 : ∀ O : Obj, (wr.alloc O).cell? ⟨w.heap.size, 2, none⟩ = some (.slice (some ⟨bl, off, none⟩) ps.length c) := fun O => (World.cell?_alloc_lt wr O _ hMlt).trans c2
      -- behind the parameter's own block
      have HS1 : Hid (MS w (wr.alloc (.cells #[.string (sOf nm), .string (sOf v)] 36)) w.heap.size (.string (sOf a)) (.string (sOf b)) (.slice (some ⟨bl, off, none⟩) ps.length c)) := HS.out.step ((Below.refl _ wr).alloc (Nat.le_refl _) _)
      have HBK : Hid ((wr.alloc (.cells #[.string (sOf nm), .string (sOf v)] 36)).heap[wr.heap.size]? = some (.cells #[.string (sOf nm), .string (sOf v)] 36 (0, 0))) := heap_alloc_new wr _
      have CC := Lib.hid (contains_calls (some ⟨bl, off, none⟩) c (ps.take k) _ ((HP.out.below HS1.out.below).take k) 38 (.inr rfl) #[.pointer (some ⟨wr.heap.size, 0, none⟩)] (fun x => x.1 == nm) (pred38 nm wr.heap.size _ (by simp) (by simp)))
      rw [List.length_take_of_le hk] at CC
      have CN := Lib.hid (fun w => small_calls (sOf nm) w (by rw [size_sOf]; omega))
      have CQ := Lib.hid (fun w hT => quotable_calls (sOf v) w (by rw [size_sOf]; omega) hT)
      rw [data_sOf] at CN CQ
      go_wp2_with fail
      refine Calls.mono CC.out ?_
      rintro e w2 ⟨rfl, hb2⟩
      have HS2 := Lib.hid (HS1.out.step hb2)
      have HBK2 : Hid (w2.heap[wr.heap.size]? = some (.cells #[.string (sOf nm), .string (sOf v)] 36 (0, 0))) := (hb2.block _ (by simp)).trans HBK.out
      clear hb2 HS1 HBK CC d0 d1 e2 hsl hmf c0 c1 c2 HS
      have p0 : w2.cell? ⟨wr.heap.size, 0, none⟩ = some (.string (sOf nm)) := by simp [World.cell?, HBK2.out]
      have p1 : w2.cell? ⟨wr.heap.size, 1, none⟩ = some (.string (sOf v)) := by simp [World.cell?, HBK2.out]
      have hpl : wr.heap.size < w2.heap.size := (Array.getElem?_eq_some_iff.1 HBK2.out).1
      have HRF : Hid (goodP [] ps = false → R = false) := fun h => by
        rw [HR.out]
        simp only [rightB, h, Bool.false_and]
      cases ht : (ps.take k).any (fun x => x.1 == nm) with
      | true =>
        have HF : Hid (R = false) := HRF.out (by rw [← HG.out, HGS.out, ht]; exact rfl)
        clear ht
        go_wp2_with fail
        go_ret
        exact ⟨by rw [HF.out]; rfl, HS2.out.below⟩
      | false =>
        cases hsm : smallB nm with
        | false =>
          have HF : Hid (R = false) := HRF.out (by rw [← HG.out, HGS.out, ht, hsm]; exact rfl)
          rw [hsm] at CN
          clear ht hsm
          go_wp2_with fail
          refine (CN.out _).mono ?_
          rintro e w3 ⟨rfl, hb3⟩
          have HS3 := Lib.hid (HS2.out.step hb3)
          clear hb3
          go_wp2_with fail
          go_ret
          exact ⟨by rw [HF.out]; rfl, HS3.out.below⟩
        | true =>
          rw [hsm] at CN
          cases hq : quotB v with
          | false =>
            have HF : Hid (R = false) := HRF.out (by rw [← HG.out, HGS.out, ht, hsm, hq]; exact rfl)
            rw [hq] at CQ
            clear ht hsm hq
            go_wp2_with fail
            refine (CN.out _).mono ?_
            rintro e w3 ⟨rfl, hb3⟩
            have HS3 := Lib.hid (HS2.out.step hb3)
            have p1' : w3.cell? ⟨wr.heap.size, 1, none⟩ = some (.string (sOf v)) := (hb3.cell (p := ⟨wr.heap.size, 1, none⟩) hpl).trans p1
            clear hb3 p0 p1
            go_wp2_with fail
            refine (CQ.out _ (HT.out.below HS3.out.below)).mono ?_
            rintro e w4 ⟨rfl, hb4⟩
            have HS4 := Lib.hid (HS3.out.step hb4)
            clear hb4
            go_wp2_with fail
            go_ret
            exact ⟨by rw [HF.out]; rfl, HS4.out.below⟩
          | true =>
            have HG2 : Hid (goodP (ps.take (k + 1)) (ps.drop (k + 1)) = goodP [] ps) := by
              have e := HGS.out
              rw [ht, hsm, hq, HG.out] at e
              exact e.symm
            rw [hq] at CQ
            clear ht hsm hq HGS
            go_wp2_with fail
            refine (CN.out _).mono ?_
            rintro e w3 ⟨rfl, hb3⟩
            have HS3 := Lib.hid (HS2.out.step hb3)
            have p1' : w3.cell? ⟨wr.heap.size, 1, none⟩ = some (.string (sOf v)) := (hb3.cell (p := ⟨wr.heap.size, 1, none⟩) hpl).trans p1
            clear hb3 p0 p1
            go_wp2_with fail
            refine (CQ.out _ (HT.out.below HS3.out.below)).mono ?_
            rintro e w4 ⟨rfl, hb4⟩
            have HS4 := Lib.hid (HS3.out.step hb4)
            clear hb4
            go_wp2_with fail
            go_roundg (ps.length - (k + 1))
            case measure => omega
            case rel => exact ⟨k + 1, rfl, by omega, by go_num, HS4, HG2⟩
    · obtain rfl : k = ps.length := by omega
      have hgood : goodP [] ps = true := by
        rw [← HG.out, List.drop_eq_nil_of_le (Nat.le_refl _)]
        rfl
      have HF : Hid (R = (smallB a && smallB b)) := by
        have e : R = (goodP [] ps && smallB a && smallB b) := HR.out
        rw [hgood, Bool.true_and] at e
        exact e
      have CA := Lib.hid (fun w => small_calls (sOf a) w (by rw [size_sOf]; omega))
      have CB := Lib.hid (fun w => small_calls (sOf b) w (by rw [size_sOf]; omega))
      rw [data_sOf] at CA CB
      clear hgood
      cases h1 : smallB a with
      | false =>
        rw [h1] at CA HF
        clear h1
        go_wp2_with fail
        refine (CA.out _).mono ?_
        rintro e w3 ⟨rfl, hb3⟩
        have HS3 := Lib.hid (HS.out.step hb3)
        clear hb3
        go_wp2_with fail
        go_ret
        exact ⟨by rw [HF.out]; rfl, HS3.out.below⟩
      | true =>
        rw [h1] at CA HF
        clear h1
        go_wp2_with fail
        refine (CA.out _).mono ?_
        rintro e w3 ⟨rfl, hb3⟩
        have HS3 := Lib.hid (HS.out.step hb3)
        have c1' := HS3.out.c1
        clear hb3 HS c0 c1 c2
        go_wp2_with fail
        refine (CB.out _).mono ?_
        rintro e w4 ⟨rfl, hb4⟩
        have HS4 := Lib.hid (HS3.out.step hb4)
        clear hb4
        go_wp2_with fail
        go_ret
        exact ⟨by rw [HF.out]; rfl, HS4.out.below⟩
end Go.Proofs.YtjmjmnagnbgmfaaGreatDoor
