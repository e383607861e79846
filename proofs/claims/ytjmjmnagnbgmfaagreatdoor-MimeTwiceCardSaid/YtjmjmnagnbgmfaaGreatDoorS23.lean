import Derived.Test.YtjmjmnagnbgmfaaGreatDoorS21
import Derived.Test.YtjmjmnagnbgmfaaGreatDoorS22
/-! awake. -/
namespace Go.Proofs.YtjmjmnagnbgmfaaGreatDoor
open Go.RowKit Go.Shelf Go.Lib

def awakeL : List UInt8 := [32, 84, 101, 120, 116, 47, 72, 84, 77, 76, 32, 59, 32, 67, 104, 97, 114, 115, 101, 116, 61, 34, 97, 32, 98, 34, 59, 99, 104, 97, 114, 115, 101, 116, 61, 99]
def awakeM : Mm := ([116, 101, 120, 116], [104, 116, 109, 108], [([99, 104, 97, 114, 115, 101, 116], [97, 32, 98])])
def awakeP : List UInt8 := [116, 101, 120, 116, 47, 104, 116, 109, 108, 59, 99, 104, 97, 114, 115, 101, 116, 61, 34, 97, 32, 98, 34]
theorem awake_parse : parseB awakeL = (awakeM, true) := by kernel_rfl
theorem awake_print : printB awakeM = awakeP := by kernel_rfl
theorem awake_right : rightB awakeM = true := by kernel_rfl

set_option maxHeartbeats 8000000 in
set_option maxRecDepth 1000000 in
theorem awake_calls (w : World) (hT : Tabs w) :
    Calls Tryz.prog 9 #[] w fun e w' => e = .returned (.bool true) ∧ Below w.heap.size w w' := by
  have HT := Lib.hid hT
  have CP := parse_calls awakeL w (by decide) hT
  rw [awake_parse] at CP
  have CP' : Calls Tryz.prog 10 #[.string ⟨#[32, 84, 101, 120, 116, 47, 72, 84, 77, 76, 32, 59, 32, 67, 104, 97, 114, 115, 101, 116, 61, 34, 97, 32, 98, 34, 59, 99, 104, 97, 114, 115, 101, 116, 61, 99]⟩] w fun e w' => ∃ v, e = .returned (.tuple #[.agg #[.string (sOf awakeM.1), .string (sOf awakeM.2.1), v], .bool true]) ∧ w'.ownsRow w.heap.size 36 2 v awakeM.2.2.length (cellsP awakeM.2.2) ∧ Below w.heap.size w w' := CP
  have HC := Lib.hid CP'
  clear CP CP' hT
  have HPR := Lib.hid awake_print
  have HRT := Lib.hid awake_right
  have hm1 : awakeM.1.length ≤ 1000000 := by decide
  have hm2 : awakeM.2.1.length ≤ 1000000 := by decide
  have hm4 : awakeM.2.2.length ≤ 1000000 := by decide
  have hm3 : Hid (Mod awakeM.2.2) := by
    intro p hp
    simp [awakeM] at hp
    subst hp
    decide
  generalize awakeM = M at *
  obtain ⟨a, b, ps⟩ := M
  simp only at hm1 hm2 hm3 hm4 HC
  go_enter Tryz.func9, Tryz.ntmps9
  go_wp2_with fail
  refine Calls.mono HC.out ?_
  rintro e w1 ⟨v, rfl, hown, hb1⟩
  obtain ⟨A, c, rfl, hc, hrd⟩ := prd_of_own hown
  clear hown HC
  have hA : Below w1.heap.size w1 (w1.alloc (.cells #[.string (sOf a), .string (sOf b), .slice A ps.length c] 25)) := (Below.refl _ w1).alloc (Nat.le_refl _) _
  have HM1 : Hid (MS w (w1.alloc (.cells #[.string (sOf a), .string (sOf b), .slice A ps.length c] 25)) w1.heap.size (.string (sOf a)) (.string (sOf b)) (.slice A ps.length c)) :=
    ⟨hb1.alloc hb1.size _, hb1.size, heap_alloc_new w1 _⟩
  have HR1 := Lib.hid (hrd.below hA)
  clear hA hrd hb1
  go_wp2_with fail
  have CPr := print_calls a b A c ps _ hm1 hm2 hm3.out HR1.out hm4
  rw [HPR.out] at CPr
  refine Calls.mono CPr ?_
  clear CPr
  rintro e w2 ⟨he, hb2⟩
  have he' : e = .returned (.string ⟨#[116, 101, 120, 116, 47, 104, 116, 109, 108, 59, 99, 104, 97, 114, 115, 101, 116, 61, 34, 97, 32, 98, 34]⟩) := he
  subst he'
  clear he
  have HM2 := Lib.hid (HM1.out.step hb2)
  have HR2 := Lib.hid (HR1.out.below hb2)
  clear hb2 HM1 HR1
  have c0 := HM2.out.c0
  have c1 := HM2.out.c1
  have c2 := HM2.out.c2
  go_wp2_with fail
  have CR := right13_calls a b A c ps w2 hm1 hm2 hm3.out hc HR2.out (by omega) (HT.out.below HM2.out.below)
  rw [HRT.out] at CR
  refine Calls.mono CR ?_
  clear CR
  rintro e w3 ⟨rfl, hb3⟩
  have HM3 := Lib.hid (HM2.out.step hb3)
  have HR3 := Lib.hid (HR2.out.below hb3)
  clear hb3 HM2 HR2 c0 c1 c2
  have c0 := HM3.out.c0
  have c1 := HM3.out.c1
  have c2 := HM3.out.c2
  go_wp2_with fail
  have CS := same_calls (a, b, ps) (a, b, ps) A A c c w3 HR3.out hc HR3.out hc
  rw [decide_eq_true rfl] at CS
  refine Calls.mono CS ?_
  clear CS
  rintro e w4 ⟨rfl, hb4⟩
  have HM4 := Lib.hid (HM3.out.step hb4)
  clear hb4
  go_wp2_with fail
  go_ret
  exact ⟨rfl, HM4.out.below⟩
end Go.Proofs.YtjmjmnagnbgmfaaGreatDoor
