import Derived.Test.YtjmjmnagnbgmfaaGreatDoorTie
import Derived.Test.YtjmjmnagnbgmfaaGreatDoorCards
import Derived.Test.YtjmjmnagnbgmfaaGreatDoorS5
import Derived.Lib.LaidU8T
import Derived.ProofKit
import Derived.OpenShut
import Derived.LaidMore
import Derived.Lay
import Derived.SevenTiedAt
import Derived.Stop.Joined
import Derived.SizedLaws
/-! What the rows' listed variables give. -/
namespace Go.Proofs.YtjmjmnagnbgmfaaGreatDoor
open Go.ChangeShapes Go.WideShapes Go.ChangeAt Go.RowKit Go.Lib Go.Shelf
set_option maxRecDepth 100000
theorem ownK : ownKnob Tryz.prog.godebug = none := by kernel_rfl

def laidL : List (String × DataW Unit) := [("unicode/utf8.acceptRanges", Rows.laid_unicode_utf8_acceptRanges), ("unicode/utf8.first", Rows.laid_unicode_utf8_first)]
theorem accept_eq : (Rows.laid_unicode_utf8_acceptRanges : DataW Unit) = Lib.acceptData := by kernel_rfl
theorem first_eq : Rows.laid_unicode_utf8_first = Lib.firstData := by kernel_rfl

def u8_ren : Go.Shelf.Ren := ⟨fun n => n, fun n => match n with | 5 => 5 | 119 => 112 | 138 => 114 | 139 => 115 | n => n, fun n => match n with | 3 => 1 | 4 => 2 | n => n⟩
theorem u8_types : U8Types Tryz.prog u8_ren := ⟨Tryz.underlying5, Tryz.underlying112, Tryz.underlying114, Tryz.underlying115⟩
theorem u8_extra : U8Extra Tryz.prog u8_ren := ⟨by kernel_rfl, by kernel_rfl, by kernel_rfl, by kernel_rfl, by kernel_rfl, by kernel_rfl, by kernel_rfl⟩

theorem tabs_of_laid {W : World} (h : laidMetH Tryz.prog laidL W) : Tabs W := by
  rw [MakeChecks.laidMetH_plain _ _ _ (by kernel_rfl)] at h
  have h3 : VarReads Tryz.prog W "unicode/utf8.first" Lib.firstData := first_eq ▸ Lib.laidMet.reads h (.tail _ (.head _))
  have h4 : VarReads Tryz.prog W "unicode/utf8.acceptRanges" Lib.acceptData := accept_eq ▸ Lib.laidMet.reads h (.head _)
  have t := utf8Tabs_of_readsT u8_types u8_extra h3 h4
  exact ⟨t.1 194 (by omega), t.1 195 (by omega), (t.2 0 (by omega)).1, (t.2 0 (by omega)).2⟩
theorem u8_range {x : Int} (h : (Lit.int .u8 x).wf = true) : 0 ≤ x ∧ x < 256 := by
  simp only [Lit.wf, Bool.and_eq_true, decide_eq_true_eq] at h
  have h1 : IntKind.min .u8 = 0 := by decide
  have h2 : IntKind.max .u8 = 255 := by decide
  rw [h1, h2] at h
  omega
end Go.Proofs.YtjmjmnagnbgmfaaGreatDoor
