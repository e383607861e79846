/-
  DERIVED. GIVEN WITH THE SEED: THE CARDS: each row of YtjmjmnagnbgmfaaGreatDoorRows.lean that lists a variable, with what it lists TIED to the program's text (the seventh form; the later family's looks); each row that meets fmt, with fmt's text TOLD by the authors' own Lean function (tested against real Go, not proved from fmt's source: count such statements apart). THE CARD IS WHAT COUNTS. Prove the row's statement (the work); the ties are given (YtjmjmnagnbgmfaaGreatDoorTie.lean); close each card by the builder's one call (the guide's Derived/Test/ToyasCard.lean, 'card_holds'). Laid BY PROGRAM, IN A SANDBOX (cutbox-door.mjs). By AI agents, Wed Nov 11 2026. No macro, syntax, notation, axiom, sorry.
-/
import Derived.Test.YtjmjmnagnbgmfaaGreatDoorRows
import GoSem.ClaimSeven
namespace Go.Proofs.YtjmjmnagnbgmfaaGreatDoor
namespace Rows

/-- THE TIED CARD OF 'carryalllaw05.MimeReads'. -/
def mimeReadsCard : Claim7 := { stood := { row := mimeReadsRow, standIns := [], harness := (true, "85f08a76aa93d940b5dd81f769d136397adb0f19824fd658a50d453e4153c234"), looks := true }, kinds := [], alts := [], laidByText := true, laidKinds := [.data, .pinned], laidTests := true, laidLooks := .later }
def MimeReadsCardSaid : Prop := Claim7.holds Tryz.pinned (.plain (OpenSpec.ofChange mimeReadsSpec)) mimeReadsCard

/-- THE TIED CARD OF 'carryalllaw05.MimeBack'. -/
def mimeBackCard : Claim7 := { stood := { row := mimeBackRow, standIns := [], harness := (true, "85f08a76aa93d940b5dd81f769d136397adb0f19824fd658a50d453e4153c234"), looks := true }, kinds := [], alts := [], laidByText := true, laidKinds := [.data, .pinned], laidTests := true, laidLooks := .later }
def MimeBackCardSaid : Prop := Claim7.holds Tryz.pinned (.plain (OpenSpec.ofChange mimeBackSpec)) mimeBackCard

/-- THE TIED CARD OF 'carryalllaw05.MimeSame'. -/
def mimeSameCard : Claim7 := { stood := { row := mimeSameRow, standIns := [], harness := (true, "85f08a76aa93d940b5dd81f769d136397adb0f19824fd658a50d453e4153c234"), looks := true }, kinds := [], alts := [], laidByText := true, laidKinds := [.data, .pinned], laidTests := true, laidLooks := .later }
def MimeSameCardSaid : Prop := Claim7.holds Tryz.pinned (.plain (OpenSpec.ofChange mimeSameSpec)) mimeSameCard

/-- THE TIED CARD OF 'carryalllaw05.MimeBlanks'. -/
def mimeBlanksCard : Claim7 := { stood := { row := mimeBlanksRow, standIns := [], harness := (true, "85f08a76aa93d940b5dd81f769d136397adb0f19824fd658a50d453e4153c234"), looks := true }, kinds := [], alts := [], laidByText := true, laidKinds := [.data, .pinned], laidTests := true, laidLooks := .later }
def MimeBlanksCardSaid : Prop := Claim7.holds Tryz.pinned (.plain (OpenSpec.ofChange mimeBlanksSpec)) mimeBlanksCard

/-- THE TIED CARD OF 'carryalllaw05.MimeTwice'. -/
def mimeTwiceCard : Claim7 := { stood := { row := mimeTwiceRow, standIns := [], harness := (true, "85f08a76aa93d940b5dd81f769d136397adb0f19824fd658a50d453e4153c234"), looks := true }, kinds := [], alts := [], laidByText := true, laidKinds := [.data, .pinned], laidTests := true, laidLooks := .later }
def MimeTwiceCardSaid : Prop := Claim7.holds Tryz.pinned (.plain (OpenSpec.ofChange mimeTwiceSpec)) mimeTwiceCard

/-- THE TIED CARD OF 'carryalllaw05.MimeTells'. -/
def mimeTellsCard : Claim7 := { stood := { row := mimeTellsRow, standIns := [], harness := (true, "85f08a76aa93d940b5dd81f769d136397adb0f19824fd658a50d453e4153c234"), looks := true }, kinds := [], alts := [], laidByText := true, laidKinds := [.data, .pinned], laidTests := true, laidLooks := .later }
def MimeTellsCardSaid : Prop := Claim7.holds Tryz.pinned (.plain (OpenSpec.ofChange mimeTellsSpec)) mimeTellsCard

/-- THE SECOND FORM's CARD OF 'carryalllaw05.MimeReads'. -/
def mimeReadsUptoCard : Claim7 := { stood := { row := mimeReadsUptoRow, standIns := [], harness := (true, "85f08a76aa93d940b5dd81f769d136397adb0f19824fd658a50d453e4153c234"), looks := true }, kinds := [], alts := [], laidByText := true, laidKinds := [.data, .pinned], laidTests := true, laidLooks := .later }
def MimeReadsUptoCardSaid : Prop := Claim7.holds Tryz.pinned (.plain (OpenSpec.upto mimeReadsSpec)) mimeReadsUptoCard

/-- THE SECOND FORM's CARD OF 'carryalllaw05.MimeBack'. -/
def mimeBackUptoCard : Claim7 := { stood := { row := mimeBackUptoRow, standIns := [], harness := (true, "85f08a76aa93d940b5dd81f769d136397adb0f19824fd658a50d453e4153c234"), looks := true }, kinds := [], alts := [], laidByText := true, laidKinds := [.data, .pinned], laidTests := true, laidLooks := .later }
def MimeBackUptoCardSaid : Prop := Claim7.holds Tryz.pinned (.plain (OpenSpec.upto mimeBackSpec)) mimeBackUptoCard

/-- THE SECOND FORM's CARD OF 'carryalllaw05.MimeSame'. -/
def mimeSameUptoCard : Claim7 := { stood := { row := mimeSameUptoRow, standIns := [], harness := (true, "85f08a76aa93d940b5dd81f769d136397adb0f19824fd658a50d453e4153c234"), looks := true }, kinds := [], alts := [], laidByText := true, laidKinds := [.data, .pinned], laidTests := true, laidLooks := .later }
def MimeSameUptoCardSaid : Prop := Claim7.holds Tryz.pinned (.plain (OpenSpec.upto mimeSameSpec)) mimeSameUptoCard

/-- THE SECOND FORM's CARD OF 'carryalllaw05.MimeBlanks'. -/
def mimeBlanksUptoCard : Claim7 := { stood := { row := mimeBlanksUptoRow, standIns := [], harness := (true, "85f08a76aa93d940b5dd81f769d136397adb0f19824fd658a50d453e4153c234"), looks := true }, kinds := [], alts := [], laidByText := true, laidKinds := [.data, .pinned], laidTests := true, laidLooks := .later }
def MimeBlanksUptoCardSaid : Prop := Claim7.holds Tryz.pinned (.plain (OpenSpec.upto mimeBlanksSpec)) mimeBlanksUptoCard

/-- THE SECOND FORM's CARD OF 'carryalllaw05.MimeTwice'. -/
def mimeTwiceUptoCard : Claim7 := { stood := { row := mimeTwiceUptoRow, standIns := [], harness := (true, "85f08a76aa93d940b5dd81f769d136397adb0f19824fd658a50d453e4153c234"), looks := true }, kinds := [], alts := [], laidByText := true, laidKinds := [.data, .pinned], laidTests := true, laidLooks := .later }
def MimeTwiceUptoCardSaid : Prop := Claim7.holds Tryz.pinned (.plain (OpenSpec.upto mimeTwiceSpec)) mimeTwiceUptoCard

/-- THE SECOND FORM's CARD OF 'carryalllaw05.MimeTells'. -/
def mimeTellsUptoCard : Claim7 := { stood := { row := mimeTellsUptoRow, standIns := [], harness := (true, "85f08a76aa93d940b5dd81f769d136397adb0f19824fd658a50d453e4153c234"), looks := true }, kinds := [], alts := [], laidByText := true, laidKinds := [.data, .pinned], laidTests := true, laidLooks := .later }
def MimeTellsUptoCardSaid : Prop := Claim7.holds Tryz.pinned (.plain (OpenSpec.upto mimeTellsSpec)) mimeTellsUptoCard
end Rows
end Go.Proofs.YtjmjmnagnbgmfaaGreatDoor
