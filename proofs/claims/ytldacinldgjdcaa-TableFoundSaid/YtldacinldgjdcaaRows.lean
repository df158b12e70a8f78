/-
  No cell of these rows narrows 'for every input' (looked for: loops, veiled, ifaces, maps, wideKeys, modest, calm, conditions, laid).
  DERIVED. THE GIVEN ROWS OF THIS SEAT. 18 by the template 'for every input the law returns true; each argument reads behind the call as it read before'; 0 by the template 'total and deterministic' (their statements: YtldacinldgjdcaaTotals.lean).
  GIVEN WITH THE SEED: the statements are not yours to turn. If you find one false, say at which input.
  Laid BY PROGRAM, IN A SANDBOX (cutbox-rows.mjs): the forced cells as the released guide's own fill.sh prints them over the translation db340b8ef7eb3b2e… (all of the seat's roots in one cut). By AI agents, Wed Nov 11 2026. No macro, syntax, notation, axiom, sorry.
-/
import Derived.Test.YtldacinldgjdcaaChecked
import GoSem.Claim
import GoSem.ClaimJoined
import GoSem.ClaimMapViews
import Derived.JoinedTies
import Derived.KernelRfl
namespace Go.Proofs.Ytldacinldgjdcaa
/- THE CELL 'sum', in the pinned program and in every row, IS THE sha256 OF THE DUMP (.gsa) THAT YtldacinldgjdcaaProg.lean LOADS. Nothing in Lean hashes anything: it is a label: what it is worth is what the hold of that sum in a sandbox is worth. -/
noncomputable def Try.pinned : Pinned := { name := "ytldacinldgjdcaa", sum := "db340b8ef7eb3b2ee8879a9aad7019f47fe5c085a7f1bc75c1bcf8e5b991ff08", checked := Try.checked }
namespace Rows
def none {H : Type} : Left H := { results := [], args := [] }

/-- 'kibitzerlaw21.RepeatsTimes': WHATEVER THE INPUT: true; the input reads as it did. -/
def repeatsTimesSpec : ChangeSpec := { name := "repeatsTimes", fn := fun _ => fun
  | [d] => { results := [.lit (.bool true)], args := [d] }
  | _ => none }
def repeatsTimesRow : OpenClaim := { program := "ytldacinldgjdcaa", sum := "db340b8ef7eb3b2ee8879a9aad7019f47fe5c085a7f1bc75c1bcf8e5b991ff08", func := "kibitzer/kibitzerlaw21.RepeatsTimes", spec := "repeatsTimes", apart := false }
def RepeatsTimesSaid : Prop := repeatsTimesRow.holds Try.pinned (OpenSpec.ofChange repeatsTimesSpec)

/-- ITS FALSE NEIGHBOUR: 'it returns false'. Refute it at one input. -/
def repeatsTimesWrong : ChangeSpec := { name := "repeatsTimes", fn := fun _ => fun
  | [d] => { results := [.lit (.bool false)], args := [d] }
  | _ => none }
def RepeatsTimesWrongFalsely : Prop := repeatsTimesRow.holds Try.pinned (OpenSpec.ofChange repeatsTimesWrong)

/-- 'kibitzerlaw09.HashParts': WHATEVER THE INPUT: true; the input reads as it did. -/
def hashPartsSpec : ChangeSpec := { name := "hashParts", fn := fun _ => fun
  | [d1, d2, d3, d4] => { results := [.lit (.bool true)], args := [d1, d2, d3, d4] }
  | _ => none }
def hashPartsRow : OpenClaim := { program := "ytldacinldgjdcaa", sum := "db340b8ef7eb3b2ee8879a9aad7019f47fe5c085a7f1bc75c1bcf8e5b991ff08", func := "kibitzer/kibitzerlaw09.HashParts", spec := "hashParts", apart := false }
def HashPartsSaid : Prop := hashPartsRow.holds Try.pinned (OpenSpec.ofChange hashPartsSpec)

/-- ITS FALSE NEIGHBOUR: 'it returns false'. Refute it at one input. -/
def hashPartsWrong : ChangeSpec := { name := "hashParts", fn := fun _ => fun
  | [d1, d2, d3, d4] => { results := [.lit (.bool false)], args := [d1, d2, d3, d4] }
  | _ => none }
def HashPartsWrongFalsely : Prop := hashPartsRow.holds Try.pinned (OpenSpec.ofChange hashPartsWrong)

/-- 'kibitzerlaw09.HashRights': WHATEVER THE INPUT: true; the input reads as it did. -/
def hashRightsSpec : ChangeSpec := { name := "hashRights", fn := fun _ => fun
  | [d1, d2, d3, d4, d5, d6] => { results := [.lit (.bool true)], args := [d1, d2, d3, d4, d5, d6] }
  | _ => none }
def hashRightsRow : OpenClaim := { program := "ytldacinldgjdcaa", sum := "db340b8ef7eb3b2ee8879a9aad7019f47fe5c085a7f1bc75c1bcf8e5b991ff08", func := "kibitzer/kibitzerlaw09.HashRights", spec := "hashRights", apart := false }
def HashRightsSaid : Prop := hashRightsRow.holds Try.pinned (OpenSpec.ofChange hashRightsSpec)

/-- ITS FALSE NEIGHBOUR: 'it returns false'. Refute it at one input. -/
def hashRightsWrong : ChangeSpec := { name := "hashRights", fn := fun _ => fun
  | [d1, d2, d3, d4, d5, d6] => { results := [.lit (.bool false)], args := [d1, d2, d3, d4, d5, d6] }
  | _ => none }
def HashRightsWrongFalsely : Prop := hashRightsRow.holds Try.pinned (OpenSpec.ofChange hashRightsWrong)

/-- 'kibitzerlaw09.HashKey': WHATEVER THE INPUT: true; the input reads as it did. -/
def hashKeySpec : ChangeSpec := { name := "hashKey", fn := fun _ => fun
  | [d] => { results := [.lit (.bool true)], args := [d] }
  | _ => none }
def hashKeyRow : OpenClaim := { program := "ytldacinldgjdcaa", sum := "db340b8ef7eb3b2ee8879a9aad7019f47fe5c085a7f1bc75c1bcf8e5b991ff08", func := "kibitzer/kibitzerlaw09.HashKey", spec := "hashKey", unfollowed := true, recurses := true, apart := false }
def HashKeySaid : Prop := hashKeyRow.holds Try.pinned (OpenSpec.ofChange hashKeySpec)

/-- ITS FALSE NEIGHBOUR: 'it returns false'. Refute it at one input. -/
def hashKeyWrong : ChangeSpec := { name := "hashKey", fn := fun _ => fun
  | [d] => { results := [.lit (.bool false)], args := [d] }
  | _ => none }
def HashKeyWrongFalsely : Prop := hashKeyRow.holds Try.pinned (OpenSpec.ofChange hashKeyWrong)

/-- 'kibitzerlaw26.TablePlays': WHATEVER THE INPUT: true; the input reads as it did. -/
def tablePlaysSpec : ChangeSpec := { name := "tablePlays", fn := fun _ => fun
  | [d1, d2] => { results := [.lit (.bool true)], args := [d1, d2] }
  | _ => none }
def tablePlaysRow : OpenClaim := { program := "ytldacinldgjdcaa", sum := "db340b8ef7eb3b2ee8879a9aad7019f47fe5c085a7f1bc75c1bcf8e5b991ff08", func := "kibitzer/kibitzerlaw26.TablePlays", spec := "tablePlays", unfollowed := true, recurses := true, apart := false }
def TablePlaysSaid : Prop := tablePlaysRow.holds Try.pinned (OpenSpec.ofChange tablePlaysSpec)

/-- ITS FALSE NEIGHBOUR: 'it returns false'. Refute it at one input. -/
def tablePlaysWrong : ChangeSpec := { name := "tablePlays", fn := fun _ => fun
  | [d1, d2] => { results := [.lit (.bool false)], args := [d1, d2] }
  | _ => none }
def TablePlaysWrongFalsely : Prop := tablePlaysRow.holds Try.pinned (OpenSpec.ofChange tablePlaysWrong)

/-- 'kibitzerlaw09.HashPiece': WHATEVER THE INPUT: true; the input reads as it did. -/
def hashPieceSpec : ChangeSpec := { name := "hashPiece", fn := fun _ => fun
  | [d1, d2, d3] => { results := [.lit (.bool true)], args := [d1, d2, d3] }
  | _ => none }
def hashPieceRow : OpenClaim := { program := "ytldacinldgjdcaa", sum := "db340b8ef7eb3b2ee8879a9aad7019f47fe5c085a7f1bc75c1bcf8e5b991ff08", func := "kibitzer/kibitzerlaw09.HashPiece", spec := "hashPiece", unfollowed := true, recurses := true, apart := false }
def HashPieceSaid : Prop := hashPieceRow.holds Try.pinned (OpenSpec.ofChange hashPieceSpec)

/-- ITS FALSE NEIGHBOUR: 'it returns false'. Refute it at one input. -/
def hashPieceWrong : ChangeSpec := { name := "hashPiece", fn := fun _ => fun
  | [d1, d2, d3] => { results := [.lit (.bool false)], args := [d1, d2, d3] }
  | _ => none }
def HashPieceWrongFalsely : Prop := hashPieceRow.holds Try.pinned (OpenSpec.ofChange hashPieceWrong)

/-- 'kibitzerlaw26.TableClear': WHATEVER THE INPUT: true; the input reads as it did. -/
def tableClearSpec : ChangeSpec := { name := "tableClear", fn := fun _ => fun
  | [d1, d2] => { results := [.lit (.bool true)], args := [d1, d2] }
  | _ => none }
def tableClearRow : OpenClaim := { program := "ytldacinldgjdcaa", sum := "db340b8ef7eb3b2ee8879a9aad7019f47fe5c085a7f1bc75c1bcf8e5b991ff08", func := "kibitzer/kibitzerlaw26.TableClear", spec := "tableClear", unfollowed := true, recurses := true, apart := false }
def TableClearSaid : Prop := tableClearRow.holds Try.pinned (OpenSpec.ofChange tableClearSpec)

/-- ITS FALSE NEIGHBOUR: 'it returns false'. Refute it at one input. -/
def tableClearWrong : ChangeSpec := { name := "tableClear", fn := fun _ => fun
  | [d1, d2] => { results := [.lit (.bool false)], args := [d1, d2] }
  | _ => none }
def TableClearWrongFalsely : Prop := tableClearRow.holds Try.pinned (OpenSpec.ofChange tableClearWrong)

/-- 'kibitzerlaw09.HashOthers': WHATEVER THE INPUT: true; the input reads as it did. -/
def hashOthersSpec : ChangeSpec := { name := "hashOthers", fn := fun _ => fun
  | [d1, d2, d3, d4, d5] => { results := [.lit (.bool true)], args := [d1, d2, d3, d4, d5] }
  | _ => none }
def hashOthersRow : OpenClaim := { program := "ytldacinldgjdcaa", sum := "db340b8ef7eb3b2ee8879a9aad7019f47fe5c085a7f1bc75c1bcf8e5b991ff08", func := "kibitzer/kibitzerlaw09.HashOthers", spec := "hashOthers", unfollowed := true, recurses := true, apart := false }
def HashOthersSaid : Prop := hashOthersRow.holds Try.pinned (OpenSpec.ofChange hashOthersSpec)

/-- ITS FALSE NEIGHBOUR: 'it returns false'. Refute it at one input. -/
def hashOthersWrong : ChangeSpec := { name := "hashOthers", fn := fun _ => fun
  | [d1, d2, d3, d4, d5] => { results := [.lit (.bool false)], args := [d1, d2, d3, d4, d5] }
  | _ => none }
def HashOthersWrongFalsely : Prop := hashOthersRow.holds Try.pinned (OpenSpec.ofChange hashOthersWrong)

/-- 'kibitzerlaw09.HashClocks': WHATEVER THE INPUT: true; the input reads as it did. -/
def hashClocksSpec : ChangeSpec := { name := "hashClocks", fn := fun _ => fun
  | [d1, d2, d3] => { results := [.lit (.bool true)], args := [d1, d2, d3] }
  | _ => none }
def hashClocksRow : OpenClaim := { program := "ytldacinldgjdcaa", sum := "db340b8ef7eb3b2ee8879a9aad7019f47fe5c085a7f1bc75c1bcf8e5b991ff08", func := "kibitzer/kibitzerlaw09.HashClocks", spec := "hashClocks", unfollowed := true, recurses := true, apart := false }
def HashClocksSaid : Prop := hashClocksRow.holds Try.pinned (OpenSpec.ofChange hashClocksSpec)

/-- ITS FALSE NEIGHBOUR: 'it returns false'. Refute it at one input. -/
def hashClocksWrong : ChangeSpec := { name := "hashClocks", fn := fun _ => fun
  | [d1, d2, d3] => { results := [.lit (.bool false)], args := [d1, d2, d3] }
  | _ => none }
def HashClocksWrongFalsely : Prop := hashClocksRow.holds Try.pinned (OpenSpec.ofChange hashClocksWrong)

/-- 'kibitzerlaw09.HashNothing': WHATEVER THE INPUT: true; the input reads as it did. -/
def hashNothingSpec : ChangeSpec := { name := "hashNothing", fn := fun _ => fun
  | [d1, d2, d3, d4, d5, d6] => { results := [.lit (.bool true)], args := [d1, d2, d3, d4, d5, d6] }
  | _ => none }
def hashNothingRow : OpenClaim := { program := "ytldacinldgjdcaa", sum := "db340b8ef7eb3b2ee8879a9aad7019f47fe5c085a7f1bc75c1bcf8e5b991ff08", func := "kibitzer/kibitzerlaw09.HashNothing", spec := "hashNothing", unfollowed := true, recurses := true, apart := false }
def HashNothingSaid : Prop := hashNothingRow.holds Try.pinned (OpenSpec.ofChange hashNothingSpec)

/-- ITS FALSE NEIGHBOUR: 'it returns false'. Refute it at one input. -/
def hashNothingWrong : ChangeSpec := { name := "hashNothing", fn := fun _ => fun
  | [d1, d2, d3, d4, d5, d6] => { results := [.lit (.bool false)], args := [d1, d2, d3, d4, d5, d6] }
  | _ => none }
def HashNothingWrongFalsely : Prop := hashNothingRow.holds Try.pinned (OpenSpec.ofChange hashNothingWrong)

/-- 'kibitzerlaw21.RepeatsGroups': WHATEVER THE INPUT: true; the input reads as it did. -/
def repeatsGroupsSpec : ChangeSpec := { name := "repeatsGroups", fn := fun _ => fun
  | [d] => { results := [.lit (.bool true)], args := [d] }
  | _ => none }
def repeatsGroupsRow : OpenClaim := { program := "ytldacinldgjdcaa", sum := "db340b8ef7eb3b2ee8879a9aad7019f47fe5c085a7f1bc75c1bcf8e5b991ff08", func := "kibitzer/kibitzerlaw21.RepeatsGroups", spec := "repeatsGroups", unfollowed := true, recurses := true, apart := false }
def RepeatsGroupsSaid : Prop := repeatsGroupsRow.holds Try.pinned (OpenSpec.ofChange repeatsGroupsSpec)

/-- ITS FALSE NEIGHBOUR: 'it returns false'. Refute it at one input. -/
def repeatsGroupsWrong : ChangeSpec := { name := "repeatsGroups", fn := fun _ => fun
  | [d] => { results := [.lit (.bool false)], args := [d] }
  | _ => none }
def RepeatsGroupsWrongFalsely : Prop := repeatsGroupsRow.holds Try.pinned (OpenSpec.ofChange repeatsGroupsWrong)

/-- 'kibitzerlaw26.TableFound': WHATEVER THE INPUT: true; the input reads as it did. -/
def tableFoundSpec : ChangeSpec := { name := "tableFound", fn := fun _ => fun
  | [d1, d2, d3, d4] => { results := [.lit (.bool true)], args := [d1, d2, d3, d4] }
  | _ => none }
def tableFoundRow : OpenClaim := { program := "ytldacinldgjdcaa", sum := "db340b8ef7eb3b2ee8879a9aad7019f47fe5c085a7f1bc75c1bcf8e5b991ff08", func := "kibitzer/kibitzerlaw26.TableFound", spec := "tableFound", unfollowed := true, recurses := true, apart := false }
def TableFoundSaid : Prop := tableFoundRow.holds Try.pinned (OpenSpec.ofChange tableFoundSpec)

/-- ITS FALSE NEIGHBOUR: 'it returns false'. Refute it at one input. -/
def tableFoundWrong : ChangeSpec := { name := "tableFound", fn := fun _ => fun
  | [d1, d2, d3, d4] => { results := [.lit (.bool false)], args := [d1, d2, d3, d4] }
  | _ => none }
def TableFoundWrongFalsely : Prop := tableFoundRow.holds Try.pinned (OpenSpec.ofChange tableFoundWrong)

/-- 'kibitzerlaw26.TableDeeper': WHATEVER THE INPUT: true; the input reads as it did. -/
def tableDeeperSpec : ChangeSpec := { name := "tableDeeper", fn := fun _ => fun
  | [d1, d2, d3, d4] => { results := [.lit (.bool true)], args := [d1, d2, d3, d4] }
  | _ => none }
def tableDeeperRow : OpenClaim := { program := "ytldacinldgjdcaa", sum := "db340b8ef7eb3b2ee8879a9aad7019f47fe5c085a7f1bc75c1bcf8e5b991ff08", func := "kibitzer/kibitzerlaw26.TableDeeper", spec := "tableDeeper", unfollowed := true, recurses := true, apart := false }
def TableDeeperSaid : Prop := tableDeeperRow.holds Try.pinned (OpenSpec.ofChange tableDeeperSpec)

/-- ITS FALSE NEIGHBOUR: 'it returns false'. Refute it at one input. -/
def tableDeeperWrong : ChangeSpec := { name := "tableDeeper", fn := fun _ => fun
  | [d1, d2, d3, d4] => { results := [.lit (.bool false)], args := [d1, d2, d3, d4] }
  | _ => none }
def TableDeeperWrongFalsely : Prop := tableDeeperRow.holds Try.pinned (OpenSpec.ofChange tableDeeperWrong)

/-- 'kibitzerlaw21.RepeatsSorts': WHATEVER THE INPUT: true; the input reads as it did. -/
def repeatsSortsSpec : ChangeSpec := { name := "repeatsSorts", fn := fun _ => fun
  | [d1, d2, d3] => { results := [.lit (.bool true)], args := [d1, d2, d3] }
  | _ => none }
def repeatsSortsRow : OpenClaim := { program := "ytldacinldgjdcaa", sum := "db340b8ef7eb3b2ee8879a9aad7019f47fe5c085a7f1bc75c1bcf8e5b991ff08", func := "kibitzer/kibitzerlaw21.RepeatsSorts", spec := "repeatsSorts", unfollowed := true, recurses := true, apart := false }
def RepeatsSortsSaid : Prop := repeatsSortsRow.holds Try.pinned (OpenSpec.ofChange repeatsSortsSpec)

/-- ITS FALSE NEIGHBOUR: 'it returns false'. Refute it at one input. -/
def repeatsSortsWrong : ChangeSpec := { name := "repeatsSorts", fn := fun _ => fun
  | [d1, d2, d3] => { results := [.lit (.bool false)], args := [d1, d2, d3] }
  | _ => none }
def RepeatsSortsWrongFalsely : Prop := repeatsSortsRow.holds Try.pinned (OpenSpec.ofChange repeatsSortsWrong)

/-- 'kibitzerlaw21.RepeatsMore': WHATEVER THE INPUT: true; the input reads as it did. -/
def repeatsMoreSpec : ChangeSpec := { name := "repeatsMore", fn := fun _ => fun
  | [d1, d2, d3, d4] => { results := [.lit (.bool true)], args := [d1, d2, d3, d4] }
  | _ => none }
def repeatsMoreRow : OpenClaim := { program := "ytldacinldgjdcaa", sum := "db340b8ef7eb3b2ee8879a9aad7019f47fe5c085a7f1bc75c1bcf8e5b991ff08", func := "kibitzer/kibitzerlaw21.RepeatsMore", spec := "repeatsMore", unfollowed := true, recurses := true, apart := false }
def RepeatsMoreSaid : Prop := repeatsMoreRow.holds Try.pinned (OpenSpec.ofChange repeatsMoreSpec)

/-- ITS FALSE NEIGHBOUR: 'it returns false'. Refute it at one input. -/
def repeatsMoreWrong : ChangeSpec := { name := "repeatsMore", fn := fun _ => fun
  | [d1, d2, d3, d4] => { results := [.lit (.bool false)], args := [d1, d2, d3, d4] }
  | _ => none }
def RepeatsMoreWrongFalsely : Prop := repeatsMoreRow.holds Try.pinned (OpenSpec.ofChange repeatsMoreWrong)

/-- 'kibitzerlaw21.RepeatsFirst': WHATEVER THE INPUT: true; the input reads as it did. -/
def repeatsFirstSpec : ChangeSpec := { name := "repeatsFirst", fn := fun _ => fun
  | [d] => { results := [.lit (.bool true)], args := [d] }
  | _ => none }
def repeatsFirstRow : OpenClaim := { program := "ytldacinldgjdcaa", sum := "db340b8ef7eb3b2ee8879a9aad7019f47fe5c085a7f1bc75c1bcf8e5b991ff08", func := "kibitzer/kibitzerlaw21.RepeatsFirst", spec := "repeatsFirst", unfollowed := true, recurses := true, apart := false }
def RepeatsFirstSaid : Prop := repeatsFirstRow.holds Try.pinned (OpenSpec.ofChange repeatsFirstSpec)

/-- ITS FALSE NEIGHBOUR: 'it returns false'. Refute it at one input. -/
def repeatsFirstWrong : ChangeSpec := { name := "repeatsFirst", fn := fun _ => fun
  | [d] => { results := [.lit (.bool false)], args := [d] }
  | _ => none }
def RepeatsFirstWrongFalsely : Prop := repeatsFirstRow.holds Try.pinned (OpenSpec.ofChange repeatsFirstWrong)

/-- 'kibitzerlaw21.RepeatsFields': WHATEVER THE INPUT: true; the input reads as it did. -/
def repeatsFieldsSpec : ChangeSpec := { name := "repeatsFields", fn := fun _ => fun
  | [d1, d2, d3, d4] => { results := [.lit (.bool true)], args := [d1, d2, d3, d4] }
  | _ => none }
def repeatsFieldsRow : OpenClaim := { program := "ytldacinldgjdcaa", sum := "db340b8ef7eb3b2ee8879a9aad7019f47fe5c085a7f1bc75c1bcf8e5b991ff08", func := "kibitzer/kibitzerlaw21.RepeatsFields", spec := "repeatsFields", unfollowed := true, recurses := true, apart := false }
def RepeatsFieldsSaid : Prop := repeatsFieldsRow.holds Try.pinned (OpenSpec.ofChange repeatsFieldsSpec)

/-- ITS FALSE NEIGHBOUR: 'it returns false'. Refute it at one input. -/
def repeatsFieldsWrong : ChangeSpec := { name := "repeatsFields", fn := fun _ => fun
  | [d1, d2, d3, d4] => { results := [.lit (.bool false)], args := [d1, d2, d3, d4] }
  | _ => none }
def RepeatsFieldsWrongFalsely : Prop := repeatsFieldsRow.holds Try.pinned (OpenSpec.ofChange repeatsFieldsWrong)

/-- 'kibitzerlaw26.TableOwn': WHATEVER THE INPUT: true; the input reads as it did. -/
def tableOwnSpec : ChangeSpec := { name := "tableOwn", fn := fun _ => fun
  | [d1, d2] => { results := [.lit (.bool true)], args := [d1, d2] }
  | _ => none }
def tableOwnRow : OpenClaim := { program := "ytldacinldgjdcaa", sum := "db340b8ef7eb3b2ee8879a9aad7019f47fe5c085a7f1bc75c1bcf8e5b991ff08", func := "kibitzer/kibitzerlaw26.TableOwn", spec := "tableOwn", unfollowed := true, recurses := true, apart := false }
def TableOwnSaid : Prop := tableOwnRow.holds Try.pinned (OpenSpec.ofChange tableOwnSpec)

/-- ITS FALSE NEIGHBOUR: 'it returns false'. Refute it at one input. -/
def tableOwnWrong : ChangeSpec := { name := "tableOwn", fn := fun _ => fun
  | [d1, d2] => { results := [.lit (.bool false)], args := [d1, d2] }
  | _ => none }
def TableOwnWrongFalsely : Prop := tableOwnRow.holds Try.pinned (OpenSpec.ofChange tableOwnWrong)

/- THE SECOND FORM. 'bulk': how many values and letters a reading holds, each counted each time it is reached (what is shared counts as often as it is met; a slice's spare places count too). A statement '..UptoSaid' is the law's where the arguments, and the package variables that the reading takes, are together of bulk at most 1048576: NARROWER than '..Said'. Prove '..Said' where nothing that the law and all that it calls make is longer than what came in: it says more and counts as full. Else prove '..UptoSaid'. A law counts once. -/
mutual
def uptoBulk {H : Type} : DataW H → Nat
  | .lit (.string bytes) => bytes.length + 1
  | .lit _ => 1
  | .nil => 1
  | .ptr d => uptoBulk d + 1
  | .slice elems spare => uptoBulkAll elems + uptoBulkAll spare + 1
  | .agg parts => uptoBulkAll parts + 1
  | .iface _ d => uptoBulk d + 1
  | .map entries => uptoBulkEntries entries + 1
  | .held _ => 1
def uptoBulkAll {H : Type} : List (DataW H) → Nat
  | [] => 0
  | d :: r => uptoBulk d + uptoBulkAll r
def uptoBulkEntries {H : Type} : List (Lit × DataW H) → Nat
  | [] => 0
  | x :: r => uptoBulkEntry x + uptoBulkEntries r
def uptoBulkEntry {H : Type} : Lit × DataW H → Nat
  | (.string bytes, d) => bytes.length + uptoBulk d + 1
  | (_, d) => uptoBulk d + 1
 end
def uptoSmall : (H : Type) → List (DataW H) → Bool := fun _ ds => decide (uptoBulkAll ds ≤ 1048576)
def OpenSpec.upto (s : _root_.Go.ChangeSpec) : _root_.Go.OpenSpec := { _root_.Go.OpenSpec.ofChange s with cond := some uptoSmall }

/-- 'kibitzerlaw21.RepeatsTimes', WHERE WHAT IT READS IS OF BULK AT MOST 1048576: true; the input reads as it did. -/
def repeatsTimesUptoRow : OpenClaim := { program := "ytldacinldgjdcaa", sum := "db340b8ef7eb3b2ee8879a9aad7019f47fe5c085a7f1bc75c1bcf8e5b991ff08", func := "kibitzer/kibitzerlaw21.RepeatsTimes", spec := "repeatsTimes", apart := false, narrowed := true }
def RepeatsTimesUptoSaid : Prop := repeatsTimesUptoRow.holds Try.pinned (OpenSpec.upto repeatsTimesSpec)

/-- 'kibitzerlaw09.HashParts', WHERE WHAT IT READS IS OF BULK AT MOST 1048576: true; the input reads as it did. -/
def hashPartsUptoRow : OpenClaim := { program := "ytldacinldgjdcaa", sum := "db340b8ef7eb3b2ee8879a9aad7019f47fe5c085a7f1bc75c1bcf8e5b991ff08", func := "kibitzer/kibitzerlaw09.HashParts", spec := "hashParts", apart := false, narrowed := true }
def HashPartsUptoSaid : Prop := hashPartsUptoRow.holds Try.pinned (OpenSpec.upto hashPartsSpec)

/-- 'kibitzerlaw09.HashRights', WHERE WHAT IT READS IS OF BULK AT MOST 1048576: true; the input reads as it did. -/
def hashRightsUptoRow : OpenClaim := { program := "ytldacinldgjdcaa", sum := "db340b8ef7eb3b2ee8879a9aad7019f47fe5c085a7f1bc75c1bcf8e5b991ff08", func := "kibitzer/kibitzerlaw09.HashRights", spec := "hashRights", apart := false, narrowed := true }
def HashRightsUptoSaid : Prop := hashRightsUptoRow.holds Try.pinned (OpenSpec.upto hashRightsSpec)

/-- 'kibitzerlaw09.HashKey', WHERE WHAT IT READS IS OF BULK AT MOST 1048576: true; the input reads as it did. -/
def hashKeyUptoRow : OpenClaim := { program := "ytldacinldgjdcaa", sum := "db340b8ef7eb3b2ee8879a9aad7019f47fe5c085a7f1bc75c1bcf8e5b991ff08", func := "kibitzer/kibitzerlaw09.HashKey", spec := "hashKey", unfollowed := true, recurses := true, apart := false, narrowed := true }
def HashKeyUptoSaid : Prop := hashKeyUptoRow.holds Try.pinned (OpenSpec.upto hashKeySpec)

/-- 'kibitzerlaw26.TablePlays', WHERE WHAT IT READS IS OF BULK AT MOST 1048576: true; the input reads as it did. -/
def tablePlaysUptoRow : OpenClaim := { program := "ytldacinldgjdcaa", sum := "db340b8ef7eb3b2ee8879a9aad7019f47fe5c085a7f1bc75c1bcf8e5b991ff08", func := "kibitzer/kibitzerlaw26.TablePlays", spec := "tablePlays", unfollowed := true, recurses := true, apart := false, narrowed := true }
def TablePlaysUptoSaid : Prop := tablePlaysUptoRow.holds Try.pinned (OpenSpec.upto tablePlaysSpec)

/-- 'kibitzerlaw09.HashPiece', WHERE WHAT IT READS IS OF BULK AT MOST 1048576: true; the input reads as it did. -/
def hashPieceUptoRow : OpenClaim := { program := "ytldacinldgjdcaa", sum := "db340b8ef7eb3b2ee8879a9aad7019f47fe5c085a7f1bc75c1bcf8e5b991ff08", func := "kibitzer/kibitzerlaw09.HashPiece", spec := "hashPiece", unfollowed := true, recurses := true, apart := false, narrowed := true }
def HashPieceUptoSaid : Prop := hashPieceUptoRow.holds Try.pinned (OpenSpec.upto hashPieceSpec)

/-- 'kibitzerlaw26.TableClear', WHERE WHAT IT READS IS OF BULK AT MOST 1048576: true; the input reads as it did. -/
def tableClearUptoRow : OpenClaim := { program := "ytldacinldgjdcaa", sum := "db340b8ef7eb3b2ee8879a9aad7019f47fe5c085a7f1bc75c1bcf8e5b991ff08", func := "kibitzer/kibitzerlaw26.TableClear", spec := "tableClear", unfollowed := true, recurses := true, apart := false, narrowed := true }
def TableClearUptoSaid : Prop := tableClearUptoRow.holds Try.pinned (OpenSpec.upto tableClearSpec)

/-- 'kibitzerlaw09.HashOthers', WHERE WHAT IT READS IS OF BULK AT MOST 1048576: true; the input reads as it did. -/
def hashOthersUptoRow : OpenClaim := { program := "ytldacinldgjdcaa", sum := "db340b8ef7eb3b2ee8879a9aad7019f47fe5c085a7f1bc75c1bcf8e5b991ff08", func := "kibitzer/kibitzerlaw09.HashOthers", spec := "hashOthers", unfollowed := true, recurses := true, apart := false, narrowed := true }
def HashOthersUptoSaid : Prop := hashOthersUptoRow.holds Try.pinned (OpenSpec.upto hashOthersSpec)

/-- 'kibitzerlaw09.HashClocks', WHERE WHAT IT READS IS OF BULK AT MOST 1048576: true; the input reads as it did. -/
def hashClocksUptoRow : OpenClaim := { program := "ytldacinldgjdcaa", sum := "db340b8ef7eb3b2ee8879a9aad7019f47fe5c085a7f1bc75c1bcf8e5b991ff08", func := "kibitzer/kibitzerlaw09.HashClocks", spec := "hashClocks", unfollowed := true, recurses := true, apart := false, narrowed := true }
def HashClocksUptoSaid : Prop := hashClocksUptoRow.holds Try.pinned (OpenSpec.upto hashClocksSpec)

/-- 'kibitzerlaw09.HashNothing', WHERE WHAT IT READS IS OF BULK AT MOST 1048576: true; the input reads as it did. -/
def hashNothingUptoRow : OpenClaim := { program := "ytldacinldgjdcaa", sum := "db340b8ef7eb3b2ee8879a9aad7019f47fe5c085a7f1bc75c1bcf8e5b991ff08", func := "kibitzer/kibitzerlaw09.HashNothing", spec := "hashNothing", unfollowed := true, recurses := true, apart := false, narrowed := true }
def HashNothingUptoSaid : Prop := hashNothingUptoRow.holds Try.pinned (OpenSpec.upto hashNothingSpec)

/-- 'kibitzerlaw21.RepeatsGroups', WHERE WHAT IT READS IS OF BULK AT MOST 1048576: true; the input reads as it did. -/
def repeatsGroupsUptoRow : OpenClaim := { program := "ytldacinldgjdcaa", sum := "db340b8ef7eb3b2ee8879a9aad7019f47fe5c085a7f1bc75c1bcf8e5b991ff08", func := "kibitzer/kibitzerlaw21.RepeatsGroups", spec := "repeatsGroups", unfollowed := true, recurses := true, apart := false, narrowed := true }
def RepeatsGroupsUptoSaid : Prop := repeatsGroupsUptoRow.holds Try.pinned (OpenSpec.upto repeatsGroupsSpec)

/-- 'kibitzerlaw26.TableFound', WHERE WHAT IT READS IS OF BULK AT MOST 1048576: true; the input reads as it did. -/
def tableFoundUptoRow : OpenClaim := { program := "ytldacinldgjdcaa", sum := "db340b8ef7eb3b2ee8879a9aad7019f47fe5c085a7f1bc75c1bcf8e5b991ff08", func := "kibitzer/kibitzerlaw26.TableFound", spec := "tableFound", unfollowed := true, recurses := true, apart := false, narrowed := true }
def TableFoundUptoSaid : Prop := tableFoundUptoRow.holds Try.pinned (OpenSpec.upto tableFoundSpec)

/-- 'kibitzerlaw26.TableDeeper', WHERE WHAT IT READS IS OF BULK AT MOST 1048576: true; the input reads as it did. -/
def tableDeeperUptoRow : OpenClaim := { program := "ytldacinldgjdcaa", sum := "db340b8ef7eb3b2ee8879a9aad7019f47fe5c085a7f1bc75c1bcf8e5b991ff08", func := "kibitzer/kibitzerlaw26.TableDeeper", spec := "tableDeeper", unfollowed := true, recurses := true, apart := false, narrowed := true }
def TableDeeperUptoSaid : Prop := tableDeeperUptoRow.holds Try.pinned (OpenSpec.upto tableDeeperSpec)

/-- 'kibitzerlaw21.RepeatsSorts', WHERE WHAT IT READS IS OF BULK AT MOST 1048576: true; the input reads as it did. -/
def repeatsSortsUptoRow : OpenClaim := { program := "ytldacinldgjdcaa", sum := "db340b8ef7eb3b2ee8879a9aad7019f47fe5c085a7f1bc75c1bcf8e5b991ff08", func := "kibitzer/kibitzerlaw21.RepeatsSorts", spec := "repeatsSorts", unfollowed := true, recurses := true, apart := false, narrowed := true }
def RepeatsSortsUptoSaid : Prop := repeatsSortsUptoRow.holds Try.pinned (OpenSpec.upto repeatsSortsSpec)

/-- 'kibitzerlaw21.RepeatsMore', WHERE WHAT IT READS IS OF BULK AT MOST 1048576: true; the input reads as it did. -/
def repeatsMoreUptoRow : OpenClaim := { program := "ytldacinldgjdcaa", sum := "db340b8ef7eb3b2ee8879a9aad7019f47fe5c085a7f1bc75c1bcf8e5b991ff08", func := "kibitzer/kibitzerlaw21.RepeatsMore", spec := "repeatsMore", unfollowed := true, recurses := true, apart := false, narrowed := true }
def RepeatsMoreUptoSaid : Prop := repeatsMoreUptoRow.holds Try.pinned (OpenSpec.upto repeatsMoreSpec)

/-- 'kibitzerlaw21.RepeatsFirst', WHERE WHAT IT READS IS OF BULK AT MOST 1048576: true; the input reads as it did. -/
def repeatsFirstUptoRow : OpenClaim := { program := "ytldacinldgjdcaa", sum := "db340b8ef7eb3b2ee8879a9aad7019f47fe5c085a7f1bc75c1bcf8e5b991ff08", func := "kibitzer/kibitzerlaw21.RepeatsFirst", spec := "repeatsFirst", unfollowed := true, recurses := true, apart := false, narrowed := true }
def RepeatsFirstUptoSaid : Prop := repeatsFirstUptoRow.holds Try.pinned (OpenSpec.upto repeatsFirstSpec)

/-- 'kibitzerlaw21.RepeatsFields', WHERE WHAT IT READS IS OF BULK AT MOST 1048576: true; the input reads as it did. -/
def repeatsFieldsUptoRow : OpenClaim := { program := "ytldacinldgjdcaa", sum := "db340b8ef7eb3b2ee8879a9aad7019f47fe5c085a7f1bc75c1bcf8e5b991ff08", func := "kibitzer/kibitzerlaw21.RepeatsFields", spec := "repeatsFields", unfollowed := true, recurses := true, apart := false, narrowed := true }
def RepeatsFieldsUptoSaid : Prop := repeatsFieldsUptoRow.holds Try.pinned (OpenSpec.upto repeatsFieldsSpec)

/-- 'kibitzerlaw26.TableOwn', WHERE WHAT IT READS IS OF BULK AT MOST 1048576: true; the input reads as it did. -/
def tableOwnUptoRow : OpenClaim := { program := "ytldacinldgjdcaa", sum := "db340b8ef7eb3b2ee8879a9aad7019f47fe5c085a7f1bc75c1bcf8e5b991ff08", func := "kibitzer/kibitzerlaw26.TableOwn", spec := "tableOwn", unfollowed := true, recurses := true, apart := false, narrowed := true }
def TableOwnUptoSaid : Prop := tableOwnUptoRow.holds Try.pinned (OpenSpec.upto tableOwnSpec)

end Rows
end Go.Proofs.Ytldacinldgjdcaa
