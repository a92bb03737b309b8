/-
  No cell of these rows narrows 'for every input' (looked for: loops, veiled, ifaces, maps, wideKeys, modest, calm, conditions, laid).
  DERIVED. THE GIVEN ROWS OF THIS SEAT. 6 by the template 'for every input the law returns true; each argument reads behind the call as it read before'; 0 by the template 'total and deterministic' (their statements: YtfgcbpchapkjbaaTotals.lean).
  GIVEN WITH THE SEED: the statements are not yours to turn. If you find one false, say at which input.
  Laid BY PROGRAM, IN A SANDBOX (cutbox-rows.mjs): the forced cells as the released guide's own fill.sh prints them over the translation 15d4f13585ce950c… (all of the seat's roots in one cut). By AI agents, Wed Nov 11 2026. No macro, syntax, notation, axiom, sorry.
-/
import Derived.Test.YtfgcbpchapkjbaaChecked
import GoSem.Claim
import GoSem.ClaimJoined
import GoSem.ClaimMapViews
import Derived.JoinedTies
import Derived.KernelRfl
namespace Go.Proofs.Ytfgcbpchapkjbaa
/- THE CELL 'sum', in the pinned program and in every row, IS THE sha256 OF THE DUMP (.gsa) THAT YtfgcbpchapkjbaaProg.lean LOADS. Nothing in Lean hashes anything: it is a label: what it is worth is what the hold of that sum in a sandbox is worth. -/
noncomputable def Try.pinned : Pinned := { name := "ytfgcbpchapkjbaa", sum := "15d4f13585ce950c2cf9abeb593531bf0355e4913786a3996601c78fc47f67c3", checked := Try.checked }
namespace Rows
def none {H : Type} : Left H := { results := [], args := [] }

/-- 'goosepondlaw41.NameTakes': WHATEVER THE INPUT: true; the input reads as it did. -/
def nameTakesSpec : ChangeSpec := { name := "nameTakes", fn := fun _ => fun
  | [d] => { results := [.lit (.bool true)], args := [d] }
  | _ => none }
def nameTakesRow : OpenClaim := { program := "ytfgcbpchapkjbaa", sum := "15d4f13585ce950c2cf9abeb593531bf0355e4913786a3996601c78fc47f67c3", func := "goosepond/goosepondlaw41.NameTakes", spec := "nameTakes", inPlace := ["internal/bytealg.IndexByteString", "internal/bytealg.IndexString", "internal/abi.NoEscape", "internal/bytealg.MakeNoZero"], unfollowed := true, recurses := true, named := ["internal/bytealg.MaxLen"], apart := false }
def NameTakesSaid : Prop := nameTakesRow.holds Try.pinned (OpenSpec.ofChange nameTakesSpec)

/-- ITS FALSE NEIGHBOUR: 'it returns false'. Refute it at one input. -/
def nameTakesWrong : ChangeSpec := { name := "nameTakes", fn := fun _ => fun
  | [d] => { results := [.lit (.bool false)], args := [d] }
  | _ => none }
def NameTakesWrongFalsely : Prop := nameTakesRow.holds Try.pinned (OpenSpec.ofChange nameTakesWrong)

/-- 'goosepondlaw41.NameBack': WHATEVER THE INPUT: true; the input reads as it did. -/
def nameBackSpec : ChangeSpec := { name := "nameBack", fn := fun _ => fun
  | [d1, d2] => { results := [.lit (.bool true)], args := [d1, d2] }
  | _ => none }
def nameBackRow : OpenClaim := { program := "ytfgcbpchapkjbaa", sum := "15d4f13585ce950c2cf9abeb593531bf0355e4913786a3996601c78fc47f67c3", func := "goosepond/goosepondlaw41.NameBack", spec := "nameBack", inPlace := ["internal/bytealg.IndexByteString", "internal/bytealg.IndexString", "internal/abi.NoEscape", "internal/bytealg.MakeNoZero"], unfollowed := true, recurses := true, named := ["internal/bytealg.MaxLen"], apart := false }
def NameBackSaid : Prop := nameBackRow.holds Try.pinned (OpenSpec.ofChange nameBackSpec)

/-- ITS FALSE NEIGHBOUR: 'it returns false'. Refute it at one input. -/
def nameBackWrong : ChangeSpec := { name := "nameBack", fn := fun _ => fun
  | [d1, d2] => { results := [.lit (.bool false)], args := [d1, d2] }
  | _ => none }
def NameBackWrongFalsely : Prop := nameBackRow.holds Try.pinned (OpenSpec.ofChange nameBackWrong)

/-- 'goosepondlaw41.NamePuts': WHATEVER THE INPUT: true; the input reads as it did. -/
def namePutsSpec : ChangeSpec := { name := "namePuts", fn := fun _ => fun
  | [d1, d2] => { results := [.lit (.bool true)], args := [d1, d2] }
  | _ => none }
def namePutsRow : OpenClaim := { program := "ytfgcbpchapkjbaa", sum := "15d4f13585ce950c2cf9abeb593531bf0355e4913786a3996601c78fc47f67c3", func := "goosepond/goosepondlaw41.NamePuts", spec := "namePuts", inPlace := ["internal/bytealg.IndexByteString", "internal/bytealg.IndexString", "internal/abi.NoEscape", "internal/bytealg.MakeNoZero"], unfollowed := true, recurses := true, named := ["internal/bytealg.MaxLen"], apart := false }
def NamePutsSaid : Prop := namePutsRow.holds Try.pinned (OpenSpec.ofChange namePutsSpec)

/-- ITS FALSE NEIGHBOUR: 'it returns false'. Refute it at one input. -/
def namePutsWrong : ChangeSpec := { name := "namePuts", fn := fun _ => fun
  | [d1, d2] => { results := [.lit (.bool false)], args := [d1, d2] }
  | _ => none }
def NamePutsWrongFalsely : Prop := namePutsRow.holds Try.pinned (OpenSpec.ofChange namePutsWrong)

/-- 'goosepondlaw42.DhcpNames': WHATEVER THE INPUT: true; the input reads as it did. -/
def dhcpNamesSpec : ChangeSpec := { name := "dhcpNames", fn := fun _ => fun
  | [d1, d2] => { results := [.lit (.bool true)], args := [d1, d2] }
  | _ => none }
def dhcpNamesRow : OpenClaim := { program := "ytfgcbpchapkjbaa", sum := "15d4f13585ce950c2cf9abeb593531bf0355e4913786a3996601c78fc47f67c3", func := "goosepond/goosepondlaw42.DhcpNames", spec := "dhcpNames", inPlace := ["internal/bytealg.IndexByteString", "internal/bytealg.IndexString", "internal/abi.NoEscape", "internal/bytealg.MakeNoZero"], unfollowed := true, recurses := true, named := ["internal/bytealg.MaxLen"], apart := false }
def DhcpNamesSaid : Prop := dhcpNamesRow.holds Try.pinned (OpenSpec.ofChange dhcpNamesSpec)

/-- ITS FALSE NEIGHBOUR: 'it returns false'. Refute it at one input. -/
def dhcpNamesWrong : ChangeSpec := { name := "dhcpNames", fn := fun _ => fun
  | [d1, d2] => { results := [.lit (.bool false)], args := [d1, d2] }
  | _ => none }
def DhcpNamesWrongFalsely : Prop := dhcpNamesRow.holds Try.pinned (OpenSpec.ofChange dhcpNamesWrong)

/-- 'goosepondlaw42.DhcpBack': WHATEVER THE INPUT: true; the input reads as it did. -/
def dhcpBackSpec : ChangeSpec := { name := "dhcpBack", fn := fun _ => fun
  | [d1, d2] => { results := [.lit (.bool true)], args := [d1, d2] }
  | _ => none }
def dhcpBackRow : OpenClaim := { program := "ytfgcbpchapkjbaa", sum := "15d4f13585ce950c2cf9abeb593531bf0355e4913786a3996601c78fc47f67c3", func := "goosepond/goosepondlaw42.DhcpBack", spec := "dhcpBack", inPlace := ["internal/bytealg.IndexByteString", "internal/bytealg.IndexString", "internal/abi.NoEscape", "internal/bytealg.MakeNoZero"], unfollowed := true, recurses := true, named := ["internal/bytealg.MaxLen"], apart := false }
def DhcpBackSaid : Prop := dhcpBackRow.holds Try.pinned (OpenSpec.ofChange dhcpBackSpec)

/-- ITS FALSE NEIGHBOUR: 'it returns false'. Refute it at one input. -/
def dhcpBackWrong : ChangeSpec := { name := "dhcpBack", fn := fun _ => fun
  | [d1, d2] => { results := [.lit (.bool false)], args := [d1, d2] }
  | _ => none }
def DhcpBackWrongFalsely : Prop := dhcpBackRow.holds Try.pinned (OpenSpec.ofChange dhcpBackWrong)

/-- 'goosepondlaw42.DhcpBuilds': WHATEVER THE INPUT: true; the input reads as it did. -/
def dhcpBuildsSpec : ChangeSpec := { name := "dhcpBuilds", fn := fun _ => fun
  | [d1, d2] => { results := [.lit (.bool true)], args := [d1, d2] }
  | _ => none }
def dhcpBuildsRow : OpenClaim := { program := "ytfgcbpchapkjbaa", sum := "15d4f13585ce950c2cf9abeb593531bf0355e4913786a3996601c78fc47f67c3", func := "goosepond/goosepondlaw42.DhcpBuilds", spec := "dhcpBuilds", inPlace := ["internal/bytealg.IndexByteString", "internal/bytealg.IndexString", "internal/abi.NoEscape", "internal/bytealg.MakeNoZero"], unfollowed := true, recurses := true, named := ["internal/bytealg.MaxLen"], apart := false }
def DhcpBuildsSaid : Prop := dhcpBuildsRow.holds Try.pinned (OpenSpec.ofChange dhcpBuildsSpec)

/-- ITS FALSE NEIGHBOUR: 'it returns false'. Refute it at one input. -/
def dhcpBuildsWrong : ChangeSpec := { name := "dhcpBuilds", fn := fun _ => fun
  | [d1, d2] => { results := [.lit (.bool false)], args := [d1, d2] }
  | _ => none }
def DhcpBuildsWrongFalsely : Prop := dhcpBuildsRow.holds Try.pinned (OpenSpec.ofChange dhcpBuildsWrong)

/- THE SECOND FORM. 'bulk': how many values and letters a reading holds, each counted each time it is reached (what is shared counts as often as it is met; a slice's spare places count too). A statement '..UptoSaid' is the law's where the arguments, and the package variables that the reading takes, are together of bulk at most 1048576: NARROWER than '..Said'. Prove '..Said' where nothing that the law and all that it calls make is longer than what came in: it says more and counts as full. Else prove '..UptoSaid'. A law counts once. -/
mutual
def uptoBulk {H : Type} : DataW H → Nat
  | .lit (.string bytes) => bytes.length + 1
  | .lit _ => 1
  | .nil => 1
  | .ptr d => uptoBulk d + 1
  | .slice elems spare => uptoBulkAll elems + uptoBulkAll spare + 1
  | .agg parts => uptoBulkAll parts + 1
  | .iface _ d => uptoBulk d + 1
  | .map entries => uptoBulkEntries entries + 1
  | .held _ => 1
def uptoBulkAll {H : Type} : List (DataW H) → Nat
  | [] => 0
  | d :: r => uptoBulk d + uptoBulkAll r
def uptoBulkEntries {H : Type} : List (Lit × DataW H) → Nat
  | [] => 0
  | x :: r => uptoBulkEntry x + uptoBulkEntries r
def uptoBulkEntry {H : Type} : Lit × DataW H → Nat
  | (.string bytes, d) => bytes.length + uptoBulk d + 1
  | (_, d) => uptoBulk d + 1
 end
def uptoSmall : (H : Type) → List (DataW H) → Bool := fun _ ds => decide (uptoBulkAll ds ≤ 1048576)
def OpenSpec.upto (s : _root_.Go.ChangeSpec) : _root_.Go.OpenSpec := { _root_.Go.OpenSpec.ofChange s with cond := some uptoSmall }

/-- 'goosepondlaw41.NameTakes', WHERE WHAT IT READS IS OF BULK AT MOST 1048576: true; the input reads as it did. -/
def nameTakesUptoRow : OpenClaim := { program := "ytfgcbpchapkjbaa", sum := "15d4f13585ce950c2cf9abeb593531bf0355e4913786a3996601c78fc47f67c3", func := "goosepond/goosepondlaw41.NameTakes", spec := "nameTakes", inPlace := ["internal/bytealg.IndexByteString", "internal/bytealg.IndexString", "internal/abi.NoEscape", "internal/bytealg.MakeNoZero"], unfollowed := true, recurses := true, named := ["internal/bytealg.MaxLen"], apart := false, narrowed := true }
def NameTakesUptoSaid : Prop := nameTakesUptoRow.holds Try.pinned (OpenSpec.upto nameTakesSpec)

/-- 'goosepondlaw41.NameBack', WHERE WHAT IT READS IS OF BULK AT MOST 1048576: true; the input reads as it did. -/
def nameBackUptoRow : OpenClaim := { program := "ytfgcbpchapkjbaa", sum := "15d4f13585ce950c2cf9abeb593531bf0355e4913786a3996601c78fc47f67c3", func := "goosepond/goosepondlaw41.NameBack", spec := "nameBack", inPlace := ["internal/bytealg.IndexByteString", "internal/bytealg.IndexString", "internal/abi.NoEscape", "internal/bytealg.MakeNoZero"], unfollowed := true, recurses := true, named := ["internal/bytealg.MaxLen"], apart := false, narrowed := true }
def NameBackUptoSaid : Prop := nameBackUptoRow.holds Try.pinned (OpenSpec.upto nameBackSpec)

/-- 'goosepondlaw41.NamePuts', WHERE WHAT IT READS IS OF BULK AT MOST 1048576: true; the input reads as it did. -/
def namePutsUptoRow : OpenClaim := { program := "ytfgcbpchapkjbaa", sum := "15d4f13585ce950c2cf9abeb593531bf0355e4913786a3996601c78fc47f67c3", func := "goosepond/goosepondlaw41.NamePuts", spec := "namePuts", inPlace := ["internal/bytealg.IndexByteString", "internal/bytealg.IndexString", "internal/abi.NoEscape", "internal/bytealg.MakeNoZero"], unfollowed := true, recurses := true, named := ["internal/bytealg.MaxLen"], apart := false, narrowed := true }
def NamePutsUptoSaid : Prop := namePutsUptoRow.holds Try.pinned (OpenSpec.upto namePutsSpec)

/-- 'goosepondlaw42.DhcpNames', WHERE WHAT IT READS IS OF BULK AT MOST 1048576: true; the input reads as it did. -/
def dhcpNamesUptoRow : OpenClaim := { program := "ytfgcbpchapkjbaa", sum := "15d4f13585ce950c2cf9abeb593531bf0355e4913786a3996601c78fc47f67c3", func := "goosepond/goosepondlaw42.DhcpNames", spec := "dhcpNames", inPlace := ["internal/bytealg.IndexByteString", "internal/bytealg.IndexString", "internal/abi.NoEscape", "internal/bytealg.MakeNoZero"], unfollowed := true, recurses := true, named := ["internal/bytealg.MaxLen"], apart := false, narrowed := true }
def DhcpNamesUptoSaid : Prop := dhcpNamesUptoRow.holds Try.pinned (OpenSpec.upto dhcpNamesSpec)

/-- 'goosepondlaw42.DhcpBack', WHERE WHAT IT READS IS OF BULK AT MOST 1048576: true; the input reads as it did. -/
def dhcpBackUptoRow : OpenClaim := { program := "ytfgcbpchapkjbaa", sum := "15d4f13585ce950c2cf9abeb593531bf0355e4913786a3996601c78fc47f67c3", func := "goosepond/goosepondlaw42.DhcpBack", spec := "dhcpBack", inPlace := ["internal/bytealg.IndexByteString", "internal/bytealg.IndexString", "internal/abi.NoEscape", "internal/bytealg.MakeNoZero"], unfollowed := true, recurses := true, named := ["internal/bytealg.MaxLen"], apart := false, narrowed := true }
def DhcpBackUptoSaid : Prop := dhcpBackUptoRow.holds Try.pinned (OpenSpec.upto dhcpBackSpec)

/-- 'goosepondlaw42.DhcpBuilds', WHERE WHAT IT READS IS OF BULK AT MOST 1048576: true; the input reads as it did. -/
def dhcpBuildsUptoRow : OpenClaim := { program := "ytfgcbpchapkjbaa", sum := "15d4f13585ce950c2cf9abeb593531bf0355e4913786a3996601c78fc47f67c3", func := "goosepond/goosepondlaw42.DhcpBuilds", spec := "dhcpBuilds", inPlace := ["internal/bytealg.IndexByteString", "internal/bytealg.IndexString", "internal/abi.NoEscape", "internal/bytealg.MakeNoZero"], unfollowed := true, recurses := true, named := ["internal/bytealg.MaxLen"], apart := false, narrowed := true }
def DhcpBuildsUptoSaid : Prop := dhcpBuildsUptoRow.holds Try.pinned (OpenSpec.upto dhcpBuildsSpec)

end Rows
end Go.Proofs.Ytfgcbpchapkjbaa
