/-
  No cell of these rows narrows 'for every input' (looked for: loops, veiled, ifaces, maps, wideKeys, modest, calm, conditions, laid).
  DERIVED. THE GIVEN ROWS OF THIS SEAT. 6 by the template 'for every input the law returns true; each argument reads behind the call as it read before'; 0 by the template 'total and deterministic' (their statements: YtffbimebgledoaaTotals.lean).
  GIVEN WITH THE SEED: the statements are not yours to turn. If you find one false, say at which input.
  Laid BY PROGRAM, IN A SANDBOX (cutbox-rows.mjs): the forced cells as the released guide's own fill.sh prints them over the translation 6b37995cb3b87503… (all of the seat's roots in one cut). By AI agents, Wed Nov 11 2026. No macro, syntax, notation, axiom, sorry.
-/
import Derived.Test.YtffbimebgledoaaChecked
import GoSem.Claim
import GoSem.ClaimJoined
import GoSem.ClaimMapViews
import Derived.JoinedTies
import Derived.KernelRfl
namespace Go.Proofs.Ytffbimebgledoaa
/- THE CELL 'sum', in the pinned program and in every row, IS THE sha256 OF THE DUMP (.gsa) THAT YtffbimebgledoaaProg.lean LOADS. Nothing in Lean hashes anything: it is a label: what it is worth is what the hold of that sum in a sandbox is worth. -/
noncomputable def Try.pinned : Pinned := { name := "ytffbimebgledoaa", sum := "6b37995cb3b87503ac23cc0aae8832d14d59eb875e14e722a7837c317667bd5e", checked := Try.checked }
namespace Rows
def none {H : Type} : Left H := { results := [], args := [] }

/-- 'goosepondlaw31.CountsLive': WHATEVER THE INPUT: true; the input reads as it did. -/
def countsLiveSpec : ChangeSpec := { name := "countsLive", fn := fun _ => fun
  | [d] => { results := [.lit (.bool true)], args := [d] }
  | _ => none }
def countsLiveRow : OpenClaim := { program := "ytffbimebgledoaa", sum := "6b37995cb3b87503ac23cc0aae8832d14d59eb875e14e722a7837c317667bd5e", func := "goosepond/goosepondlaw31.CountsLive", spec := "countsLive", apart := false }
def CountsLiveSaid : Prop := countsLiveRow.holds Try.pinned (OpenSpec.ofChange countsLiveSpec)

/-- ITS FALSE NEIGHBOUR: 'it returns false'. Refute it at one input. -/
def countsLiveWrong : ChangeSpec := { name := "countsLive", fn := fun _ => fun
  | [d] => { results := [.lit (.bool false)], args := [d] }
  | _ => none }
def CountsLiveWrongFalsely : Prop := countsLiveRow.holds Try.pinned (OpenSpec.ofChange countsLiveWrong)

/-- 'goosepondlaw34.NetOnce': WHATEVER THE INPUT: true; the input reads as it did. -/
def netOnceSpec : ChangeSpec := { name := "netOnce", fn := fun _ => fun
  | [d1, d2] => { results := [.lit (.bool true)], args := [d1, d2] }
  | _ => none }
def netOnceRow : OpenClaim := { program := "ytffbimebgledoaa", sum := "6b37995cb3b87503ac23cc0aae8832d14d59eb875e14e722a7837c317667bd5e", func := "goosepond/goosepondlaw34.NetOnce", spec := "netOnce", apart := false }
def NetOnceSaid : Prop := netOnceRow.holds Try.pinned (OpenSpec.ofChange netOnceSpec)

/-- ITS FALSE NEIGHBOUR: 'it returns false'. Refute it at one input. -/
def netOnceWrong : ChangeSpec := { name := "netOnce", fn := fun _ => fun
  | [d1, d2] => { results := [.lit (.bool false)], args := [d1, d2] }
  | _ => none }
def NetOnceWrongFalsely : Prop := netOnceRow.holds Try.pinned (OpenSpec.ofChange netOnceWrong)

/-- 'goosepondlaw31.CountsEach': WHATEVER THE INPUT: true; the input reads as it did. -/
def countsEachSpec : ChangeSpec := { name := "countsEach", fn := fun _ => fun
  | [d] => { results := [.lit (.bool true)], args := [d] }
  | _ => none }
def countsEachRow : OpenClaim := { program := "ytffbimebgledoaa", sum := "6b37995cb3b87503ac23cc0aae8832d14d59eb875e14e722a7837c317667bd5e", func := "goosepond/goosepondlaw31.CountsEach", spec := "countsEach", unfollowed := true, recurses := true, apart := false }
def CountsEachSaid : Prop := countsEachRow.holds Try.pinned (OpenSpec.ofChange countsEachSpec)

/-- ITS FALSE NEIGHBOUR: 'it returns false'. Refute it at one input. -/
def countsEachWrong : ChangeSpec := { name := "countsEach", fn := fun _ => fun
  | [d] => { results := [.lit (.bool false)], args := [d] }
  | _ => none }
def CountsEachWrongFalsely : Prop := countsEachRow.holds Try.pinned (OpenSpec.ofChange countsEachWrong)

/-- 'goosepondlaw31.CountsNobody': WHATEVER THE INPUT: true; the input reads as it did. -/
def countsNobodySpec : ChangeSpec := { name := "countsNobody", fn := fun _ => fun
  | [d] => { results := [.lit (.bool true)], args := [d] }
  | _ => none }
def countsNobodyRow : OpenClaim := { program := "ytffbimebgledoaa", sum := "6b37995cb3b87503ac23cc0aae8832d14d59eb875e14e722a7837c317667bd5e", func := "goosepond/goosepondlaw31.CountsNobody", spec := "countsNobody", unfollowed := true, recurses := true, apart := false }
def CountsNobodySaid : Prop := countsNobodyRow.holds Try.pinned (OpenSpec.ofChange countsNobodySpec)

/-- ITS FALSE NEIGHBOUR: 'it returns false'. Refute it at one input. -/
def countsNobodyWrong : ChangeSpec := { name := "countsNobody", fn := fun _ => fun
  | [d] => { results := [.lit (.bool false)], args := [d] }
  | _ => none }
def CountsNobodyWrongFalsely : Prop := countsNobodyRow.holds Try.pinned (OpenSpec.ofChange countsNobodyWrong)

/-- 'goosepondlaw34.NetNobody': WHATEVER THE INPUT: true; the input reads as it did. -/
def netNobodySpec : ChangeSpec := { name := "netNobody", fn := fun _ => fun
  | [d1, d2] => { results := [.lit (.bool true)], args := [d1, d2] }
  | _ => none }
def netNobodyRow : OpenClaim := { program := "ytffbimebgledoaa", sum := "6b37995cb3b87503ac23cc0aae8832d14d59eb875e14e722a7837c317667bd5e", func := "goosepond/goosepondlaw34.NetNobody", spec := "netNobody", unfollowed := true, recurses := true, apart := false }
def NetNobodySaid : Prop := netNobodyRow.holds Try.pinned (OpenSpec.ofChange netNobodySpec)

/-- ITS FALSE NEIGHBOUR: 'it returns false'. Refute it at one input. -/
def netNobodyWrong : ChangeSpec := { name := "netNobody", fn := fun _ => fun
  | [d1, d2] => { results := [.lit (.bool false)], args := [d1, d2] }
  | _ => none }
def NetNobodyWrongFalsely : Prop := netNobodyRow.holds Try.pinned (OpenSpec.ofChange netNobodyWrong)

/-- 'goosepondlaw34.NetLives': WHATEVER THE INPUT: true; the input reads as it did. -/
def netLivesSpec : ChangeSpec := { name := "netLives", fn := fun _ => fun
  | [d1, d2] => { results := [.lit (.bool true)], args := [d1, d2] }
  | _ => none }
def netLivesRow : OpenClaim := { program := "ytffbimebgledoaa", sum := "6b37995cb3b87503ac23cc0aae8832d14d59eb875e14e722a7837c317667bd5e", func := "goosepond/goosepondlaw34.NetLives", spec := "netLives", unfollowed := true, recurses := true, apart := false }
def NetLivesSaid : Prop := netLivesRow.holds Try.pinned (OpenSpec.ofChange netLivesSpec)

/-- ITS FALSE NEIGHBOUR: 'it returns false'. Refute it at one input. -/
def netLivesWrong : ChangeSpec := { name := "netLives", fn := fun _ => fun
  | [d1, d2] => { results := [.lit (.bool false)], args := [d1, d2] }
  | _ => none }
def NetLivesWrongFalsely : Prop := netLivesRow.holds Try.pinned (OpenSpec.ofChange netLivesWrong)

/- THE SECOND FORM. 'bulk': how many values and letters a reading holds, each counted each time it is reached (what is shared counts as often as it is met; a slice's spare places count too). A statement '..UptoSaid' is the law's where the arguments, and the package variables that the reading takes, are together of bulk at most 1048576: NARROWER than '..Said'. Prove '..Said' where nothing that the law and all that it calls make is longer than what came in: it says more and counts as full. Else prove '..UptoSaid'. A law counts once. -/
mutual
def uptoBulk {H : Type} : DataW H → Nat
  | .lit (.string bytes) => bytes.length + 1
  | .lit _ => 1
  | .nil => 1
  | .ptr d => uptoBulk d + 1
  | .slice elems spare => uptoBulkAll elems + uptoBulkAll spare + 1
  | .agg parts => uptoBulkAll parts + 1
  | .iface _ d => uptoBulk d + 1
  | .map entries => uptoBulkEntries entries + 1
  | .held _ => 1
def uptoBulkAll {H : Type} : List (DataW H) → Nat
  | [] => 0
  | d :: r => uptoBulk d + uptoBulkAll r
def uptoBulkEntries {H : Type} : List (Lit × DataW H) → Nat
  | [] => 0
  | x :: r => uptoBulkEntry x + uptoBulkEntries r
def uptoBulkEntry {H : Type} : Lit × DataW H → Nat
  | (.string bytes, d) => bytes.length + uptoBulk d + 1
  | (_, d) => uptoBulk d + 1
 end
def uptoSmall : (H : Type) → List (DataW H) → Bool := fun _ ds => decide (uptoBulkAll ds ≤ 1048576)
def OpenSpec.upto (s : _root_.Go.ChangeSpec) : _root_.Go.OpenSpec := { _root_.Go.OpenSpec.ofChange s with cond := some uptoSmall }

/-- 'goosepondlaw31.CountsLive', WHERE WHAT IT READS IS OF BULK AT MOST 1048576: true; the input reads as it did. -/
def countsLiveUptoRow : OpenClaim := { program := "ytffbimebgledoaa", sum := "6b37995cb3b87503ac23cc0aae8832d14d59eb875e14e722a7837c317667bd5e", func := "goosepond/goosepondlaw31.CountsLive", spec := "countsLive", apart := false, narrowed := true }
def CountsLiveUptoSaid : Prop := countsLiveUptoRow.holds Try.pinned (OpenSpec.upto countsLiveSpec)

/-- 'goosepondlaw34.NetOnce', WHERE WHAT IT READS IS OF BULK AT MOST 1048576: true; the input reads as it did. -/
def netOnceUptoRow : OpenClaim := { program := "ytffbimebgledoaa", sum := "6b37995cb3b87503ac23cc0aae8832d14d59eb875e14e722a7837c317667bd5e", func := "goosepond/goosepondlaw34.NetOnce", spec := "netOnce", apart := false, narrowed := true }
def NetOnceUptoSaid : Prop := netOnceUptoRow.holds Try.pinned (OpenSpec.upto netOnceSpec)

/-- 'goosepondlaw31.CountsEach', WHERE WHAT IT READS IS OF BULK AT MOST 1048576: true; the input reads as it did. -/
def countsEachUptoRow : OpenClaim := { program := "ytffbimebgledoaa", sum := "6b37995cb3b87503ac23cc0aae8832d14d59eb875e14e722a7837c317667bd5e", func := "goosepond/goosepondlaw31.CountsEach", spec := "countsEach", unfollowed := true, recurses := true, apart := false, narrowed := true }
def CountsEachUptoSaid : Prop := countsEachUptoRow.holds Try.pinned (OpenSpec.upto countsEachSpec)

/-- 'goosepondlaw31.CountsNobody', WHERE WHAT IT READS IS OF BULK AT MOST 1048576: true; the input reads as it did. -/
def countsNobodyUptoRow : OpenClaim := { program := "ytffbimebgledoaa", sum := "6b37995cb3b87503ac23cc0aae8832d14d59eb875e14e722a7837c317667bd5e", func := "goosepond/goosepondlaw31.CountsNobody", spec := "countsNobody", unfollowed := true, recurses := true, apart := false, narrowed := true }
def CountsNobodyUptoSaid : Prop := countsNobodyUptoRow.holds Try.pinned (OpenSpec.upto countsNobodySpec)

/-- 'goosepondlaw34.NetNobody', WHERE WHAT IT READS IS OF BULK AT MOST 1048576: true; the input reads as it did. -/
def netNobodyUptoRow : OpenClaim := { program := "ytffbimebgledoaa", sum := "6b37995cb3b87503ac23cc0aae8832d14d59eb875e14e722a7837c317667bd5e", func := "goosepond/goosepondlaw34.NetNobody", spec := "netNobody", unfollowed := true, recurses := true, apart := false, narrowed := true }
def NetNobodyUptoSaid : Prop := netNobodyUptoRow.holds Try.pinned (OpenSpec.upto netNobodySpec)

/-- 'goosepondlaw34.NetLives', WHERE WHAT IT READS IS OF BULK AT MOST 1048576: true; the input reads as it did. -/
def netLivesUptoRow : OpenClaim := { program := "ytffbimebgledoaa", sum := "6b37995cb3b87503ac23cc0aae8832d14d59eb875e14e722a7837c317667bd5e", func := "goosepond/goosepondlaw34.NetLives", spec := "netLives", unfollowed := true, recurses := true, apart := false, narrowed := true }
def NetLivesUptoSaid : Prop := netLivesUptoRow.holds Try.pinned (OpenSpec.upto netLivesSpec)

end Rows
end Go.Proofs.Ytffbimebgledoaa
