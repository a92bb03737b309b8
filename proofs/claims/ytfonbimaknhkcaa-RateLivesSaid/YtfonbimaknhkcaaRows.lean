/-
  No cell of these rows narrows 'for every input' (looked for: loops, veiled, ifaces, maps, wideKeys, modest, calm, conditions, laid).
  DERIVED. THE GIVEN ROWS OF THIS SEAT. 4 by the template 'for every input the law returns true; each argument reads behind the call as it read before'; 0 by the template 'total and deterministic' (their statements: YtfonbimaknhkcaaTotals.lean).
  GIVEN WITH THE SEED: the statements are not yours to turn. If you find one false, say at which input.
  Laid BY PROGRAM, IN A SANDBOX (cutbox-rows.mjs): the forced cells as the released guide's own fill.sh prints them over the translation 2047f5507e711fe3… (all of the seat's roots in one cut). By AI agents, Wed Nov 11 2026. No macro, syntax, notation, axiom, sorry.
-/
import Derived.Test.YtfonbimaknhkcaaChecked
import GoSem.Claim
import GoSem.ClaimJoined
import GoSem.ClaimMapViews
import Derived.JoinedTies
import Derived.KernelRfl
namespace Go.Proofs.Ytfonbimaknhkcaa
/- THE CELL 'sum', in the pinned program and in every row, IS THE sha256 OF THE DUMP (.gsa) THAT YtfonbimaknhkcaaProg.lean LOADS. Nothing in Lean hashes anything: it is a label: what it is worth is what the hold of that sum in a sandbox is worth. -/
noncomputable def Try.pinned : Pinned := { name := "ytfonbimaknhkcaa", sum := "2047f5507e711fe3e70705bd067d341f8cbee034b119727bbdbc58c916d7f2ce", checked := Try.checked }
namespace Rows
def none {H : Type} : Left H := { results := [], args := [] }

/-- 'goosepondlaw46.RateLives': WHATEVER THE INPUT: true; the input reads as it did. -/
def rateLivesSpec : ChangeSpec := { name := "rateLives", fn := fun _ => fun
  | [d1, d2, d3] => { results := [.lit (.bool true)], args := [d1, d2, d3] }
  | _ => none }
def rateLivesRow : OpenClaim := { program := "ytfonbimaknhkcaa", sum := "2047f5507e711fe3e70705bd067d341f8cbee034b119727bbdbc58c916d7f2ce", func := "goosepond/goosepondlaw46.RateLives", spec := "rateLives", unfollowed := true, recurses := true, apart := false }
def RateLivesSaid : Prop := rateLivesRow.holds Try.pinned (OpenSpec.ofChange rateLivesSpec)

/-- ITS FALSE NEIGHBOUR: 'it returns false'. Refute it at one input. -/
def rateLivesWrong : ChangeSpec := { name := "rateLives", fn := fun _ => fun
  | [d1, d2, d3] => { results := [.lit (.bool false)], args := [d1, d2, d3] }
  | _ => none }
def RateLivesWrongFalsely : Prop := rateLivesRow.holds Try.pinned (OpenSpec.ofChange rateLivesWrong)

/-- 'goosepondlaw46.RateBounds': WHATEVER THE INPUT: true; the input reads as it did. -/
def rateBoundsSpec : ChangeSpec := { name := "rateBounds", fn := fun _ => fun
  | [d1, d2, d3] => { results := [.lit (.bool true)], args := [d1, d2, d3] }
  | _ => none }
def rateBoundsRow : OpenClaim := { program := "ytfonbimaknhkcaa", sum := "2047f5507e711fe3e70705bd067d341f8cbee034b119727bbdbc58c916d7f2ce", func := "goosepond/goosepondlaw46.RateBounds", spec := "rateBounds", unfollowed := true, recurses := true, apart := false }
def RateBoundsSaid : Prop := rateBoundsRow.holds Try.pinned (OpenSpec.ofChange rateBoundsSpec)

/-- ITS FALSE NEIGHBOUR: 'it returns false'. Refute it at one input. -/
def rateBoundsWrong : ChangeSpec := { name := "rateBounds", fn := fun _ => fun
  | [d1, d2, d3] => { results := [.lit (.bool false)], args := [d1, d2, d3] }
  | _ => none }
def RateBoundsWrongFalsely : Prop := rateBoundsRow.holds Try.pinned (OpenSpec.ofChange rateBoundsWrong)

/-- 'goosepondlaw46.RateWaits': WHATEVER THE INPUT: true; the input reads as it did. -/
def rateWaitsSpec : ChangeSpec := { name := "rateWaits", fn := fun _ => fun
  | [d1, d2] => { results := [.lit (.bool true)], args := [d1, d2] }
  | _ => none }
def rateWaitsRow : OpenClaim := { program := "ytfonbimaknhkcaa", sum := "2047f5507e711fe3e70705bd067d341f8cbee034b119727bbdbc58c916d7f2ce", func := "goosepond/goosepondlaw46.RateWaits", spec := "rateWaits", unfollowed := true, recurses := true, apart := false }
def RateWaitsSaid : Prop := rateWaitsRow.holds Try.pinned (OpenSpec.ofChange rateWaitsSpec)

/-- ITS FALSE NEIGHBOUR: 'it returns false'. Refute it at one input. -/
def rateWaitsWrong : ChangeSpec := { name := "rateWaits", fn := fun _ => fun
  | [d1, d2] => { results := [.lit (.bool false)], args := [d1, d2] }
  | _ => none }
def RateWaitsWrongFalsely : Prop := rateWaitsRow.holds Try.pinned (OpenSpec.ofChange rateWaitsWrong)

/-- 'goosepondlaw46.RateNobody': WHATEVER THE INPUT: true; the input reads as it did. -/
def rateNobodySpec : ChangeSpec := { name := "rateNobody", fn := fun _ => fun
  | [d] => { results := [.lit (.bool true)], args := [d] }
  | _ => none }
def rateNobodyRow : OpenClaim := { program := "ytfonbimaknhkcaa", sum := "2047f5507e711fe3e70705bd067d341f8cbee034b119727bbdbc58c916d7f2ce", func := "goosepond/goosepondlaw46.RateNobody", spec := "rateNobody", unfollowed := true, recurses := true, apart := false }
def RateNobodySaid : Prop := rateNobodyRow.holds Try.pinned (OpenSpec.ofChange rateNobodySpec)

/-- ITS FALSE NEIGHBOUR: 'it returns false'. Refute it at one input. -/
def rateNobodyWrong : ChangeSpec := { name := "rateNobody", fn := fun _ => fun
  | [d] => { results := [.lit (.bool false)], args := [d] }
  | _ => none }
def RateNobodyWrongFalsely : Prop := rateNobodyRow.holds Try.pinned (OpenSpec.ofChange rateNobodyWrong)

/- THE SECOND FORM. 'bulk': how many values and letters a reading holds, each counted each time it is reached (what is shared counts as often as it is met; a slice's spare places count too). A statement '..UptoSaid' is the law's where the arguments, and the package variables that the reading takes, are together of bulk at most 1048576: NARROWER than '..Said'. Prove '..Said' where nothing that the law and all that it calls make is longer than what came in: it says more and counts as full. Else prove '..UptoSaid'. A law counts once. -/
mutual
def uptoBulk {H : Type} : DataW H → Nat
  | .lit (.string bytes) => bytes.length + 1
  | .lit _ => 1
  | .nil => 1
  | .ptr d => uptoBulk d + 1
  | .slice elems spare => uptoBulkAll elems + uptoBulkAll spare + 1
  | .agg parts => uptoBulkAll parts + 1
  | .iface _ d => uptoBulk d + 1
  | .map entries => uptoBulkEntries entries + 1
  | .held _ => 1
def uptoBulkAll {H : Type} : List (DataW H) → Nat
  | [] => 0
  | d :: r => uptoBulk d + uptoBulkAll r
def uptoBulkEntries {H : Type} : List (Lit × DataW H) → Nat
  | [] => 0
  | x :: r => uptoBulkEntry x + uptoBulkEntries r
def uptoBulkEntry {H : Type} : Lit × DataW H → Nat
  | (.string bytes, d) => bytes.length + uptoBulk d + 1
  | (_, d) => uptoBulk d + 1
 end
def uptoSmall : (H : Type) → List (DataW H) → Bool := fun _ ds => decide (uptoBulkAll ds ≤ 1048576)
def OpenSpec.upto (s : _root_.Go.ChangeSpec) : _root_.Go.OpenSpec := { _root_.Go.OpenSpec.ofChange s with cond := some uptoSmall }

/-- 'goosepondlaw46.RateLives', WHERE WHAT IT READS IS OF BULK AT MOST 1048576: true; the input reads as it did. -/
def rateLivesUptoRow : OpenClaim := { program := "ytfonbimaknhkcaa", sum := "2047f5507e711fe3e70705bd067d341f8cbee034b119727bbdbc58c916d7f2ce", func := "goosepond/goosepondlaw46.RateLives", spec := "rateLives", unfollowed := true, recurses := true, apart := false, narrowed := true }
def RateLivesUptoSaid : Prop := rateLivesUptoRow.holds Try.pinned (OpenSpec.upto rateLivesSpec)

/-- 'goosepondlaw46.RateBounds', WHERE WHAT IT READS IS OF BULK AT MOST 1048576: true; the input reads as it did. -/
def rateBoundsUptoRow : OpenClaim := { program := "ytfonbimaknhkcaa", sum := "2047f5507e711fe3e70705bd067d341f8cbee034b119727bbdbc58c916d7f2ce", func := "goosepond/goosepondlaw46.RateBounds", spec := "rateBounds", unfollowed := true, recurses := true, apart := false, narrowed := true }
def RateBoundsUptoSaid : Prop := rateBoundsUptoRow.holds Try.pinned (OpenSpec.upto rateBoundsSpec)

/-- 'goosepondlaw46.RateWaits', WHERE WHAT IT READS IS OF BULK AT MOST 1048576: true; the input reads as it did. -/
def rateWaitsUptoRow : OpenClaim := { program := "ytfonbimaknhkcaa", sum := "2047f5507e711fe3e70705bd067d341f8cbee034b119727bbdbc58c916d7f2ce", func := "goosepond/goosepondlaw46.RateWaits", spec := "rateWaits", unfollowed := true, recurses := true, apart := false, narrowed := true }
def RateWaitsUptoSaid : Prop := rateWaitsUptoRow.holds Try.pinned (OpenSpec.upto rateWaitsSpec)

/-- 'goosepondlaw46.RateNobody', WHERE WHAT IT READS IS OF BULK AT MOST 1048576: true; the input reads as it did. -/
def rateNobodyUptoRow : OpenClaim := { program := "ytfonbimaknhkcaa", sum := "2047f5507e711fe3e70705bd067d341f8cbee034b119727bbdbc58c916d7f2ce", func := "goosepond/goosepondlaw46.RateNobody", spec := "rateNobody", unfollowed := true, recurses := true, apart := false, narrowed := true }
def RateNobodyUptoSaid : Prop := rateNobodyUptoRow.holds Try.pinned (OpenSpec.upto rateNobodySpec)

end Rows
end Go.Proofs.Ytfonbimaknhkcaa
