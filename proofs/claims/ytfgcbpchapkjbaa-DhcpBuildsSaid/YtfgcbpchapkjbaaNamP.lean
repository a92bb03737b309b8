/-
  NameBack: the walk, as the row's frame takes it.
-/
import Derived.Test.YtfgcbpchapkjbaaNamN
import Derived.Test.YtfgcbpchapkjbaaRows4
namespace Go.Proofs.Ytfgcbpchapkjbaa
open Go.RowKit

theorem bs_of (s : ByteArray) : bs s.data.toList = s := Lib.mk_data s
theorem nback_any (s : ByteArray) (hs : s.size ≤ maxLen) (A : Option Addr) (n c : Nat) (d : List UInt8) (w : World) (h : BReads w A n (nums d)) (hc : n ≤ c) (hn : n ≤ 9223372036854775807) :
    Calls Try.prog 4 #[.string s, .slice A n c] w fun r w' => r = .returned (.bool true) ∧ Below w.heap.size w w' := by
  have := nback_walk s.data.toList (by rw [size_data]; unfold maxLen at hs; omega) A n c d w h hc hn
  rw [bs_of] at this
  exact this
end Go.Proofs.Ytfgcbpchapkjbaa
