/-
  name: what the row's frames take.
-/
import Derived.Test.YtfgcbpchapkjbaaNamK
import Derived.Test.YtfgcbpchapkjbaaRows4
