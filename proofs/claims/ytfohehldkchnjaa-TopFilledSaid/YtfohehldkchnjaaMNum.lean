/- The walks of cal's numbers: Itoa, number, at the numerals that are written. -/
import Derived.Test.YtfohehldkchnjaaLow
import Derived.Test.YtfohehldkchnjaaShelf
import Derived.Lib.AppendIntMem
import Derived.WalkSmall
namespace Go.Proofs.Ytfohehldkchnjaa
open Go.RowKit

def bs (l : List UInt8) : ByteArray := ⟨l.toArray⟩
theorem bs_data (l : List UInt8) : (bs l).data.toList = l := rfl
theorem bs_size (l : List UInt8) : (bs l).size = l.length := by simp [bs, ByteArray.size]
theorem bs_inj {a b : ByteArray} (h : a.data.toList = b.data.toList) : a = b := by
  cases a; cases b
  simp only at h
  congr 1
  exact Array.toList_inj.1 h
theorem bs_append (a b : List UInt8) : bs a ++ bs b = bs (a ++ b) := bs_inj (by simp [bs])

/-- what the library's own variables hold -/
structure Env (w : World) : Prop where
  ml : ∃ m, w.cell? ⟨0, 0, none⟩ = some (.int .i64 m)
  tab : Lib.TabIs Try.prog w "internal/strconv.uint64pow10" .u64 Lib.pow10Tab
end Go.Proofs.Ytfohehldkchnjaa
