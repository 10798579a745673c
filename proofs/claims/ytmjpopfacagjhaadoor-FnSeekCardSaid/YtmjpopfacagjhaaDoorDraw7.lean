/- Walks of the reference's draws of blocks. Conditions: the reader is one (Rdr), its place is bounded. -/
import Derived.Test.YtmjpopfacagjhaaDoorDraw6
namespace Go.Proofs.YtmjpopfacagjhaaDoor
set_option linter.unusedVariables false
set_option linter.unusedSimpArgs false
open Go Go.RowKit

def isBlk (n : Nat) (v : Value) : Prop := ∃ b : BlkD, v = blkV b ∧ b.body.size ≤ n
theorem isBlk_mk {n : Nat} (a : Int) (r : Bool) (s : Int) (d : ByteArray) (h : d.size ≤ n) : isBlk n (.agg #[.int .i64 a, .bool r, .int .i64 s, .string d]) := ⟨⟨a, r, s, d⟩, rfl, h⟩

end Go.Proofs.YtmjpopfacagjhaaDoor
