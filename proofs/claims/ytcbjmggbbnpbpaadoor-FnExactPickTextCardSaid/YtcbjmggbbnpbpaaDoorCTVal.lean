/- Values. Plain. -/
import Derived.Test.YtcbjmggbbnpbpaaDoorCMk
namespace Go.Proofs.YtcbjmggbbnpbpaaDoor.Lg
set_option linter.unusedVariables false

/-- a value -/
structure Val where
  kind : Int
  n : Int
  b : Bool
  s : ByteArray
  deriving DecidableEq
def vaC (x : Val) : List V := [.int .i64 x.kind, .int .i64 x.n, .bool x.b, .str x.s]
theorem vaC_len (x : Val) : (vaC x).length = 4 := rfl
def va0 : Val := ⟨0, 0, false, ⟨#[]⟩⟩
end Go.Proofs.YtcbjmggbbnpbpaaDoor.Lg
