/-
  Bytes: to, eq, mark, held; Encrypt and Decrypt.
-/
import Derived.Test.YtbepgedckfhifaaGreatSuFf
import Derived.Test.YtbepgedckfhifaaGreatSuFo
import Derived.Test.YtbepgedckfhifaaGreatSuGi
import Derived.Test.YtbepgedckfhifaaGreatSuFz
namespace Go.Proofs.YtbepgedckfhifaaGreat
set_option linter.unusedVariables false
set_option linter.unusedSimpArgs false
set_option maxRecDepth 100000
set_option maxHeartbeats 4000000
attribute [local irreducible] Fn
def marksB (k : Int) (n : Nat) : List Int := (List.range n).map fun i : Nat => IntKind.wrap .u8 (k + (i : Int))
def encL (key : Int) (xs : List Int) (n : Nat) : List Int := (List.range n).map fun i : Nat => (xs.getD i 0 + khash key [(i : Int)]) % 256
def decL (key : Int) (xs : List Int) (n : Nat) : List Int := (List.range n).map fun i : Nat => (xs.getD i 0 - khash key [(i : Int)]) % 256
attribute [local irreducible] khash encL decL
end Go.Proofs.YtbepgedckfhifaaGreat
