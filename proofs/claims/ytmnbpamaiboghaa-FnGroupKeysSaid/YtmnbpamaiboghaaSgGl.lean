/-
  Packets on links, hash keys, manifests, groups: to, sz, eq, mark.
-/
import Derived.Test.YtmnbpamaiboghaaSgFj
import Derived.Test.YtmnbpamaiboghaaSgFo
namespace Go.Proofs.Ytmnbpamaiboghaa
set_option linter.unusedVariables false
set_option linter.unusedSimpArgs false
set_option maxRecDepth 100000
set_option maxHeartbeats 4000000
attribute [local irreducible] Fn
abbrev CodedPacket_T := (Int) × (List Int) × (List Int) × Unit
instance : DecidableEq CodedPacket_T := (@instDecidableEqProd _ _ inferInstance (@instDecidableEqProd _ _ inferInstance (@instDecidableEqProd _ _ inferInstance inferInstance)))
abbrev CodedPacket_R (x : CodedPacket_T) : AV := (.cons (.I (x.1)) (.cons (.ri false .i64 (x.2.1)) (.cons (.ri false .i64 (x.2.2.1)) .nil)))
abbrev CodedPacket_O (x : CodedPacket_T) : AV := (.cons (.I (x.1)) (.cons (.oi 3 .i64 (x.2.1)) (.cons (.oi 3 .i64 (x.2.2.1)) .nil)))
def sz_CodedPacket (x : CodedPacket_T) : Nat := (x.2.1).length + (x.2.2.1).length
def W_CodedPacket (x : CodedPacket_T) : Prop := (x.2.1).length ≤ 9223372036854775807 ∧ (x.2.2.1).length ≤ 9223372036854775807
abbrev LinkPacket_T := (Int) × (Int) × (Int) × ((Int) × (List Int) × (List Int) × Unit) × (Int) × Unit
instance : DecidableEq LinkPacket_T := (@instDecidableEqProd _ _ inferInstance (@instDecidableEqProd _ _ inferInstance (@instDecidableEqProd _ _ inferInstance (@instDecidableEqProd _ _ inferInstance (@instDecidableEqProd _ _ inferInstance inferInstance)))))
abbrev LinkPacket_R (x : LinkPacket_T) : AV := (.cons (.I (x.1)) (.cons (.I (x.2.1)) (.cons (.I (x.2.2.1)) (.cons (.I (x.2.2.2.1.1)) (.cons (.ri false .i64 (x.2.2.2.1.2.1)) (.cons (.ri false .i64 (x.2.2.2.1.2.2.1)) (.cons (.I (x.2.2.2.2.1)) .nil)))))))
abbrev LinkPacket_O (x : LinkPacket_T) : AV := (.cons (.I (x.1)) (.cons (.I (x.2.1)) (.cons (.I (x.2.2.1)) (.cons (.I (x.2.2.2.1.1)) (.cons (.oi 3 .i64 (x.2.2.2.1.2.1)) (.cons (.oi 3 .i64 (x.2.2.2.1.2.2.1)) (.cons (.I (x.2.2.2.2.1)) .nil)))))))
def sz_LinkPacket (x : LinkPacket_T) : Nat := sz_CodedPacket (x.2.2.2.1)
def W_LinkPacket (x : LinkPacket_T) : Prop := W_CodedPacket (x.2.2.2.1)
abbrev LinkPacketS_T := List ((Int) × (Int) × (Int) × ((Int) × (List Int) × (List Int) × Unit) × (Int) × Unit)
def sz_LinkPacketS (xs : LinkPacketS_T) : Nat := tot (fun x : (Int) × (Int) × (Int) × ((Int) × (List Int) × (List Int) × Unit) × (Int) × Unit => sz_LinkPacket (x)) xs
def W_LinkPacketS (xs : LinkPacketS_T) : Prop := xs.length ≤ 9223372036854775807 ∧ ∀ i, i < xs.length → W_LinkPacket (xs.getD i default)
abbrev HashKey_T := (List Int) × Unit
instance : DecidableEq HashKey_T := (@instDecidableEqProd _ _ inferInstance inferInstance)
abbrev HashKey_R (x : HashKey_T) : AV := (.cons (.ri false .i64 (x.1)) .nil)
abbrev HashKey_O (x : HashKey_T) : AV := (.cons (.oi 3 .i64 (x.1)) .nil)
def sz_HashKey (x : HashKey_T) : Nat := (x.1).length
def W_HashKey (x : HashKey_T) : Prop := (x.1).length ≤ 9223372036854775807
abbrev Manifest_T := (Int) × (Int) × (Int) × (Int) × (List Int) × (Int) × Unit
instance : DecidableEq Manifest_T := (@instDecidableEqProd _ _ inferInstance (@instDecidableEqProd _ _ inferInstance (@instDecidableEqProd _ _ inferInstance (@instDecidableEqProd _ _ inferInstance (@instDecidableEqProd _ _ inferInstance (@instDecidableEqProd _ _ inferInstance inferInstance))))))
abbrev Manifest_R (x : Manifest_T) : AV := (.cons (.I (x.1)) (.cons (.I (x.2.1)) (.cons (.I (x.2.2.1)) (.cons (.I (x.2.2.2.1)) (.cons (.ri false .i64 (x.2.2.2.2.1)) (.cons (.I (x.2.2.2.2.2.1)) .nil))))))
abbrev Manifest_O (x : Manifest_T) : AV := (.cons (.I (x.1)) (.cons (.I (x.2.1)) (.cons (.I (x.2.2.1)) (.cons (.I (x.2.2.2.1)) (.cons (.oi 3 .i64 (x.2.2.2.2.1)) (.cons (.I (x.2.2.2.2.2.1)) .nil))))))
def sz_Manifest (x : Manifest_T) : Nat := (x.2.2.2.2.1).length
def W_Manifest (x : Manifest_T) : Prop := (x.2.2.2.2.1).length ≤ 9223372036854775807
abbrev Group_T := (Int) × (Int) × (List Int) × Unit
instance : DecidableEq Group_T := (@instDecidableEqProd _ _ inferInstance (@instDecidableEqProd _ _ inferInstance (@instDecidableEqProd _ _ inferInstance inferInstance)))
abbrev Group_R (x : Group_T) : AV := (.cons (.I (x.1)) (.cons (.I (x.2.1)) (.cons (.ri false .i64 (x.2.2.1)) .nil)))
abbrev Group_O (x : Group_T) : AV := (.cons (.I (x.1)) (.cons (.I (x.2.1)) (.cons (.oi 3 .i64 (x.2.2.1)) .nil)))
def sz_Group (x : Group_T) : Nat := (x.2.2.1).length
def W_Group (x : Group_T) : Prop := (x.2.2.1).length ≤ 9223372036854775807
abbrev WrappedKey_T := (Int) × (Int) × (Int) × (Int) × Unit
instance : DecidableEq WrappedKey_T := (@instDecidableEqProd _ _ inferInstance (@instDecidableEqProd _ _ inferInstance (@instDecidableEqProd _ _ inferInstance (@instDecidableEqProd _ _ inferInstance inferInstance))))
abbrev WrappedKey_R (x : WrappedKey_T) : AV := (.cons (.I (x.1)) (.cons (.I (x.2.1)) (.cons (.I (x.2.2.1)) (.cons (.I (x.2.2.2.1)) .nil))))
abbrev WrappedKey_O (x : WrappedKey_T) : AV := WrappedKey_R x
def sz_WrappedKey (x : WrappedKey_T) : Nat := 0
def W_WrappedKey (x : WrappedKey_T) : Prop := True
abbrev WrappedKeyS_T := List ((Int) × (Int) × (Int) × (Int) × Unit)
def sz_WrappedKeyS (xs : WrappedKeyS_T) : Nat := tot (fun x : (Int) × (Int) × (Int) × (Int) × Unit => sz_WrappedKey (x)) xs
def W_WrappedKeyS (xs : WrappedKeyS_T) : Prop := xs.length ≤ 9223372036854775807 ∧ ∀ i, i < xs.length → W_WrappedKey (xs.getD i default)
def mkWrappedKey (k : Int) (i : Nat) : WrappedKey_T := (k + (4 * i : Nat), k + (4 * i : Nat) + 1, k + (4 * i : Nat) + 1 + 1, k + (4 * i : Nat) + 1 + 1 + 1, ())
def mksWrappedKey (k : Int) (xs : List WrappedKey_T) (i j : Nat) : WrappedKey_T := if j < i then mkWrappedKey k j else xs.getD j default
def mkLWrappedKey (k : Int) (n : Nat) : List WrappedKey_T := (List.range n).map (mkWrappedKey k)
open Go.ChangeShapes Go.WideShapes Go.ChangeAt Go.RowKit Go.Deep
end Go.Proofs.Ytmnbpamaiboghaa
