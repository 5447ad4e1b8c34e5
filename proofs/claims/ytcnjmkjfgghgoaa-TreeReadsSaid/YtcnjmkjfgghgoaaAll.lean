/- block, for every fuel. -/
import Derived.Test.YtcnjmkjfgghgoaaList
import Derived.Test.YtcnjmkjfgghgoaaDict
namespace Go.Proofs.Ytcnjmkjfgghgoaa
open Go.RowKit Go.Mp Go.Tr
theorem block_all {l : List Tok} (hll : l.length < 4398046511104) (f : Nat) : BlockOK l f := by
  induction f using Nat.strongRecOn with
  | _ f ih => exact block_any hll (dict_any hll fun g hg => value_any (ih g hg)) (list_any hll fun g hg => value_any (ih g hg))
end Go.Proofs.Ytcnjmkjfgghgoaa
