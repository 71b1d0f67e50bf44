/- Balances, lines and entries: the plain types. -/
import Derived.Test.YtbhndnjlplibmaaBase
namespace Go.Proofs.Ytbhndnjlplibmaa

structure LineM where
  acc : ByteArray
  cur : ByteArray
  amt : Int
structure EntryM where
  ref : ByteArray
  ent : Int
  per : Int
  lines : List LineM
structure BalM where
  ent : Int
  acc : ByteArray
  cur : ByteArray
  amt : Int
def firstOf : List Int → Int
  | [] => 0
  | c :: t => if c = 0 then firstOf t else c
end Go.Proofs.Ytbhndnjlplibmaa
