/- stringslite.Clone at this program. -/
import Derived.Test.YtfmjabdpkfcbkaaGreatDoorShelf
import Derived.Shelf.Pu.Clone
import Derived.Test.YtfmjabdpkfcbkaaGreatDoorProg
namespace Go.Proofs
open Go.Shelf Go.RowKit
theorem Mq.clone_calls (s : ByteArray) (w : World) (hlim : s.size ≤ 281474976710656) :
    Calls Tryz.prog 338 #[.string s] w fun e w' => e = .returned (.string s) ∧ Below w.heap.size w w' := AnyPu.stringslite_Clone Tryz.cloneA s w hlim
end Go.Proofs
