/- stringslite.Clone at this program. -/
import Derived.Shelf.Pu.Clone
import Derived.Shelf.Lay
import Derived.Ground.MpProg
import Derived.Test.YtfmjabdpkfcbkaaGreatDoorProg
namespace Go.Proofs
open Go.Shelf Go.RowKit
shelf_lay LaysPu.n25 Mp 25 at Tryz as Tryz.cloneA
theorem Mq.clone_calls (s : ByteArray) (w : World) (hlim : s.size ≤ 281474976710656) :
    Calls Tryz.prog 338 #[.string s] w fun e w' => e = .returned (.string s) ∧ Below w.heap.size w w' := AnyPu.stringslite_Clone Tryz.cloneA s w hlim
end Go.Proofs
