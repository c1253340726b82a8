/- The carriers: what elements of slices are. -/
namespace Ev.L3
structure InputR where
  Tick : Int
  Sensors : List (List Int)
  Commands : List ByteArray
  Height : Int
  Want : Int
end Ev.L3
