/- The carriers: what elements of slices are. -/
namespace Ev
structure WeightR where
  Signal : Int
  Times : Int
structure AtomR where
  Terms : List WeightR
  Num : Int
structure CodeR where
  Do : Int
  A : Int
  From : Int
  To : Int
structure TermR where
  Name : ByteArray
  Times : Int
structure NodeR where
  Op : Int
  N : Int
  From : Int
  To : Int
  Terms : List TermR
  Num : Int
structure SumR where
  a : Int
  b : Int
  c : Int
structure ProgR where
  Cells : Int
  Stack : Int
  Signals : Int
  Atoms : List AtomR
  Codes : List CodeR
  Props : List ByteArray
end Ev
