/- The context of one program: its layouts, its carriers, and that they fit. -/
import Derived.Test.YtbndhppjabbacaaEvG
import Derived.Test.YtbndhppjabbacaaEvC
import Derived.Test.YtbndhppjabbacaaProg
namespace Ev
open Go Go.Proofs
set_option maxRecDepth 100000
@[reducible] def T : TypeId → Type
  | 3 => Int
  | 4 => Bool
  | 5 => Int
  | 9 => ByteArray
  | 10 => ByteArray
  | 11 => ByteArray
  | 24 => List AtomR
  | 25 => List CodeR
  | 26 => List ByteArray
  | 28 => ProgR
  | 29 => List (List Int)
  | 38 => List Int
  | 54 => List WeightR
  | 56 => AtomR
  | 58 => CodeR
  | 62 => WeightR
  | 71 => NodeR
  | 73 => TermR
  | 93 => Int
  | 104 => Unit
  | 110 => List SumR
  | 112 => SumR
  | 133 => Int
  | _ => Unit
@[reducible] def Sg : Sig := ⟨T⟩
def lay : Lay := ⟨fun t => match Nat.blt t 141 with
  | true => (match Nat.ble t 69 with
  | true => (match Nat.ble t 34 with
   | true => (match Nat.ble t 16 with
    | true => (match Nat.ble t 7 with
     | true => (match Nat.ble t 3 with
      | true => (match Nat.ble t 1 with
       | true => (match Nat.ble t 0 with
        | true => ⟨.other, 0, 0, []⟩
        | false => ⟨.func, 1, 8, [.nilFunc]⟩)
       | false => (match Nat.ble t 2 with
        | true => ⟨.int .i64, 1, 8, [.int .i64 0]⟩
        | false => ⟨.int .i64, 1, 8, [.int .i64 0]⟩))
      | false => (match Nat.ble t 5 with
       | true => (match Nat.ble t 4 with
        | true => ⟨.bool, 1, 1, [.bool false]⟩
        | false => ⟨.int .u8, 1, 1, [.int .u8 0]⟩)
       | false => (match Nat.ble t 6 with
        | true => ⟨.int .u8, 1, 1, [.int .u8 0]⟩
        | false => ⟨.struct [(0, 2), (1, 3), (2, 4), (3, 6)], 4, 24, [.int .i64 0, .int .i64 0, .bool false, .int .u8 0]⟩)))
     | false => (match Nat.ble t 11 with
      | true => (match Nat.ble t 9 with
       | true => (match Nat.ble t 8 with
        | true => ⟨.struct [(0, 2), (1, 3), (2, 4), (3, 6)], 4, 24, [.int .i64 0, .int .i64 0, .bool false, .int .u8 0]⟩
        | false => ⟨.str, 1, 16, [.string .empty]⟩)
       | false => (match Nat.ble t 10 with
        | true => ⟨.str, 1, 16, [.string .empty]⟩
        | false => ⟨.str, 1, 16, [.string .empty]⟩))
      | false => (match Nat.ble t 13 with
       | true => (match Nat.ble t 12 with
        | true => ⟨.int .u64, 1, 8, [.int .u64 0]⟩
        | false => ⟨.struct [(0, 9), (1, 12)], 2, 24, [.string .empty, .int .u64 0]⟩)
       | false => (match Nat.ble t 14 with
        | true => ⟨.struct [(0, 9), (1, 12)], 2, 24, [.string .empty, .int .u64 0]⟩
        | false => (match Nat.ble t 15 with
         | true => ⟨.ptr 127, 1, 8, [.pointer none]⟩
         | false => ⟨.ptr 130, 1, 8, [.pointer none]⟩)))))
    | false => (match Nat.ble t 25 with
     | true => (match Nat.ble t 20 with
      | true => (match Nat.ble t 18 with
       | true => (match Nat.ble t 17 with
        | true => ⟨.ptr 139, 1, 8, [.pointer none]⟩
        | false => ⟨.struct [(0, 17)], 1, 8, [.pointer none]⟩)
       | false => (match Nat.ble t 19 with
        | true => ⟨.struct [(0, 17)], 1, 8, [.pointer none]⟩
        | false => ⟨.iface, 1, 16, [.nilIface]⟩))
      | false => (match Nat.ble t 22 with
       | true => (match Nat.ble t 21 with
        | true => ⟨.int .i32, 1, 4, [.int .i32 0]⟩
        | false => ⟨.struct [(0, 3), (1, 3), (2, 3)], 3, 24, [.int .i64 0, .int .i64 0, .int .i64 0]⟩)
       | false => (match Nat.ble t 23 with
        | true => ⟨.struct [(0, 3), (1, 3), (2, 3)], 3, 24, [.int .i64 0, .int .i64 0, .int .i64 0]⟩
        | false => (match Nat.ble t 24 with
         | true => ⟨.slice 56, 1, 24, [.slice none 0 0]⟩
         | false => ⟨.slice 58, 1, 24, [.slice none 0 0]⟩))))
     | false => (match Nat.ble t 29 with
      | true => (match Nat.ble t 27 with
       | true => (match Nat.ble t 26 with
        | true => ⟨.slice 9, 1, 24, [.slice none 0 0]⟩
        | false => ⟨.struct [(0, 23), (3, 24), (4, 25), (5, 26)], 6, 96, [.int .i64 0, .int .i64 0, .int .i64 0, .slice none 0 0, .slice none 0 0, .slice none 0 0]⟩)
       | false => (match Nat.ble t 28 with
        | true => ⟨.struct [(0, 23), (3, 24), (4, 25), (5, 26)], 6, 96, [.int .i64 0, .int .i64 0, .int .i64 0, .slice none 0 0, .slice none 0 0, .slice none 0 0]⟩
        | false => ⟨.slice 38, 1, 24, [.slice none 0 0]⟩))
      | false => (match Nat.ble t 31 with
       | true => (match Nat.ble t 30 with
        | true => ⟨.func, 1, 8, [.nilFunc]⟩
        | false => ⟨.int .i64, 1, 8, [.int .i64 0]⟩)
       | false => (match Nat.ble t 32 with
        | true => ⟨.func, 1, 8, [.nilFunc]⟩
        | false => (match Nat.ble t 33 with
         | true => ⟨.func, 1, 8, [.nilFunc]⟩
         | false => ⟨.ptr 43, 1, 8, [.pointer none]⟩))))))
   | false => (match Nat.ble t 51 with
    | true => (match Nat.ble t 42 with
     | true => (match Nat.ble t 38 with
      | true => (match Nat.ble t 36 with
       | true => (match Nat.ble t 35 with
        | true => ⟨.other, 0, 0, []⟩
        | false => ⟨.func, 1, 8, [.nilFunc]⟩)
       | false => (match Nat.ble t 37 with
        | true => ⟨.slice 4, 1, 24, [.slice none 0 0]⟩
        | false => ⟨.slice 3, 1, 24, [.slice none 0 0]⟩))
      | false => (match Nat.ble t 40 with
       | true => (match Nat.ble t 39 with
        | true => ⟨.func, 1, 8, [.nilFunc]⟩
        | false => ⟨.ptr 50, 1, 8, [.pointer none]⟩)
       | false => (match Nat.ble t 41 with
        | true => ⟨.slice 71, 1, 24, [.slice none 0 0]⟩
        | false => ⟨.struct [(0, 40), (1, 28), (7, 41), (8, 26), (9, 37), (10, 37), (11, 3), (12, 4)], 13, 216, [.pointer none, .int .i64 0, .int .i64 0, .int .i64 0, .slice none 0 0, .slice none 0 0, .slice none 0 0, .slice none 0 0, .slice none 0 0, .slice none 0 0, .slice none 0 0, .int .i64 0, .bool false]⟩)))
     | false => (match Nat.ble t 46 with
      | true => (match Nat.ble t 44 with
       | true => (match Nat.ble t 43 with
        | true => ⟨.struct [(0, 40), (1, 28), (7, 41), (8, 26), (9, 37), (10, 37), (11, 3), (12, 4)], 13, 216, [.pointer none, .int .i64 0, .int .i64 0, .int .i64 0, .slice none 0 0, .slice none 0 0, .slice none 0 0, .slice none 0 0, .slice none 0 0, .slice none 0 0, .slice none 0 0, .int .i64 0, .bool false]⟩
        | false => ⟨.func, 1, 8, [.nilFunc]⟩)
       | false => (match Nat.ble t 45 with
        | true => ⟨.func, 1, 8, [.nilFunc]⟩
        | false => ⟨.func, 1, 8, [.nilFunc]⟩))
      | false => (match Nat.ble t 48 with
       | true => (match Nat.ble t 47 with
        | true => ⟨.func, 1, 8, [.nilFunc]⟩
        | false => ⟨.func, 1, 8, [.nilFunc]⟩)
       | false => (match Nat.ble t 49 with
        | true => ⟨.struct [(0, 37), (1, 3), (2, 4)], 3, 40, [.slice none 0 0, .int .i64 0, .bool false]⟩
        | false => (match Nat.ble t 50 with
         | true => ⟨.struct [(0, 37), (1, 3), (2, 4)], 3, 40, [.slice none 0 0, .int .i64 0, .bool false]⟩
         | false => ⟨.func, 1, 8, [.nilFunc]⟩)))))
    | false => (match Nat.ble t 60 with
     | true => (match Nat.ble t 55 with
      | true => (match Nat.ble t 53 with
       | true => (match Nat.ble t 52 with
        | true => ⟨.func, 1, 8, [.nilFunc]⟩
        | false => ⟨.func, 1, 8, [.nilFunc]⟩)
       | false => (match Nat.ble t 54 with
        | true => ⟨.slice 62, 1, 24, [.slice none 0 0]⟩
        | false => ⟨.struct [(0, 54), (1, 3)], 2, 32, [.slice none 0 0, .int .i64 0]⟩))
      | false => (match Nat.ble t 57 with
       | true => (match Nat.ble t 56 with
        | true => ⟨.struct [(0, 54), (1, 3)], 2, 32, [.slice none 0 0, .int .i64 0]⟩
        | false => ⟨.struct [(0, 3), (1, 3), (2, 3), (3, 3)], 4, 32, [.int .i64 0, .int .i64 0, .int .i64 0, .int .i64 0]⟩)
       | false => (match Nat.ble t 58 with
        | true => ⟨.struct [(0, 3), (1, 3), (2, 3), (3, 3)], 4, 32, [.int .i64 0, .int .i64 0, .int .i64 0, .int .i64 0]⟩
        | false => (match Nat.ble t 59 with
         | true => ⟨.func, 1, 8, [.nilFunc]⟩
         | false => ⟨.func, 1, 8, [.nilFunc]⟩))))
     | false => (match Nat.ble t 64 with
      | true => (match Nat.ble t 62 with
       | true => (match Nat.ble t 61 with
        | true => ⟨.struct [(0, 3), (1, 3)], 2, 16, [.int .i64 0, .int .i64 0]⟩
        | false => ⟨.struct [(0, 3), (1, 3)], 2, 16, [.int .i64 0, .int .i64 0]⟩)
       | false => (match Nat.ble t 63 with
        | true => ⟨.array 20000 4, 20000, 20000, []⟩
        | false => ⟨.array 16 4, 16, 16, [.bool false, .bool false, .bool false, .bool false, .bool false, .bool false, .bool false, .bool false, .bool false, .bool false, .bool false, .bool false, .bool false, .bool false, .bool false, .bool false]⟩))
      | false => (match Nat.ble t 66 with
       | true => (match Nat.ble t 65 with
        | true => ⟨.func, 1, 8, [.nilFunc]⟩
        | false => ⟨.func, 1, 8, [.nilFunc]⟩)
       | false => (match Nat.ble t 67 with
        | true => ⟨.func, 1, 8, [.nilFunc]⟩
        | false => (match Nat.ble t 68 with
         | true => ⟨.func, 1, 8, [.nilFunc]⟩
         | false => ⟨.slice 73, 1, 24, [.slice none 0 0]⟩)))))))
  | false => (match Nat.ble t 104 with
   | true => (match Nat.ble t 86 with
    | true => (match Nat.ble t 77 with
     | true => (match Nat.ble t 73 with
      | true => (match Nat.ble t 71 with
       | true => (match Nat.ble t 70 with
        | true => ⟨.struct [(0, 3), (1, 3), (2, 3), (3, 3), (4, 69), (5, 3)], 6, 64, [.int .i64 0, .int .i64 0, .int .i64 0, .int .i64 0, .slice none 0 0, .int .i64 0]⟩
        | false => ⟨.struct [(0, 3), (1, 3), (2, 3), (3, 3), (4, 69), (5, 3)], 6, 64, [.int .i64 0, .int .i64 0, .int .i64 0, .int .i64 0, .slice none 0 0, .int .i64 0]⟩)
       | false => (match Nat.ble t 72 with
        | true => ⟨.struct [(0, 9), (1, 3)], 2, 24, [.string .empty, .int .i64 0]⟩
        | false => ⟨.struct [(0, 9), (1, 3)], 2, 24, [.string .empty, .int .i64 0]⟩))
      | false => (match Nat.ble t 75 with
       | true => (match Nat.ble t 74 with
        | true => ⟨.other, 0, 0, []⟩
        | false => ⟨.func, 1, 8, [.nilFunc]⟩)
       | false => (match Nat.ble t 76 with
        | true => ⟨.func, 1, 8, [.nilFunc]⟩
        | false => ⟨.func, 1, 8, [.nilFunc]⟩)))
     | false => (match Nat.ble t 81 with
      | true => (match Nat.ble t 79 with
       | true => (match Nat.ble t 78 with
        | true => ⟨.ptr 81, 1, 8, [.pointer none]⟩
        | false => ⟨.map 3 104, 1, 8, [.map none]⟩)
       | false => (match Nat.ble t 80 with
        | true => ⟨.struct [(0, 28), (6, 79), (7, 79)], 8, 112, [.int .i64 0, .int .i64 0, .int .i64 0, .slice none 0 0, .slice none 0 0, .slice none 0 0, .map none, .map none]⟩
        | false => ⟨.struct [(0, 28), (6, 79), (7, 79)], 8, 112, [.int .i64 0, .int .i64 0, .int .i64 0, .slice none 0 0, .slice none 0 0, .slice none 0 0, .map none, .map none]⟩))
      | false => (match Nat.ble t 83 with
       | true => (match Nat.ble t 82 with
        | true => ⟨.func, 1, 8, [.nilFunc]⟩
        | false => ⟨.func, 1, 8, [.nilFunc]⟩)
       | false => (match Nat.ble t 84 with
        | true => ⟨.func, 1, 8, [.nilFunc]⟩
        | false => (match Nat.ble t 85 with
         | true => ⟨.func, 1, 8, [.nilFunc]⟩
         | false => ⟨.func, 1, 8, [.nilFunc]⟩)))))
    | false => (match Nat.ble t 95 with
     | true => (match Nat.ble t 90 with
      | true => (match Nat.ble t 88 with
       | true => (match Nat.ble t 87 with
        | true => ⟨.func, 1, 8, [.nilFunc]⟩
        | false => ⟨.func, 1, 8, [.nilFunc]⟩)
       | false => (match Nat.ble t 89 with
        | true => ⟨.func, 1, 8, [.nilFunc]⟩
        | false => ⟨.func, 1, 8, [.nilFunc]⟩))
      | false => (match Nat.ble t 92 with
       | true => (match Nat.ble t 91 with
        | true => ⟨.func, 1, 8, [.nilFunc]⟩
        | false => ⟨.func, 1, 8, [.nilFunc]⟩)
       | false => (match Nat.ble t 93 with
        | true => ⟨.int .u64, 1, 8, [.int .u64 0]⟩
        | false => (match Nat.ble t 94 with
         | true => ⟨.func, 1, 8, [.nilFunc]⟩
         | false => ⟨.func, 1, 8, [.nilFunc]⟩))))
     | false => (match Nat.ble t 99 with
      | true => (match Nat.ble t 97 with
       | true => (match Nat.ble t 96 with
        | true => ⟨.func, 1, 8, [.nilFunc]⟩
        | false => ⟨.func, 1, 8, [.nilFunc]⟩)
       | false => (match Nat.ble t 98 with
        | true => ⟨.func, 1, 8, [.nilFunc]⟩
        | false => ⟨.func, 1, 8, [.nilFunc]⟩))
      | false => (match Nat.ble t 101 with
       | true => (match Nat.ble t 100 with
        | true => ⟨.func, 1, 8, [.nilFunc]⟩
        | false => ⟨.func, 1, 8, [.nilFunc]⟩)
       | false => (match Nat.ble t 102 with
        | true => ⟨.func, 1, 8, [.nilFunc]⟩
        | false => (match Nat.ble t 103 with
         | true => ⟨.func, 1, 8, [.nilFunc]⟩
         | false => ⟨.struct [], 0, 0, []⟩))))))
   | false => (match Nat.ble t 122 with
    | true => (match Nat.ble t 113 with
     | true => (match Nat.ble t 108 with
      | true => (match Nat.ble t 106 with
       | true => (match Nat.ble t 105 with
        | true => ⟨.other, 0, 0, []⟩
        | false => ⟨.other, 0, 0, []⟩)
       | false => (match Nat.ble t 107 with
        | true => ⟨.func, 1, 8, [.nilFunc]⟩
        | false => ⟨.array 20 5, 20, 20, [.int .u8 0, .int .u8 0, .int .u8 0, .int .u8 0, .int .u8 0, .int .u8 0, .int .u8 0, .int .u8 0, .int .u8 0, .int .u8 0, .int .u8 0, .int .u8 0, .int .u8 0, .int .u8 0, .int .u8 0, .int .u8 0, .int .u8 0, .int .u8 0, .int .u8 0, .int .u8 0]⟩))
      | false => (match Nat.ble t 110 with
       | true => (match Nat.ble t 109 with
        | true => ⟨.slice 5, 1, 24, [.slice none 0 0]⟩
        | false => ⟨.slice 112, 1, 24, [.slice none 0 0]⟩)
       | false => (match Nat.ble t 111 with
        | true => ⟨.array 3 93, 3, 24, [.int .u64 0, .int .u64 0, .int .u64 0]⟩
        | false => (match Nat.ble t 112 with
         | true => ⟨.array 3 93, 3, 24, [.int .u64 0, .int .u64 0, .int .u64 0]⟩
         | false => ⟨.func, 1, 8, [.nilFunc]⟩))))
     | false => (match Nat.ble t 117 with
      | true => (match Nat.ble t 115 with
       | true => (match Nat.ble t 114 with
        | true => ⟨.func, 1, 8, [.nilFunc]⟩
        | false => ⟨.func, 1, 8, [.nilFunc]⟩)
       | false => (match Nat.ble t 116 with
        | true => ⟨.func, 1, 8, [.nilFunc]⟩
        | false => ⟨.func, 1, 8, [.nilFunc]⟩))
      | false => (match Nat.ble t 119 with
       | true => (match Nat.ble t 118 with
        | true => ⟨.func, 1, 8, [.nilFunc]⟩
        | false => ⟨.other, 0, 0, []⟩)
       | false => (match Nat.ble t 120 with
        | true => ⟨.func, 1, 8, [.nilFunc]⟩
        | false => (match Nat.ble t 121 with
         | true => ⟨.func, 1, 8, [.nilFunc]⟩
         | false => ⟨.func, 1, 8, [.nilFunc]⟩)))))
    | false => (match Nat.ble t 131 with
     | true => (match Nat.ble t 126 with
      | true => (match Nat.ble t 124 with
       | true => (match Nat.ble t 123 with
        | true => ⟨.func, 1, 8, [.nilFunc]⟩
        | false => ⟨.int .u64, 1, 8, [.int .u64 0]⟩)
       | false => (match Nat.ble t 125 with
        | true => ⟨.func, 1, 8, [.nilFunc]⟩
        | false => ⟨.struct [(0, 17), (1, 17), (2, 17), (3, 9)], 4, 40, [.pointer none, .pointer none, .pointer none, .string .empty]⟩))
      | false => (match Nat.ble t 128 with
       | true => (match Nat.ble t 127 with
        | true => ⟨.struct [(0, 17), (1, 17), (2, 17), (3, 9)], 4, 40, [.pointer none, .pointer none, .pointer none, .string .empty]⟩
        | false => ⟨.array 0 16, 0, 0, []⟩)
       | false => (match Nat.ble t 129 with
        | true => ⟨.struct [(0, 128)], 0, 0, []⟩
        | false => (match Nat.ble t 130 with
         | true => ⟨.struct [(0, 128)], 0, 0, []⟩
         | false => ⟨.int .u32, 1, 4, [.int .u32 0]⟩))))
     | false => (match Nat.ble t 135 with
      | true => (match Nat.ble t 133 with
       | true => (match Nat.ble t 132 with
        | true => ⟨.int .u8, 1, 1, [.int .u8 0]⟩
        | false => ⟨.int .u8, 1, 1, [.int .u8 0]⟩)
       | false => (match Nat.ble t 134 with
        | true => ⟨.func, 1, 8, [.nilFunc]⟩
        | false => ⟨.ptr 5, 1, 8, [.pointer none]⟩))
      | false => (match Nat.ble t 137 with
       | true => (match Nat.ble t 136 with
        | true => ⟨.int .i32, 1, 4, [.int .i32 0]⟩
        | false => ⟨.int .i32, 1, 4, [.int .i32 0]⟩)
       | false => (match Nat.ble t 138 with
        | true => ⟨.struct [(0, 12), (1, 12), (2, 131), (3, 132), (4, 5), (5, 5), (6, 133), (7, 134), (8, 135), (9, 136), (10, 137)], 11, 48, [.int .u64 0, .int .u64 0, .int .u32 0, .int .u8 0, .int .u8 0, .int .u8 0, .int .u8 0, .nilFunc, .pointer none, .int .i32 0, .int .i32 0]⟩
        | false => (match Nat.ble t 139 with
         | true => ⟨.struct [(0, 12), (1, 12), (2, 131), (3, 132), (4, 5), (5, 5), (6, 133), (7, 134), (8, 135), (9, 136), (10, 137)], 11, 48, [.int .u64 0, .int .u64 0, .int .u32 0, .int .u8 0, .int .u8 0, .int .u8 0, .int .u8 0, .nilFunc, .pointer none, .int .i32 0, .int .i32 0]⟩
         | false => ⟨.other, 1, 8, [.pointer none]⟩))))))))
  | false => ⟨.other, 0, 0, []⟩⟩
def enc3 (x : Int) : List (AV Sg) := [.int .i64 x]
def dec3 : List (AV Sg) → Option Int
  | [a0] => match rdInt .i64 a0 with
    | none => none
    | some y0 => some y0
  | _ => none
def zero3 : Int := 0
def enc4 (x : Bool) : List (AV Sg) := [.bool x]
def dec4 : List (AV Sg) → Option Bool
  | [a0] => match rdBool a0 with
    | none => none
    | some y0 => some y0
  | _ => none
def zero4 : Bool := false
def enc5 (x : Int) : List (AV Sg) := [.int .u8 x]
def dec5 : List (AV Sg) → Option Int
  | [a0] => match rdInt .u8 a0 with
    | none => none
    | some y0 => some y0
  | _ => none
def zero5 : Int := 0
def enc9 (x : ByteArray) : List (AV Sg) := [.str x]
def dec9 : List (AV Sg) → Option ByteArray
  | [a0] => match rdStr a0 with
    | none => none
    | some y0 => some y0
  | _ => none
def zero9 : ByteArray := ByteArray.empty
def enc10 (x : ByteArray) : List (AV Sg) := [.str x]
def dec10 : List (AV Sg) → Option ByteArray
  | [a0] => match rdStr a0 with
    | none => none
    | some y0 => some y0
  | _ => none
def zero10 : ByteArray := ByteArray.empty
def enc11 (x : ByteArray) : List (AV Sg) := [.str x]
def dec11 : List (AV Sg) → Option ByteArray
  | [a0] => match rdStr a0 with
    | none => none
    | some y0 => some y0
  | _ => none
def zero11 : ByteArray := ByteArray.empty
def enc24 (x : List AtomR) : List (AV Sg) := [.imm (S := Sg) 56 x]
def dec24 : List (AV Sg) → Option (List AtomR)
  | [a0] => match rdImm (S := Sg) 56 a0 with
    | none => none
    | some y0 => some y0
  | _ => none
def zero24 : List AtomR := []
def enc25 (x : List CodeR) : List (AV Sg) := [.imm (S := Sg) 58 x]
def dec25 : List (AV Sg) → Option (List CodeR)
  | [a0] => match rdImm (S := Sg) 58 a0 with
    | none => none
    | some y0 => some y0
  | _ => none
def zero25 : List CodeR := []
def enc26 (x : List ByteArray) : List (AV Sg) := [.imm (S := Sg) 9 x]
def dec26 : List (AV Sg) → Option (List ByteArray)
  | [a0] => match rdImm (S := Sg) 9 a0 with
    | none => none
    | some y0 => some y0
  | _ => none
def zero26 : List ByteArray := []
def enc28 (x : ProgR) : List (AV Sg) := [.int .i64 x.Cells, .int .i64 x.Stack, .int .i64 x.Signals, .imm (S := Sg) 56 x.Atoms, .imm (S := Sg) 58 x.Codes, .imm (S := Sg) 9 x.Props]
def dec28 : List (AV Sg) → Option ProgR
  | [a0, a1, a2, a3, a4, a5] => match rdInt .i64 a0 with
    | none => none
    | some y0 => match rdInt .i64 a1 with
    | none => none
    | some y1 => match rdInt .i64 a2 with
    | none => none
    | some y2 => match rdImm (S := Sg) 56 a3 with
    | none => none
    | some y3 => match rdImm (S := Sg) 58 a4 with
    | none => none
    | some y4 => match rdImm (S := Sg) 9 a5 with
    | none => none
    | some y5 => some ⟨y0, y1, y2, y3, y4, y5⟩
  | _ => none
def zero28 : ProgR := ⟨0, 0, 0, [], [], []⟩
def enc29 (x : List (List Int)) : List (AV Sg) := [.imm (S := Sg) 38 x]
def dec29 : List (AV Sg) → Option (List (List Int))
  | [a0] => match rdImm (S := Sg) 38 a0 with
    | none => none
    | some y0 => some y0
  | _ => none
def zero29 : List (List Int) := []
def enc38 (x : List Int) : List (AV Sg) := [.imm (S := Sg) 3 x]
def dec38 : List (AV Sg) → Option (List Int)
  | [a0] => match rdImm (S := Sg) 3 a0 with
    | none => none
    | some y0 => some y0
  | _ => none
def zero38 : List Int := []
def enc54 (x : List WeightR) : List (AV Sg) := [.imm (S := Sg) 62 x]
def dec54 : List (AV Sg) → Option (List WeightR)
  | [a0] => match rdImm (S := Sg) 62 a0 with
    | none => none
    | some y0 => some y0
  | _ => none
def zero54 : List WeightR := []
def enc56 (x : AtomR) : List (AV Sg) := [.imm (S := Sg) 62 x.Terms, .int .i64 x.Num]
def dec56 : List (AV Sg) → Option AtomR
  | [a0, a1] => match rdImm (S := Sg) 62 a0 with
    | none => none
    | some y0 => match rdInt .i64 a1 with
    | none => none
    | some y1 => some ⟨y0, y1⟩
  | _ => none
def zero56 : AtomR := ⟨[], 0⟩
def enc58 (x : CodeR) : List (AV Sg) := [.int .i64 x.Do, .int .i64 x.A, .int .i64 x.From, .int .i64 x.To]
def dec58 : List (AV Sg) → Option CodeR
  | [a0, a1, a2, a3] => match rdInt .i64 a0 with
    | none => none
    | some y0 => match rdInt .i64 a1 with
    | none => none
    | some y1 => match rdInt .i64 a2 with
    | none => none
    | some y2 => match rdInt .i64 a3 with
    | none => none
    | some y3 => some ⟨y0, y1, y2, y3⟩
  | _ => none
def zero58 : CodeR := ⟨0, 0, 0, 0⟩
def enc62 (x : WeightR) : List (AV Sg) := [.int .i64 x.Signal, .int .i64 x.Times]
def dec62 : List (AV Sg) → Option WeightR
  | [a0, a1] => match rdInt .i64 a0 with
    | none => none
    | some y0 => match rdInt .i64 a1 with
    | none => none
    | some y1 => some ⟨y0, y1⟩
  | _ => none
def zero62 : WeightR := ⟨0, 0⟩
def enc71 (x : NodeR) : List (AV Sg) := [.int .i64 x.Op, .int .i64 x.N, .int .i64 x.From, .int .i64 x.To, .imm (S := Sg) 73 x.Terms, .int .i64 x.Num]
def dec71 : List (AV Sg) → Option NodeR
  | [a0, a1, a2, a3, a4, a5] => match rdInt .i64 a0 with
    | none => none
    | some y0 => match rdInt .i64 a1 with
    | none => none
    | some y1 => match rdInt .i64 a2 with
    | none => none
    | some y2 => match rdInt .i64 a3 with
    | none => none
    | some y3 => match rdImm (S := Sg) 73 a4 with
    | none => none
    | some y4 => match rdInt .i64 a5 with
    | none => none
    | some y5 => some ⟨y0, y1, y2, y3, y4, y5⟩
  | _ => none
def zero71 : NodeR := ⟨0, 0, 0, 0, [], 0⟩
def enc73 (x : TermR) : List (AV Sg) := [.str x.Name, .int .i64 x.Times]
def dec73 : List (AV Sg) → Option TermR
  | [a0, a1] => match rdStr a0 with
    | none => none
    | some y0 => match rdInt .i64 a1 with
    | none => none
    | some y1 => some ⟨y0, y1⟩
  | _ => none
def zero73 : TermR := ⟨ByteArray.empty, 0⟩
def enc93 (x : Int) : List (AV Sg) := [.int .u64 x]
def dec93 : List (AV Sg) → Option Int
  | [a0] => match rdInt .u64 a0 with
    | none => none
    | some y0 => some y0
  | _ => none
def zero93 : Int := 0
def enc104 (_ : Unit) : List (AV Sg) := []
def dec104 : List (AV Sg) → Option Unit
  | [] => some ()
  | _ => none
def zero104 : Unit := ()
def enc110 (x : List SumR) : List (AV Sg) := [.imm (S := Sg) 112 x]
def dec110 : List (AV Sg) → Option (List SumR)
  | [a0] => match rdImm (S := Sg) 112 a0 with
    | none => none
    | some y0 => some y0
  | _ => none
def zero110 : List SumR := []
def enc112 (x : SumR) : List (AV Sg) := [.int .u64 x.a, .int .u64 x.b, .int .u64 x.c]
def dec112 : List (AV Sg) → Option SumR
  | [a0, a1, a2] => match rdInt .u64 a0 with
    | none => none
    | some y0 => match rdInt .u64 a1 with
    | none => none
    | some y1 => match rdInt .u64 a2 with
    | none => none
    | some y2 => some ⟨y0, y1, y2⟩
  | _ => none
def zero112 : SumR := ⟨0, 0, 0⟩
def enc133 (x : Int) : List (AV Sg) := [.int .u8 x]
def dec133 : List (AV Sg) → Option Int
  | [a0] => match rdInt .u8 a0 with
    | none => none
    | some y0 => some y0
  | _ => none
def zero133 : Int := 0
def enc (e : TypeId) : T e → List (AV Sg) := match e with
  | 3 => enc3
  | 4 => enc4
  | 5 => enc5
  | 9 => enc9
  | 10 => enc10
  | 11 => enc11
  | 24 => enc24
  | 25 => enc25
  | 26 => enc26
  | 28 => enc28
  | 29 => enc29
  | 38 => enc38
  | 54 => enc54
  | 56 => enc56
  | 58 => enc58
  | 62 => enc62
  | 71 => enc71
  | 73 => enc73
  | 93 => enc93
  | 104 => enc104
  | 110 => enc110
  | 112 => enc112
  | 133 => enc133
  | e => fun _ => List.replicate (lay.size e) .nilp
def dec (e : TypeId) : List (AV Sg) → Option (T e) := match e with
  | 3 => dec3
  | 4 => dec4
  | 5 => dec5
  | 9 => dec9
  | 10 => dec10
  | 11 => dec11
  | 24 => dec24
  | 25 => dec25
  | 26 => dec26
  | 28 => dec28
  | 29 => dec29
  | 38 => dec38
  | 54 => dec54
  | 56 => dec56
  | 58 => dec58
  | 62 => dec62
  | 71 => dec71
  | 73 => dec73
  | 93 => dec93
  | 104 => dec104
  | 110 => dec110
  | 112 => dec112
  | 133 => dec133
  | _ => fun _ => none
theorem inst (e : TypeId) : Nonempty (T e) := by
  unfold T
  split
  · exact ⟨zero3⟩
  · exact ⟨zero4⟩
  · exact ⟨zero5⟩
  · exact ⟨zero9⟩
  · exact ⟨zero10⟩
  · exact ⟨zero11⟩
  · exact ⟨zero24⟩
  · exact ⟨zero25⟩
  · exact ⟨zero26⟩
  · exact ⟨zero28⟩
  · exact ⟨zero29⟩
  · exact ⟨zero38⟩
  · exact ⟨zero54⟩
  · exact ⟨zero56⟩
  · exact ⟨zero58⟩
  · exact ⟨zero62⟩
  · exact ⟨zero71⟩
  · exact ⟨zero73⟩
  · exact ⟨zero93⟩
  · exact ⟨zero104⟩
  · exact ⟨zero110⟩
  · exact ⟨zero112⟩
  · exact ⟨zero133⟩
  · exact ⟨()⟩
noncomputable def zero (e : TypeId) : T e := match e with
  | 3 => zero3
  | 4 => zero4
  | 5 => zero5
  | 9 => zero9
  | 10 => zero10
  | 11 => zero11
  | 24 => zero24
  | 25 => zero25
  | 26 => zero26
  | 28 => zero28
  | 29 => zero29
  | 38 => zero38
  | 54 => zero54
  | 56 => zero56
  | 58 => zero58
  | 62 => zero62
  | 71 => zero71
  | 73 => zero73
  | 93 => zero93
  | 104 => zero104
  | 110 => zero110
  | 112 => zero112
  | 133 => zero133
  | e => Classical.choice (inst e)
def asLst : TypeId → Bool
  | 63 => true
  | 64 => true
  | 108 => true
  | _ => false
def has : TypeId → Bool
  | 3 => true
  | 4 => true
  | 5 => true
  | 9 => true
  | 10 => true
  | 11 => true
  | 24 => true
  | 25 => true
  | 26 => true
  | 28 => true
  | 29 => true
  | 38 => true
  | 54 => true
  | 56 => true
  | 58 => true
  | 62 => true
  | 71 => true
  | 73 => true
  | 93 => true
  | 110 => true
  | 112 => true
  | 133 => true
  | _ => false
def isKey : TypeId → Bool
  | 3 => true
  | 5 => true
  | 9 => true
  | 10 => true
  | 11 => true
  | 93 => true
  | 133 => true
  | _ => false
def isVal : TypeId → Bool
  | 104 => true
  | _ => false
def frz : FuncId → List (Nat × TypeId)
  | 3 => [(0, 28), (1, 29)]
  | 4 => [(0, 28), (1, 29), (2, 38)]
  | 5 => [(0, 38)]
  | 6 => [(0, 28)]
  | 7 => [(0, 28)]
  | 8 => [(0, 28)]
  | 10 => [(0, 28)]
  | 11 => [(1, 38)]
  | 15 => [(0, 38), (1, 38)]
  | 17 => [(1, 29)]
  | 21 => [(0, 25)]
  | 22 => [(0, 9)]
  | 23 => [(0, 28), (1, 58)]
  | 24 => [(0, 58)]
  | 25 => [(0, 25)]
  | 26 => [(0, 28)]
  | 27 => [(0, 28)]
  | 28 => [(0, 3)]
  | 30 => [(1, 3), (2, 38)]
  | 32 => [(1, 58)]
  | 33 => [(0, 5)]
  | 34 => [(0, 5)]
  | 35 => [(0, 3), (1, 3), (2, 3)]
  | 36 => [(0, 26)]
  | 37 => [(0, 9)]
  | 38 => [(0, 9)]
  | 39 => [(0, 24)]
  | 40 => [(0, 56)]
  | 41 => [(1, 56)]
  | 42 => [(0, 25)]
  | 43 => [(0, 58)]
  | 44 => [(1, 58)]
  | 45 => [(0, 25)]
  | 46 => [(0, 25)]
  | 47 => [(0, 25)]
  | 48 => [(0, 24)]
  | 49 => [(0, 25)]
  | 50 => [(0, 26)]
  | 51 => [(0, 54)]
  | 52 => [(0, 93)]
  | 53 => [(0, 3)]
  | 54 => [(0, 71), (1, 26), (2, 38)]
  | 55 => [(1, 3), (2, 4)]
  | 56 => [(1, 58), (2, 4), (3, 4)]
  | 57 => [(0, 26)]
  | 58 => [(0, 9)]
  | 59 => [(0, 24)]
  | 60 => [(0, 54)]
  | 61 => [(0, 62)]
  | 62 => [(0, 25)]
  | 63 => [(1, 58)]
  | 64 => [(0, 58)]
  | 65 => [(0, 58)]
  | 66 => [(0, 3), (1, 3)]
  | 67 => [(0, 26), (1, 38), (2, 9)]
  | 68 => [(0, 110)]
  | 69 => [(0, 112), (1, 112)]
  | 70 => [(0, 5)]
  | 71 => [(0, 9)]
  | 72 => [(0, 5)]
  | 73 => [(0, 5)]
  | 74 => [(0, 54)]
  | 75 => [(0, 93), (1, 93)]
  | 76 => [(0, 3)]
  | 77 => [(0, 112)]
  | 78 => [(0, 26), (1, 9)]
  | 79 => [(0, 93), (1, 93), (2, 93)]
  | 80 => [(0, 112)]
  | 83 => [(0, 10)]
  | 84 => [(0, 10)]
  | 85 => [(0, 11)]
  | 86 => [(0, 11)]
  | 96 => [(0, 133)]
  | _ => []
noncomputable def C : Ctx Sg where
  L := lay
  enc := enc
  dec := dec
  zero := zero
  asLst := asLst
  has := has
  eqT := fun _ => false
  isKey := isKey
  isVal := isVal
  frz := frz
  bs := fun t => Nat.beq t 29
theorem dec3_sound {X : Ctx Sg} {r : List (AV Sg)} {y : Int} (h : dec3 r = some y) {E : Env} {us : List Value} (hv : VRs X E r us) : VRs X E (enc3 y) us := by
  unfold dec3 at h
  split at h
  · split at h
    · cases h
    · rename_i y0 h0
      injection h with h; subst h
      obtain ⟨u0, r0, rfl, v0, hv⟩ := hv.inv_cons
      have e0 := hv.inv_nil; subst e0
      exact VRs.cons (rdInt_sound h0 v0) VRs.nil
  · cases h
theorem dec4_sound {X : Ctx Sg} {r : List (AV Sg)} {y : Bool} (h : dec4 r = some y) {E : Env} {us : List Value} (hv : VRs X E r us) : VRs X E (enc4 y) us := by
  unfold dec4 at h
  split at h
  · split at h
    · cases h
    · rename_i y0 h0
      injection h with h; subst h
      obtain ⟨u0, r0, rfl, v0, hv⟩ := hv.inv_cons
      have e0 := hv.inv_nil; subst e0
      exact VRs.cons (rdBool_sound h0 v0) VRs.nil
  · cases h
theorem dec5_sound {X : Ctx Sg} {r : List (AV Sg)} {y : Int} (h : dec5 r = some y) {E : Env} {us : List Value} (hv : VRs X E r us) : VRs X E (enc5 y) us := by
  unfold dec5 at h
  split at h
  · split at h
    · cases h
    · rename_i y0 h0
      injection h with h; subst h
      obtain ⟨u0, r0, rfl, v0, hv⟩ := hv.inv_cons
      have e0 := hv.inv_nil; subst e0
      exact VRs.cons (rdInt_sound h0 v0) VRs.nil
  · cases h
theorem dec9_sound {X : Ctx Sg} {r : List (AV Sg)} {y : ByteArray} (h : dec9 r = some y) {E : Env} {us : List Value} (hv : VRs X E r us) : VRs X E (enc9 y) us := by
  unfold dec9 at h
  split at h
  · split at h
    · cases h
    · rename_i y0 h0
      injection h with h; subst h
      obtain ⟨u0, r0, rfl, v0, hv⟩ := hv.inv_cons
      have e0 := hv.inv_nil; subst e0
      exact VRs.cons (rdStr_sound h0 v0) VRs.nil
  · cases h
theorem dec10_sound {X : Ctx Sg} {r : List (AV Sg)} {y : ByteArray} (h : dec10 r = some y) {E : Env} {us : List Value} (hv : VRs X E r us) : VRs X E (enc10 y) us := by
  unfold dec10 at h
  split at h
  · split at h
    · cases h
    · rename_i y0 h0
      injection h with h; subst h
      obtain ⟨u0, r0, rfl, v0, hv⟩ := hv.inv_cons
      have e0 := hv.inv_nil; subst e0
      exact VRs.cons (rdStr_sound h0 v0) VRs.nil
  · cases h
theorem dec11_sound {X : Ctx Sg} {r : List (AV Sg)} {y : ByteArray} (h : dec11 r = some y) {E : Env} {us : List Value} (hv : VRs X E r us) : VRs X E (enc11 y) us := by
  unfold dec11 at h
  split at h
  · split at h
    · cases h
    · rename_i y0 h0
      injection h with h; subst h
      obtain ⟨u0, r0, rfl, v0, hv⟩ := hv.inv_cons
      have e0 := hv.inv_nil; subst e0
      exact VRs.cons (rdStr_sound h0 v0) VRs.nil
  · cases h
theorem dec24_sound {X : Ctx Sg} {r : List (AV Sg)} {y : List AtomR} (h : dec24 r = some y) {E : Env} {us : List Value} (hv : VRs X E r us) : VRs X E (enc24 y) us := by
  unfold dec24 at h
  split at h
  · split at h
    · cases h
    · rename_i y0 h0
      injection h with h; subst h
      obtain ⟨u0, r0, rfl, v0, hv⟩ := hv.inv_cons
      have e0 := hv.inv_nil; subst e0
      exact VRs.cons (rdImm_sound h0 v0) VRs.nil
  · cases h
theorem dec25_sound {X : Ctx Sg} {r : List (AV Sg)} {y : List CodeR} (h : dec25 r = some y) {E : Env} {us : List Value} (hv : VRs X E r us) : VRs X E (enc25 y) us := by
  unfold dec25 at h
  split at h
  · split at h
    · cases h
    · rename_i y0 h0
      injection h with h; subst h
      obtain ⟨u0, r0, rfl, v0, hv⟩ := hv.inv_cons
      have e0 := hv.inv_nil; subst e0
      exact VRs.cons (rdImm_sound h0 v0) VRs.nil
  · cases h
theorem dec26_sound {X : Ctx Sg} {r : List (AV Sg)} {y : List ByteArray} (h : dec26 r = some y) {E : Env} {us : List Value} (hv : VRs X E r us) : VRs X E (enc26 y) us := by
  unfold dec26 at h
  split at h
  · split at h
    · cases h
    · rename_i y0 h0
      injection h with h; subst h
      obtain ⟨u0, r0, rfl, v0, hv⟩ := hv.inv_cons
      have e0 := hv.inv_nil; subst e0
      exact VRs.cons (rdImm_sound h0 v0) VRs.nil
  · cases h
theorem dec28_sound {X : Ctx Sg} {r : List (AV Sg)} {y : ProgR} (h : dec28 r = some y) {E : Env} {us : List Value} (hv : VRs X E r us) : VRs X E (enc28 y) us := by
  unfold dec28 at h
  split at h
  · split at h
    · cases h
    · rename_i y0 h0
      split at h
      · cases h
      · rename_i y1 h1
        split at h
        · cases h
        · rename_i y2 h2
          split at h
          · cases h
          · rename_i y3 h3
            split at h
            · cases h
            · rename_i y4 h4
              split at h
              · cases h
              · rename_i y5 h5
                injection h with h; subst h
                obtain ⟨u0, r0, rfl, v0, hv⟩ := hv.inv_cons
                obtain ⟨u1, r1, rfl, v1, hv⟩ := hv.inv_cons
                obtain ⟨u2, r2, rfl, v2, hv⟩ := hv.inv_cons
                obtain ⟨u3, r3, rfl, v3, hv⟩ := hv.inv_cons
                obtain ⟨u4, r4, rfl, v4, hv⟩ := hv.inv_cons
                obtain ⟨u5, r5, rfl, v5, hv⟩ := hv.inv_cons
                have e0 := hv.inv_nil; subst e0
                exact VRs.cons (rdInt_sound h0 v0) (VRs.cons (rdInt_sound h1 v1) (VRs.cons (rdInt_sound h2 v2) (VRs.cons (rdImm_sound h3 v3) (VRs.cons (rdImm_sound h4 v4) (VRs.cons (rdImm_sound h5 v5) VRs.nil)))))
  · cases h
theorem dec29_sound {X : Ctx Sg} {r : List (AV Sg)} {y : List (List Int)} (h : dec29 r = some y) {E : Env} {us : List Value} (hv : VRs X E r us) : VRs X E (enc29 y) us := by
  unfold dec29 at h
  split at h
  · split at h
    · cases h
    · rename_i y0 h0
      injection h with h; subst h
      obtain ⟨u0, r0, rfl, v0, hv⟩ := hv.inv_cons
      have e0 := hv.inv_nil; subst e0
      exact VRs.cons (rdImm_sound h0 v0) VRs.nil
  · cases h
theorem dec38_sound {X : Ctx Sg} {r : List (AV Sg)} {y : List Int} (h : dec38 r = some y) {E : Env} {us : List Value} (hv : VRs X E r us) : VRs X E (enc38 y) us := by
  unfold dec38 at h
  split at h
  · split at h
    · cases h
    · rename_i y0 h0
      injection h with h; subst h
      obtain ⟨u0, r0, rfl, v0, hv⟩ := hv.inv_cons
      have e0 := hv.inv_nil; subst e0
      exact VRs.cons (rdImm_sound h0 v0) VRs.nil
  · cases h
theorem dec54_sound {X : Ctx Sg} {r : List (AV Sg)} {y : List WeightR} (h : dec54 r = some y) {E : Env} {us : List Value} (hv : VRs X E r us) : VRs X E (enc54 y) us := by
  unfold dec54 at h
  split at h
  · split at h
    · cases h
    · rename_i y0 h0
      injection h with h; subst h
      obtain ⟨u0, r0, rfl, v0, hv⟩ := hv.inv_cons
      have e0 := hv.inv_nil; subst e0
      exact VRs.cons (rdImm_sound h0 v0) VRs.nil
  · cases h
theorem dec56_sound {X : Ctx Sg} {r : List (AV Sg)} {y : AtomR} (h : dec56 r = some y) {E : Env} {us : List Value} (hv : VRs X E r us) : VRs X E (enc56 y) us := by
  unfold dec56 at h
  split at h
  · split at h
    · cases h
    · rename_i y0 h0
      split at h
      · cases h
      · rename_i y1 h1
        injection h with h; subst h
        obtain ⟨u0, r0, rfl, v0, hv⟩ := hv.inv_cons
        obtain ⟨u1, r1, rfl, v1, hv⟩ := hv.inv_cons
        have e0 := hv.inv_nil; subst e0
        exact VRs.cons (rdImm_sound h0 v0) (VRs.cons (rdInt_sound h1 v1) VRs.nil)
  · cases h
theorem dec58_sound {X : Ctx Sg} {r : List (AV Sg)} {y : CodeR} (h : dec58 r = some y) {E : Env} {us : List Value} (hv : VRs X E r us) : VRs X E (enc58 y) us := by
  unfold dec58 at h
  split at h
  · split at h
    · cases h
    · rename_i y0 h0
      split at h
      · cases h
      · rename_i y1 h1
        split at h
        · cases h
        · rename_i y2 h2
          split at h
          · cases h
          · rename_i y3 h3
            injection h with h; subst h
            obtain ⟨u0, r0, rfl, v0, hv⟩ := hv.inv_cons
            obtain ⟨u1, r1, rfl, v1, hv⟩ := hv.inv_cons
            obtain ⟨u2, r2, rfl, v2, hv⟩ := hv.inv_cons
            obtain ⟨u3, r3, rfl, v3, hv⟩ := hv.inv_cons
            have e0 := hv.inv_nil; subst e0
            exact VRs.cons (rdInt_sound h0 v0) (VRs.cons (rdInt_sound h1 v1) (VRs.cons (rdInt_sound h2 v2) (VRs.cons (rdInt_sound h3 v3) VRs.nil)))
  · cases h
theorem dec62_sound {X : Ctx Sg} {r : List (AV Sg)} {y : WeightR} (h : dec62 r = some y) {E : Env} {us : List Value} (hv : VRs X E r us) : VRs X E (enc62 y) us := by
  unfold dec62 at h
  split at h
  · split at h
    · cases h
    · rename_i y0 h0
      split at h
      · cases h
      · rename_i y1 h1
        injection h with h; subst h
        obtain ⟨u0, r0, rfl, v0, hv⟩ := hv.inv_cons
        obtain ⟨u1, r1, rfl, v1, hv⟩ := hv.inv_cons
        have e0 := hv.inv_nil; subst e0
        exact VRs.cons (rdInt_sound h0 v0) (VRs.cons (rdInt_sound h1 v1) VRs.nil)
  · cases h
theorem dec71_sound {X : Ctx Sg} {r : List (AV Sg)} {y : NodeR} (h : dec71 r = some y) {E : Env} {us : List Value} (hv : VRs X E r us) : VRs X E (enc71 y) us := by
  unfold dec71 at h
  split at h
  · split at h
    · cases h
    · rename_i y0 h0
      split at h
      · cases h
      · rename_i y1 h1
        split at h
        · cases h
        · rename_i y2 h2
          split at h
          · cases h
          · rename_i y3 h3
            split at h
            · cases h
            · rename_i y4 h4
              split at h
              · cases h
              · rename_i y5 h5
                injection h with h; subst h
                obtain ⟨u0, r0, rfl, v0, hv⟩ := hv.inv_cons
                obtain ⟨u1, r1, rfl, v1, hv⟩ := hv.inv_cons
                obtain ⟨u2, r2, rfl, v2, hv⟩ := hv.inv_cons
                obtain ⟨u3, r3, rfl, v3, hv⟩ := hv.inv_cons
                obtain ⟨u4, r4, rfl, v4, hv⟩ := hv.inv_cons
                obtain ⟨u5, r5, rfl, v5, hv⟩ := hv.inv_cons
                have e0 := hv.inv_nil; subst e0
                exact VRs.cons (rdInt_sound h0 v0) (VRs.cons (rdInt_sound h1 v1) (VRs.cons (rdInt_sound h2 v2) (VRs.cons (rdInt_sound h3 v3) (VRs.cons (rdImm_sound h4 v4) (VRs.cons (rdInt_sound h5 v5) VRs.nil)))))
  · cases h
theorem dec73_sound {X : Ctx Sg} {r : List (AV Sg)} {y : TermR} (h : dec73 r = some y) {E : Env} {us : List Value} (hv : VRs X E r us) : VRs X E (enc73 y) us := by
  unfold dec73 at h
  split at h
  · split at h
    · cases h
    · rename_i y0 h0
      split at h
      · cases h
      · rename_i y1 h1
        injection h with h; subst h
        obtain ⟨u0, r0, rfl, v0, hv⟩ := hv.inv_cons
        obtain ⟨u1, r1, rfl, v1, hv⟩ := hv.inv_cons
        have e0 := hv.inv_nil; subst e0
        exact VRs.cons (rdStr_sound h0 v0) (VRs.cons (rdInt_sound h1 v1) VRs.nil)
  · cases h
theorem dec93_sound {X : Ctx Sg} {r : List (AV Sg)} {y : Int} (h : dec93 r = some y) {E : Env} {us : List Value} (hv : VRs X E r us) : VRs X E (enc93 y) us := by
  unfold dec93 at h
  split at h
  · split at h
    · cases h
    · rename_i y0 h0
      injection h with h; subst h
      obtain ⟨u0, r0, rfl, v0, hv⟩ := hv.inv_cons
      have e0 := hv.inv_nil; subst e0
      exact VRs.cons (rdInt_sound h0 v0) VRs.nil
  · cases h
theorem dec104_sound {X : Ctx Sg} {r : List (AV Sg)} {y : Unit} (h : dec104 r = some y) {E : Env} {us : List Value} (hv : VRs X E r us) : VRs X E (enc104 y) us := by
  unfold dec104 at h
  split at h
  · exact hv
  · cases h
theorem dec110_sound {X : Ctx Sg} {r : List (AV Sg)} {y : List SumR} (h : dec110 r = some y) {E : Env} {us : List Value} (hv : VRs X E r us) : VRs X E (enc110 y) us := by
  unfold dec110 at h
  split at h
  · split at h
    · cases h
    · rename_i y0 h0
      injection h with h; subst h
      obtain ⟨u0, r0, rfl, v0, hv⟩ := hv.inv_cons
      have e0 := hv.inv_nil; subst e0
      exact VRs.cons (rdImm_sound h0 v0) VRs.nil
  · cases h
theorem dec112_sound {X : Ctx Sg} {r : List (AV Sg)} {y : SumR} (h : dec112 r = some y) {E : Env} {us : List Value} (hv : VRs X E r us) : VRs X E (enc112 y) us := by
  unfold dec112 at h
  split at h
  · split at h
    · cases h
    · rename_i y0 h0
      split at h
      · cases h
      · rename_i y1 h1
        split at h
        · cases h
        · rename_i y2 h2
          injection h with h; subst h
          obtain ⟨u0, r0, rfl, v0, hv⟩ := hv.inv_cons
          obtain ⟨u1, r1, rfl, v1, hv⟩ := hv.inv_cons
          obtain ⟨u2, r2, rfl, v2, hv⟩ := hv.inv_cons
          have e0 := hv.inv_nil; subst e0
          exact VRs.cons (rdInt_sound h0 v0) (VRs.cons (rdInt_sound h1 v1) (VRs.cons (rdInt_sound h2 v2) VRs.nil))
  · cases h
theorem dec133_sound {X : Ctx Sg} {r : List (AV Sg)} {y : Int} (h : dec133 r = some y) {E : Env} {us : List Value} (hv : VRs X E r us) : VRs X E (enc133 y) us := by
  unfold dec133 at h
  split at h
  · split at h
    · cases h
    · rename_i y0 h0
      injection h with h; subst h
      obtain ⟨u0, r0, rfl, v0, hv⟩ := hv.inv_cons
      have e0 := hv.inv_nil; subst e0
      exact VRs.cons (rdInt_sound h0 v0) VRs.nil
  · cases h
theorem lay_ok : LayOk Try.prog lay := layOk_of 141 (by kernel_rfl) (fun t ht => by
  have : Nat.blt t 141 = false := by
    cases hb : Nat.blt t 141 with
    | false => rfl
    | true => rw [Nat.blt_eq] at hb; exact absurd hb (Nat.not_lt.2 ht)
  show (match Nat.blt t 141 with | true => _ | false => _ : Row) = _
  rw [this])
theorem enc_len (e : TypeId) (x : T e) : (enc e x).length = lay.size e := by
  unfold enc T at *
  split
  · rfl
  · rfl
  · rfl
  · rfl
  · rfl
  · rfl
  · rfl
  · rfl
  · rfl
  · rfl
  · rfl
  · rfl
  · rfl
  · rfl
  · rfl
  · rfl
  · rfl
  · rfl
  · rfl
  · rfl
  · rfl
  · rfl
  · rfl
  · exact List.length_replicate
theorem enc_one (e : TypeId) (x : T e) : allOne (enc e x) = true := by
  unfold enc T at *
  split
  · rfl
  · rfl
  · rfl
  · rfl
  · rfl
  · rfl
  · rfl
  · rfl
  · rfl
  · rfl
  · rfl
  · rfl
  · rfl
  · rfl
  · rfl
  · rfl
  · rfl
  · rfl
  · rfl
  · rfl
  · rfl
  · rfl
  · rfl
  · exact allOne_rep _
theorem enc_noLoc (e : TypeId) (x : T e) : allNoLoc (enc e x) = true := by
  unfold enc T at *
  split
  · rfl
  · rfl
  · rfl
  · rfl
  · rfl
  · rfl
  · rfl
  · rfl
  · rfl
  · rfl
  · rfl
  · rfl
  · rfl
  · rfl
  · rfl
  · rfl
  · rfl
  · rfl
  · rfl
  · rfl
  · rfl
  · rfl
  · rfl
  · exact allNoLoc_rep _
theorem dec_sound (e : TypeId) (r : List (AV Sg)) (x : T e) (h : dec e r = some x) (E : Env) (us : List Value) (hv : VRs C E r us) : VRs C E (enc e x) us := by
  unfold dec enc T at *
  split at h
  · exact dec3_sound h hv
  · exact dec4_sound h hv
  · exact dec5_sound h hv
  · exact dec9_sound h hv
  · exact dec10_sound h hv
  · exact dec11_sound h hv
  · exact dec24_sound h hv
  · exact dec25_sound h hv
  · exact dec26_sound h hv
  · exact dec28_sound h hv
  · exact dec29_sound h hv
  · exact dec38_sound h hv
  · exact dec54_sound h hv
  · exact dec56_sound h hv
  · exact dec58_sound h hv
  · exact dec62_sound h hv
  · exact dec71_sound h hv
  · exact dec73_sound h hv
  · exact dec93_sound h hv
  · exact dec104_sound h hv
  · exact dec110_sound h hv
  · exact dec112_sound h hv
  · exact dec133_sound h hv
  · cases h
theorem has_sound (e : TypeId) (h : has e = true) (E : Env) (i : TypeInfo) (z : Value) (hi : (Try.prog).info? e = some i) (hz : i.zero = some z) : VRs C E (enc e (zero e)) z.cells.toList := by
  unfold has at h
  split at h
  · exact zeroOk_sound lay_ok (t := 3) (enc := enc 3 (zero 3)) (by kernel_rfl) E i z hi hz
  · exact zeroOk_sound lay_ok (t := 4) (enc := enc 4 (zero 4)) (by kernel_rfl) E i z hi hz
  · exact zeroOk_sound lay_ok (t := 5) (enc := enc 5 (zero 5)) (by kernel_rfl) E i z hi hz
  · exact zeroOk_sound lay_ok (t := 9) (enc := enc 9 (zero 9)) (by kernel_rfl) E i z hi hz
  · exact zeroOk_sound lay_ok (t := 10) (enc := enc 10 (zero 10)) (by kernel_rfl) E i z hi hz
  · exact zeroOk_sound lay_ok (t := 11) (enc := enc 11 (zero 11)) (by kernel_rfl) E i z hi hz
  · exact zeroOk_sound lay_ok (t := 24) (enc := enc 24 (zero 24)) (by kernel_rfl) E i z hi hz
  · exact zeroOk_sound lay_ok (t := 25) (enc := enc 25 (zero 25)) (by kernel_rfl) E i z hi hz
  · exact zeroOk_sound lay_ok (t := 26) (enc := enc 26 (zero 26)) (by kernel_rfl) E i z hi hz
  · exact zeroOk_sound lay_ok (t := 28) (enc := enc 28 (zero 28)) (by kernel_rfl) E i z hi hz
  · exact zeroOk_sound lay_ok (t := 29) (enc := enc 29 (zero 29)) (by kernel_rfl) E i z hi hz
  · exact zeroOk_sound lay_ok (t := 38) (enc := enc 38 (zero 38)) (by kernel_rfl) E i z hi hz
  · exact zeroOk_sound lay_ok (t := 54) (enc := enc 54 (zero 54)) (by kernel_rfl) E i z hi hz
  · exact zeroOk_sound lay_ok (t := 56) (enc := enc 56 (zero 56)) (by kernel_rfl) E i z hi hz
  · exact zeroOk_sound lay_ok (t := 58) (enc := enc 58 (zero 58)) (by kernel_rfl) E i z hi hz
  · exact zeroOk_sound lay_ok (t := 62) (enc := enc 62 (zero 62)) (by kernel_rfl) E i z hi hz
  · exact zeroOk_sound lay_ok (t := 71) (enc := enc 71 (zero 71)) (by kernel_rfl) E i z hi hz
  · exact zeroOk_sound lay_ok (t := 73) (enc := enc 73 (zero 73)) (by kernel_rfl) E i z hi hz
  · exact zeroOk_sound lay_ok (t := 93) (enc := enc 93 (zero 93)) (by kernel_rfl) E i z hi hz
  · exact zeroOk_sound lay_ok (t := 110) (enc := enc 110 (zero 110)) (by kernel_rfl) E i z hi hz
  · exact zeroOk_sound lay_ok (t := 112) (enc := enc 112 (zero 112)) (by kernel_rfl) E i z hi hz
  · exact zeroOk_sound lay_ok (t := 133) (enc := enc 133 (zero 133)) (by kernel_rfl) E i z hi hz
  · cases h
theorem arr_sound (t n e : Nat) (h : asLst t = true) (hd : lay.ds t = .array n e) : 0 < lay.size e ∧ n ≤ maxInt ∧ ∃ i z, (Try.prog).info? t = some i ∧ i.zero = some z ∧ z.cells.size = n * lay.size e ∧
    ∀ E k, k < n → VRs C E (enc e (zero e)) ((z.cells.toList.drop (k * lay.size e)).take (lay.size e)) := by
  unfold asLst at h
  split at h
  · have hd : Ds.array 20000 4 = Ds.array n e := hd
    injection hd with h1 h2; subst h1; subst h2
    exact ⟨by decide, by decide, arrOk_sound (v := .bool false) (by kernel_rfl) rfl rfl⟩
  · have hd : Ds.array 16 4 = Ds.array n e := hd
    injection hd with h1 h2; subst h1; subst h2
    exact ⟨by decide, by decide, arrOk_sound (v := .bool false) (by kernel_rfl) rfl rfl⟩
  · have hd : Ds.array 20 5 = Ds.array n e := hd
    injection hd with h1 h2; subst h1; subst h2
    exact ⟨by decide, by decide, arrOk_sound (v := .int .u8 0) (by kernel_rfl) rfl rfl⟩
  · cases h
theorem good : Good Try.prog C where
  lay := lay_ok
  enc_len := enc_len
  enc_one := fun e x => allOne_mem (enc_one e x)
  enc_noLoc := fun e x => allNoLoc_mem (enc_noLoc e x)
  dec := dec_sound
  zero := has_sound
  eqT := fun _ _ _ _ h => nomatch h
  arr := arr_sound
theorem key_sound (e : TypeId) (h : isKey e = true) : (∃ k, lay.ds e = .int k ∧ ∀ y, ∃ n, enc e y = [.int k n]) ∨ (lay.ds e = .str ∧ ∀ y, ∃ s, enc e y = [.str s]) := by
  unfold isKey at h
  split at h
  · exact .inl ⟨.i64, rfl, fun y => ⟨y, rfl⟩⟩
  · exact .inl ⟨.u8, rfl, fun y => ⟨y, rfl⟩⟩
  · exact .inr ⟨rfl, fun y => ⟨y, rfl⟩⟩
  · exact .inr ⟨rfl, fun y => ⟨y, rfl⟩⟩
  · exact .inr ⟨rfl, fun y => ⟨y, rfl⟩⟩
  · exact .inl ⟨.u64, rfl, fun y => ⟨y, rfl⟩⟩
  · exact .inl ⟨.u8, rfl, fun y => ⟨y, rfl⟩⟩
  · cases h
theorem goodM : GoodM Try.prog C where
  key := key_sound
  val := fun e h => by
    have h : isVal e = true := h
    unfold isVal at h
    split at h
    · exact valOk_sound (t := 104) (by kernel_rfl)
    · cases h
end Ev
