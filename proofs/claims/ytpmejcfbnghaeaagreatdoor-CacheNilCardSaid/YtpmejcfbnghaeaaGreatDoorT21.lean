/- The seat's types, as the abstract interpreter wants them; the table agrees with the program's. Written by genty.py. -/
import Derived.Test.YtpmejcfbnghaeaaGreatDoorT20
import Derived.Test.YtpmejcfbnghaeaaGreatDoorProg
import Derived.KernelRfl
namespace Go.Abs
def tyl0 : List TI := [⟨.bad, 0, 0, [], false⟩,
  ⟨.other, 1, 8, [.lit .nilFunc], false⟩,
  ⟨.int .i64, 1, 8, [.lit (.int .i64 0)], false⟩,
  ⟨.int .i64, 1, 8, [.lit (.int .i64 0)], false⟩,
  ⟨.bool, 1, 1, [.lit (.bool false)], false⟩,
  ⟨.int .u8, 1, 1, [.lit (.int .u8 0)], false⟩,
  ⟨.int .u8, 1, 1, [.lit (.int .u8 0)], false⟩,
  ⟨.struct [(0, 2), (1, 3), (2, 4), (3, 6)], 4, 24, [.lit (.int .i64 0), .lit (.int .i64 0), .lit (.bool false), .lit (.int .u8 0)], false⟩,
  ⟨.struct [(0, 2), (1, 3), (2, 4), (3, 6)], 4, 24, [.lit (.int .i64 0), .lit (.int .i64 0), .lit (.bool false), .lit (.int .u8 0)], false⟩,
  ⟨.str, 1, 16, [.lit (.string ⟨#[]⟩)], false⟩,
  ⟨.str, 1, 16, [.lit (.string ⟨#[]⟩)], false⟩,
  ⟨.str, 1, 16, [.lit (.string ⟨#[]⟩)], false⟩,
  ⟨.int .u64, 1, 8, [.lit (.int .u64 0)], false⟩,
  ⟨.struct [(0, 9), (1, 12)], 2, 24, [.lit (.string ⟨#[]⟩), .lit (.int .u64 0)], false⟩,
  ⟨.struct [(0, 9), (1, 12)], 2, 24, [.lit (.string ⟨#[]⟩), .lit (.int .u64 0)], false⟩,
  ⟨.ptr 404, 1, 8, [.lit (.pointer none)], false⟩]
def tyl1 : List TI := [⟨.ptr 407, 1, 8, [.lit (.pointer none)], false⟩,
  ⟨.ptr 414, 1, 8, [.lit (.pointer none)], false⟩,
  ⟨.struct [(0, 17)], 1, 8, [.lit (.pointer none)], false⟩,
  ⟨.struct [(0, 17)], 1, 8, [.lit (.pointer none)], false⟩,
  ⟨.ifc, 1, 16, [.lit .nilIface], false⟩,
  ⟨.int .i32, 1, 4, [.lit (.int .i32 0)], false⟩,
  ⟨.other, 1, 8, [.lit .nilFunc], false⟩,
  ⟨.ptr 60, 1, 8, [.lit (.pointer none)], false⟩,
  ⟨.int .i64, 1, 8, [.lit (.int .i64 0)], false⟩,
  ⟨.bad, 0, 0, [], false⟩,
  ⟨.other, 1, 8, [.lit .nilFunc], false⟩,
  ⟨.int .u64, 1, 8, [.lit (.int .u64 0)], false⟩,
  ⟨.slice 152, 1, 24, [.sl [] true], false⟩,
  ⟨.slice 159, 1, 24, [.sl [] true], false⟩,
  ⟨.struct [(0, 27), (1, 28), (2, 29)], 3, 56, [.lit (.int .u64 0), .sl [] true, .sl [] true], false⟩,
  ⟨.struct [(0, 27), (1, 28), (2, 29)], 3, 56, [.lit (.int .u64 0), .sl [] true, .sl [] true], false⟩]
def tyl2 : List TI := [⟨.array 16 5, 16, 16, List.replicate 16 (.lit (.int .u8 0)), true⟩,
  ⟨.array 16 5, 16, 16, List.replicate 16 (.lit (.int .u8 0)), true⟩,
  ⟨.struct [(0, 27), (1, 31), (4, 33)], 20, 80, [.lit (.int .u64 0), .lit (.int .u64 0), .sl [] true, .sl [] true, .lit (.int .u8 0), .lit (.int .u8 0), .lit (.int .u8 0), .lit (.int .u8 0), .lit (.int .u8 0), .lit (.int .u8 0), .lit (.int .u8 0), .lit (.int .u8 0), .lit (.int .u8 0), .lit (.int .u8 0), .lit (.int .u8 0), .lit (.int .u8 0), .lit (.int .u8 0), .lit (.int .u8 0), .lit (.int .u8 0), .lit (.int .u8 0)], false⟩,
  ⟨.struct [(0, 27), (1, 31), (4, 33)], 20, 80, [.lit (.int .u64 0), .lit (.int .u64 0), .sl [] true, .sl [] true, .lit (.int .u8 0), .lit (.int .u8 0), .lit (.int .u8 0), .lit (.int .u8 0), .lit (.int .u8 0), .lit (.int .u8 0), .lit (.int .u8 0), .lit (.int .u8 0), .lit (.int .u8 0), .lit (.int .u8 0), .lit (.int .u8 0), .lit (.int .u8 0), .lit (.int .u8 0), .lit (.int .u8 0), .lit (.int .u8 0), .lit (.int .u8 0)], false⟩,
  ⟨.bad, 0, 0, [], false⟩,
  ⟨.other, 1, 8, [.lit .nilFunc], false⟩,
  ⟨.bad, 0, 0, [], false⟩,
  ⟨.other, 1, 8, [.lit .nilFunc], false⟩,
  ⟨.bad, 0, 0, [], false⟩,
  ⟨.other, 1, 8, [.lit .nilFunc], false⟩,
  ⟨.slice 122, 1, 24, [.sl [] true], false⟩,
  ⟨.slice 108, 1, 24, [.sl [] true], false⟩,
  ⟨.struct [(0, 27), (1, 42), (2, 43)], 3, 56, [.lit (.int .u64 0), .sl [] true, .sl [] true], false⟩,
  ⟨.struct [(0, 27), (1, 42), (2, 43)], 3, 56, [.lit (.int .u64 0), .sl [] true, .sl [] true], false⟩,
  ⟨.slice 35, 1, 24, [.sl [] true], false⟩,
  ⟨.other, 1, 8, [.lit .nilFunc], false⟩]
def tyl3 : List TI := [⟨.other, 1, 8, [.lit .nilFunc], false⟩,
  ⟨.struct [(0, 33), (16, 3), (17, 4)], 18, 32, [.lit (.int .u8 0), .lit (.int .u8 0), .lit (.int .u8 0), .lit (.int .u8 0), .lit (.int .u8 0), .lit (.int .u8 0), .lit (.int .u8 0), .lit (.int .u8 0), .lit (.int .u8 0), .lit (.int .u8 0), .lit (.int .u8 0), .lit (.int .u8 0), .lit (.int .u8 0), .lit (.int .u8 0), .lit (.int .u8 0), .lit (.int .u8 0), .lit (.int .i64 0), .lit (.bool false)], true⟩,
  ⟨.struct [(0, 33), (16, 3), (17, 4)], 18, 32, [.lit (.int .u8 0), .lit (.int .u8 0), .lit (.int .u8 0), .lit (.int .u8 0), .lit (.int .u8 0), .lit (.int .u8 0), .lit (.int .u8 0), .lit (.int .u8 0), .lit (.int .u8 0), .lit (.int .u8 0), .lit (.int .u8 0), .lit (.int .u8 0), .lit (.int .u8 0), .lit (.int .u8 0), .lit (.int .u8 0), .lit (.int .u8 0), .lit (.int .i64 0), .lit (.bool false)], true⟩,
  ⟨.other, 1, 8, [.lit .nilFunc], false⟩,
  ⟨.slice 50, 1, 24, [.sl [] true], false⟩,
  ⟨.other, 1, 8, [.lit .nilFunc], false⟩,
  ⟨.ptr 84, 1, 8, [.lit (.pointer none)], false⟩,
  ⟨.bad, 0, 0, [], false⟩,
  ⟨.other, 1, 8, [.lit .nilFunc], false⟩,
  ⟨.struct [(0, 52)], 1, 24, [.sl [] true], false⟩,
  ⟨.struct [(0, 52)], 1, 24, [.sl [] true], false⟩,
  ⟨.struct [(0, 54), (1, 3), (2, 46), (3, 58)], 4, 64, [.lit (.pointer none), .lit (.int .i64 0), .sl [] true, .sl [] true], false⟩,
  ⟨.struct [(0, 54), (1, 3), (2, 46), (3, 58)], 4, 64, [.lit (.pointer none), .lit (.int .i64 0), .sl [] true, .sl [] true], false⟩,
  ⟨.other, 1, 8, [.lit .nilFunc], false⟩,
  ⟨.bad, 0, 0, [], false⟩,
  ⟨.other, 1, 8, [.lit .nilFunc], false⟩]
def tyl4 : List TI := [⟨.bad, 0, 0, [], false⟩,
  ⟨.other, 1, 8, [.lit .nilFunc], false⟩,
  ⟨.other, 1, 8, [.lit .nilFunc], false⟩,
  ⟨.bad, 0, 0, [], false⟩,
  ⟨.other, 1, 8, [.lit .nilFunc], false⟩,
  ⟨.other, 1, 8, [.lit .nilFunc], false⟩,
  ⟨.other, 1, 8, [.lit .nilFunc], false⟩,
  ⟨.other, 1, 8, [.lit .nilFunc], false⟩,
  ⟨.other, 1, 8, [.lit .nilFunc], false⟩,
  ⟨.bad, 0, 0, [], false⟩,
  ⟨.other, 1, 8, [.lit .nilFunc], false⟩,
  ⟨.other, 1, 8, [.lit .nilFunc], false⟩,
  ⟨.other, 1, 8, [.lit .nilFunc], false⟩,
  ⟨.other, 1, 8, [.lit .nilFunc], false⟩,
  ⟨.other, 1, 8, [.lit .nilFunc], false⟩,
  ⟨.other, 1, 8, [.lit .nilFunc], false⟩]
def tyl5 : List TI := [⟨.other, 1, 8, [.lit .nilFunc], false⟩,
  ⟨.map 9 204, 1, 8, [.lit (.map none)], false⟩,
  ⟨.slice 209, 1, 24, [.sl [] true], false⟩,
  ⟨.struct [(0, 3), (1, 81), (2, 81), (3, 82), (4, 3), (5, 3), (6, 4)], 7, 72, [.lit (.int .i64 0), .lit (.map none), .lit (.map none), .sl [] true, .lit (.int .i64 0), .lit (.int .i64 0), .lit (.bool false)], false⟩,
  ⟨.struct [(0, 3), (1, 81), (2, 81), (3, 82), (4, 3), (5, 3), (6, 4)], 7, 72, [.lit (.int .i64 0), .lit (.map none), .lit (.map none), .sl [] true, .lit (.int .i64 0), .lit (.int .i64 0), .lit (.bool false)], false⟩,
  ⟨.other, 1, 8, [.lit .nilFunc], false⟩,
  ⟨.bad, 0, 0, [], false⟩,
  ⟨.other, 1, 8, [.lit .nilFunc], false⟩,
  ⟨.other, 1, 8, [.lit .nilFunc], false⟩,
  ⟨.array 2 35, 40, 160, [.lit (.int .u64 0), .lit (.int .u64 0), .sl [] true, .sl [] true, .lit (.int .u8 0), .lit (.int .u8 0), .lit (.int .u8 0), .lit (.int .u8 0), .lit (.int .u8 0), .lit (.int .u8 0), .lit (.int .u8 0), .lit (.int .u8 0), .lit (.int .u8 0), .lit (.int .u8 0), .lit (.int .u8 0), .lit (.int .u8 0), .lit (.int .u8 0), .lit (.int .u8 0), .lit (.int .u8 0), .lit (.int .u8 0), .lit (.int .u64 0), .lit (.int .u64 0), .sl [] true, .sl [] true, .lit (.int .u8 0), .lit (.int .u8 0), .lit (.int .u8 0), .lit (.int .u8 0), .lit (.int .u8 0), .lit (.int .u8 0), .lit (.int .u8 0), .lit (.int .u8 0), .lit (.int .u8 0), .lit (.int .u8 0), .lit (.int .u8 0), .lit (.int .u8 0), .lit (.int .u8 0), .lit (.int .u8 0), .lit (.int .u8 0), .lit (.int .u8 0)], false⟩,
  ⟨.array 2 4, 2, 2, [.lit (.bool false), .lit (.bool false)], true⟩,
  ⟨.bad, 0, 0, [], false⟩,
  ⟨.other, 1, 8, [.lit .nilFunc], false⟩,
  ⟨.array 2 3, 2, 16, [.lit (.int .i64 0), .lit (.int .i64 0)], true⟩,
  ⟨.slice 147, 1, 24, [.sl [] true], false⟩,
  ⟨.other, 1, 8, [.lit .nilFunc], false⟩]
def tyl6 : List TI := [⟨.other, 1, 8, [.lit .nilFunc], false⟩,
  ⟨.other, 1, 8, [.lit .nilFunc], false⟩,
  ⟨.bad, 0, 0, [], false⟩,
  ⟨.other, 1, 8, [.lit .nilFunc], false⟩,
  ⟨.other, 1, 8, [.lit .nilFunc], false⟩,
  ⟨.other, 1, 8, [.lit .nilFunc], false⟩,
  ⟨.other, 1, 8, [.lit .nilFunc], false⟩,
  ⟨.array 2 9, 2, 32, [.lit (.string ⟨#[]⟩), .lit (.string ⟨#[]⟩)], true⟩,
  ⟨.other, 1, 8, [.lit .nilFunc], false⟩,
  ⟨.other, 1, 8, [.lit .nilFunc], false⟩,
  ⟨.slice 114, 1, 24, [.sl [] true], false⟩,
  ⟨.struct [(0, 9), (1, 106)], 2, 40, [.lit (.string ⟨#[]⟩), .sl [] true], false⟩,
  ⟨.struct [(0, 9), (1, 106)], 2, 40, [.lit (.string ⟨#[]⟩), .sl [] true], false⟩,
  ⟨.array 4 5, 4, 4, [.lit (.int .u8 0), .lit (.int .u8 0), .lit (.int .u8 0), .lit (.int .u8 0)], true⟩,
  ⟨.int .u16, 1, 2, [.lit (.int .u16 0)], false⟩,
  ⟨.struct [(0, 109), (4, 110)], 5, 6, [.lit (.int .u8 0), .lit (.int .u8 0), .lit (.int .u8 0), .lit (.int .u8 0), .lit (.int .u16 0)], true⟩]
def tyl7 : List TI := [⟨.struct [(0, 109), (4, 110)], 5, 6, [.lit (.int .u8 0), .lit (.int .u8 0), .lit (.int .u8 0), .lit (.int .u8 0), .lit (.int .u16 0)], true⟩,
  ⟨.struct [(0, 112), (5, 3)], 6, 16, [.lit (.int .u8 0), .lit (.int .u8 0), .lit (.int .u8 0), .lit (.int .u8 0), .lit (.int .u16 0), .lit (.int .i64 0)], true⟩,
  ⟨.struct [(0, 112), (5, 3)], 6, 16, [.lit (.int .u8 0), .lit (.int .u8 0), .lit (.int .u8 0), .lit (.int .u8 0), .lit (.int .u16 0), .lit (.int .i64 0)], true⟩,
  ⟨.other, 1, 8, [.lit .nilFunc], false⟩,
  ⟨.slice 118, 1, 24, [.sl [] true], false⟩,
  ⟨.struct [(0, 3), (1, 27), (2, 9), (3, 116)], 4, 56, [.lit (.int .i64 0), .lit (.int .u64 0), .lit (.string ⟨#[]⟩), .sl [] true], false⟩,
  ⟨.struct [(0, 3), (1, 27), (2, 9), (3, 116)], 4, 56, [.lit (.int .i64 0), .lit (.int .u64 0), .lit (.string ⟨#[]⟩), .sl [] true], false⟩,
  ⟨.other, 1, 8, [.lit .nilFunc], false⟩,
  ⟨.slice 193, 1, 24, [.sl [] true], false⟩,
  ⟨.struct [(0, 9), (1, 112), (6, 120)], 7, 48, [.lit (.string ⟨#[]⟩), .lit (.int .u8 0), .lit (.int .u8 0), .lit (.int .u8 0), .lit (.int .u8 0), .lit (.int .u16 0), .sl [] true], false⟩,
  ⟨.struct [(0, 9), (1, 112), (6, 120)], 7, 48, [.lit (.string ⟨#[]⟩), .lit (.int .u8 0), .lit (.int .u8 0), .lit (.int .u8 0), .lit (.int .u8 0), .lit (.int .u16 0), .sl [] true], false⟩,
  ⟨.other, 1, 8, [.lit .nilFunc], false⟩,
  ⟨.other, 1, 8, [.lit .nilFunc], false⟩,
  ⟨.other, 1, 8, [.lit .nilFunc], false⟩,
  ⟨.other, 1, 8, [.lit .nilFunc], false⟩,
  ⟨.other, 1, 8, [.lit .nilFunc], false⟩]
def tyl8 : List TI := [⟨.other, 1, 8, [.lit .nilFunc], false⟩,
  ⟨.other, 1, 8, [.lit .nilFunc], false⟩,
  ⟨.other, 1, 8, [.lit .nilFunc], false⟩,
  ⟨.other, 1, 8, [.lit .nilFunc], false⟩,
  ⟨.slice 9, 1, 24, [.sl [] true], false⟩,
  ⟨.other, 1, 8, [.lit .nilFunc], false⟩,
  ⟨.other, 1, 8, [.lit .nilFunc], false⟩,
  ⟨.other, 1, 8, [.lit .nilFunc], false⟩,
  ⟨.slice 138, 1, 24, [.sl [] true], false⟩,
  ⟨.struct [(0, 3), (1, 27), (2, 9), (3, 136)], 4, 56, [.lit (.int .i64 0), .lit (.int .u64 0), .lit (.string ⟨#[]⟩), .sl [] true], false⟩,
  ⟨.struct [(0, 3), (1, 27), (2, 9), (3, 136)], 4, 56, [.lit (.int .i64 0), .lit (.int .u64 0), .lit (.string ⟨#[]⟩), .sl [] true], false⟩,
  ⟨.bad, 0, 0, [], false⟩,
  ⟨.other, 1, 8, [.lit .nilFunc], false⟩,
  ⟨.bad, 0, 0, [], false⟩,
  ⟨.other, 1, 8, [.lit .nilFunc], false⟩,
  ⟨.other, 1, 8, [.lit .nilFunc], false⟩]
def tyl9 : List TI := [⟨.slice 3, 1, 24, [.sl [] true], false⟩,
  ⟨.other, 1, 8, [.lit .nilFunc], false⟩,
  ⟨.struct [(0, 24), (1, 9)], 2, 24, [.lit (.int .i64 0), .lit (.string ⟨#[]⟩)], true⟩,
  ⟨.struct [(0, 24), (1, 9)], 2, 24, [.lit (.int .i64 0), .lit (.string ⟨#[]⟩)], true⟩,
  ⟨.other, 1, 8, [.lit .nilFunc], false⟩,
  ⟨.struct [(0, 109), (4, 110)], 5, 6, [.lit (.int .u8 0), .lit (.int .u8 0), .lit (.int .u8 0), .lit (.int .u8 0), .lit (.int .u16 0)], true⟩,
  ⟨.slice 155, 1, 24, [.sl [] true], false⟩,
  ⟨.struct [(0, 9), (1, 149), (6, 150)], 7, 48, [.lit (.string ⟨#[]⟩), .lit (.int .u8 0), .lit (.int .u8 0), .lit (.int .u8 0), .lit (.int .u8 0), .lit (.int .u16 0), .sl [] true], false⟩,
  ⟨.struct [(0, 9), (1, 149), (6, 150)], 7, 48, [.lit (.string ⟨#[]⟩), .lit (.int .u8 0), .lit (.int .u8 0), .lit (.int .u8 0), .lit (.int .u8 0), .lit (.int .u16 0), .sl [] true], false⟩,
  ⟨.other, 1, 8, [.lit .nilFunc], false⟩,
  ⟨.struct [(0, 9), (1, 9), (2, 9), (3, 27)], 4, 56, [.lit (.string ⟨#[]⟩), .lit (.string ⟨#[]⟩), .lit (.string ⟨#[]⟩), .lit (.int .u64 0)], true⟩,
  ⟨.struct [(0, 9), (1, 9), (2, 9), (3, 27)], 4, 56, [.lit (.string ⟨#[]⟩), .lit (.string ⟨#[]⟩), .lit (.string ⟨#[]⟩), .lit (.int .u64 0)], true⟩,
  ⟨.other, 1, 8, [.lit .nilFunc], false⟩,
  ⟨.slice 162, 1, 24, [.sl [] true], false⟩,
  ⟨.struct [(0, 9), (1, 157)], 2, 40, [.lit (.string ⟨#[]⟩), .sl [] true], false⟩,
  ⟨.struct [(0, 9), (1, 157)], 2, 40, [.lit (.string ⟨#[]⟩), .sl [] true], false⟩]
def tyl10 : List TI := [⟨.other, 1, 8, [.lit .nilFunc], false⟩,
  ⟨.struct [(0, 149), (5, 3)], 6, 16, [.lit (.int .u8 0), .lit (.int .u8 0), .lit (.int .u8 0), .lit (.int .u8 0), .lit (.int .u16 0), .lit (.int .i64 0)], true⟩,
  ⟨.struct [(0, 149), (5, 3)], 6, 16, [.lit (.int .u8 0), .lit (.int .u8 0), .lit (.int .u8 0), .lit (.int .u8 0), .lit (.int .u16 0), .lit (.int .i64 0)], true⟩,
  ⟨.other, 1, 8, [.lit .nilFunc], false⟩,
  ⟨.other, 1, 8, [.lit .nilFunc], false⟩,
  ⟨.other, 1, 8, [.lit .nilFunc], false⟩,
  ⟨.other, 1, 8, [.lit .nilFunc], false⟩,
  ⟨.other, 1, 8, [.lit .nilFunc], false⟩,
  ⟨.other, 1, 8, [.lit .nilFunc], false⟩,
  ⟨.other, 1, 8, [.lit .nilFunc], false⟩,
  ⟨.other, 1, 8, [.lit .nilFunc], false⟩,
  ⟨.other, 1, 8, [.lit .nilFunc], false⟩,
  ⟨.other, 1, 8, [.lit .nilFunc], false⟩,
  ⟨.other, 1, 8, [.lit .nilFunc], false⟩,
  ⟨.other, 1, 8, [.lit .nilFunc], false⟩,
  ⟨.other, 1, 8, [.lit .nilFunc], false⟩]
def tyl11 : List TI := [⟨.other, 1, 8, [.lit .nilFunc], false⟩,
  ⟨.other, 1, 8, [.lit .nilFunc], false⟩,
  ⟨.other, 1, 8, [.lit .nilFunc], false⟩,
  ⟨.slice 5, 1, 24, [.sl [] true], false⟩,
  ⟨.other, 1, 8, [.lit .nilFunc], false⟩,
  ⟨.other, 1, 8, [.lit .nilFunc], false⟩,
  ⟨.other, 1, 8, [.lit .nilFunc], false⟩,
  ⟨.other, 1, 8, [.lit .nilFunc], false⟩,
  ⟨.other, 1, 8, [.lit .nilFunc], false⟩,
  ⟨.other, 1, 8, [.lit .nilFunc], false⟩,
  ⟨.other, 1, 8, [.lit .nilFunc], false⟩,
  ⟨.other, 1, 8, [.lit .nilFunc], false⟩,
  ⟨.other, 1, 8, [.lit .nilFunc], false⟩,
  ⟨.other, 1, 8, [.lit .nilFunc], false⟩,
  ⟨.other, 1, 8, [.lit .nilFunc], false⟩,
  ⟨.other, 1, 8, [.lit .nilFunc], false⟩]
def tyl12 : List TI := [⟨.other, 1, 8, [.lit .nilFunc], false⟩,
  ⟨.struct [(0, 9), (1, 9), (2, 9), (3, 27)], 4, 56, [.lit (.string ⟨#[]⟩), .lit (.string ⟨#[]⟩), .lit (.string ⟨#[]⟩), .lit (.int .u64 0)], true⟩,
  ⟨.other, 1, 8, [.lit .nilFunc], false⟩,
  ⟨.other, 1, 8, [.lit .nilFunc], false⟩,
  ⟨.slice 198, 1, 24, [.sl [] true], false⟩,
  ⟨.other, 1, 8, [.lit .nilFunc], false⟩,
  ⟨.int .u32, 1, 4, [.lit (.int .u32 0)], false⟩,
  ⟨.other, 1, 8, [.lit .nilFunc], false⟩,
  ⟨.int .u64, 1, 8, [.lit (.int .u64 0)], false⟩,
  ⟨.other, 1, 8, [.lit .nilFunc], false⟩,
  ⟨.other, 1, 8, [.lit .nilFunc], false⟩,
  ⟨.other, 1, 8, [.lit .nilFunc], false⟩,
  ⟨.ptr 212, 1, 8, [.lit (.pointer none)], false⟩,
  ⟨.bad, 0, 0, [], false⟩,
  ⟨.other, 1, 8, [.lit .nilFunc], false⟩,
  ⟨.other, 1, 8, [.lit .nilFunc], false⟩]
def tyl13 : List TI := [⟨.struct [(0, 3), (1, 9), (2, 9), (3, 204)], 4, 48, [.lit (.int .i64 0), .lit (.string ⟨#[]⟩), .lit (.string ⟨#[]⟩), .lit (.pointer none)], false⟩,
  ⟨.struct [(0, 3), (1, 9), (2, 9), (3, 204)], 4, 48, [.lit (.int .i64 0), .lit (.string ⟨#[]⟩), .lit (.string ⟨#[]⟩), .lit (.pointer none)], false⟩,
  ⟨.other, 1, 8, [.lit .nilFunc], false⟩,
  ⟨.struct [(0, 9), (1, 9)], 2, 32, [.lit (.string ⟨#[]⟩), .lit (.string ⟨#[]⟩)], true⟩,
  ⟨.struct [(0, 9), (1, 9)], 2, 32, [.lit (.string ⟨#[]⟩), .lit (.string ⟨#[]⟩)], true⟩,
  ⟨.bad, 0, 0, [], false⟩,
  ⟨.other, 1, 8, [.lit .nilFunc], false⟩,
  ⟨.bad, 0, 0, [], false⟩,
  ⟨.other, 1, 8, [.lit .nilFunc], false⟩,
  ⟨.bad, 0, 0, [], false⟩,
  ⟨.other, 1, 8, [.lit .nilFunc], false⟩,
  ⟨.bad, 0, 0, [], false⟩,
  ⟨.other, 1, 8, [.lit .nilFunc], false⟩,
  ⟨.bad, 0, 0, [], false⟩,
  ⟨.other, 1, 8, [.lit .nilFunc], false⟩,
  ⟨.other, 1, 8, [.lit .nilFunc], false⟩]
def tyl14 : List TI := [⟨.other, 1, 8, [.lit .nilFunc], false⟩,
  ⟨.other, 1, 8, [.lit .nilFunc], false⟩,
  ⟨.other, 1, 8, [.lit .nilFunc], false⟩,
  ⟨.other, 1, 8, [.lit .nilFunc], false⟩,
  ⟨.other, 1, 8, [.lit .nilFunc], false⟩,
  ⟨.bad, 0, 0, [], false⟩,
  ⟨.other, 1, 8, [.lit .nilFunc], false⟩,
  ⟨.other, 1, 8, [.lit .nilFunc], false⟩,
  ⟨.other, 1, 8, [.lit .nilFunc], false⟩,
  ⟨.other, 1, 8, [.lit .nilFunc], false⟩,
  ⟨.other, 1, 8, [.lit .nilFunc], false⟩,
  ⟨.other, 1, 8, [.lit .nilFunc], false⟩,
  ⟨.other, 1, 8, [.lit .nilFunc], false⟩,
  ⟨.other, 1, 8, [.lit .nilFunc], false⟩,
  ⟨.other, 1, 8, [.lit .nilFunc], false⟩,
  ⟨.other, 1, 8, [.lit .nilFunc], false⟩]
def tyl15 : List TI := [⟨.other, 1, 8, [.lit .nilFunc], false⟩,
  ⟨.other, 1, 8, [.lit .nilFunc], false⟩,
  ⟨.other, 1, 8, [.lit .nilFunc], false⟩,
  ⟨.ptr 245, 1, 8, [.lit (.pointer none)], false⟩,
  ⟨.struct [(0, 243), (1, 179)], 2, 32, [.lit (.pointer none), .sl [] true], false⟩,
  ⟨.struct [(0, 243), (1, 179)], 2, 32, [.lit (.pointer none), .sl [] true], false⟩,
  ⟨.other, 1, 8, [.lit .nilFunc], false⟩,
  ⟨.other, 1, 8, [.lit .nilFunc], false⟩,
  ⟨.other, 1, 8, [.lit .nilFunc], false⟩,
  ⟨.other, 1, 8, [.lit .nilFunc], false⟩,
  ⟨.other, 1, 8, [.lit .nilFunc], false⟩,
  ⟨.other, 1, 8, [.lit .nilFunc], false⟩,
  ⟨.other, 1, 8, [.lit .nilFunc], false⟩,
  ⟨.other, 1, 8, [.lit .nilFunc], false⟩,
  ⟨.other, 1, 8, [.lit .nilFunc], false⟩,
  ⟨.array 32 5, 32, 32, List.replicate 32 (.lit (.int .u8 0)), true⟩]
def tyl16 : List TI := [⟨.array 32 5, 32, 32, List.replicate 32 (.lit (.int .u8 0)), true⟩,
  ⟨.other, 1, 8, [.lit .nilFunc], false⟩,
  ⟨.bad, 0, 0, [], false⟩,
  ⟨.other, 1, 8, [.lit .nilFunc], false⟩,
  ⟨.other, 1, 8, [.lit .nilFunc], false⟩,
  ⟨.other, 1, 8, [.lit .nilFunc], false⟩,
  ⟨.other, 1, 8, [.lit .nilFunc], false⟩,
  ⟨.other, 1, 8, [.lit .nilFunc], false⟩,
  ⟨.other, 1, 8, [.lit .nilFunc], false⟩,
  ⟨.slice 267, 1, 24, [.sl [] true], false⟩,
  ⟨.struct [(0, 27), (1, 136)], 2, 32, [.lit (.int .u64 0), .sl [] true], false⟩,
  ⟨.struct [(0, 27), (1, 136)], 2, 32, [.lit (.int .u64 0), .sl [] true], false⟩,
  ⟨.struct [(0, 4)], 1, 1, [.lit (.bool false)], true⟩,
  ⟨.struct [(0, 4)], 1, 1, [.lit (.bool false)], true⟩,
  ⟨.other, 1, 8, [.lit .nilFunc], false⟩,
  ⟨.other, 1, 8, [.lit .nilFunc], false⟩]
def tyl17 : List TI := [⟨.other, 1, 8, [.lit .nilFunc], false⟩,
  ⟨.ptr 269, 1, 8, [.lit (.pointer none)], false⟩,
  ⟨.other, 1, 8, [.lit .nilFunc], false⟩,
  ⟨.other, 1, 8, [.lit .nilFunc], false⟩,
  ⟨.other, 1, 8, [.lit .nilFunc], false⟩,
  ⟨.other, 1, 8, [.lit .nilFunc], false⟩,
  ⟨.ifc, 1, 16, [.lit .nilIface], false⟩,
  ⟨.ifc, 1, 16, [.lit .nilIface], false⟩,
  ⟨.bad, 0, 0, [], false⟩,
  ⟨.other, 1, 8, [.lit .nilFunc], false⟩,
  ⟨.slice 24, 1, 24, [.sl [] true], false⟩,
  ⟨.other, 1, 8, [.lit .nilFunc], false⟩,
  ⟨.other, 1, 8, [.lit .nilFunc], false⟩,
  ⟨.other, 1, 8, [.lit .nilFunc], false⟩,
  ⟨.other, 1, 8, [.lit .nilFunc], false⟩,
  ⟨.other, 1, 8, [.lit .nilFunc], false⟩]
def tyl18 : List TI := [⟨.other, 1, 8, [.lit .nilFunc], false⟩,
  ⟨.other, 1, 8, [.lit .nilFunc], false⟩,
  ⟨.other, 1, 8, [.lit .nilFunc], false⟩,
  ⟨.other, 1, 8, [.lit .nilFunc], false⟩,
  ⟨.other, 1, 8, [.lit .nilFunc], false⟩,
  ⟨.other, 1, 8, [.lit .nilFunc], false⟩,
  ⟨.other, 1, 8, [.lit .nilFunc], false⟩,
  ⟨.other, 1, 8, [.lit .nilFunc], false⟩,
  ⟨.other, 1, 8, [.lit .nilFunc], false⟩,
  ⟨.other, 1, 8, [.lit .nilFunc], false⟩,
  ⟨.ptr 5, 1, 8, [.lit (.pointer none)], false⟩,
  ⟨.array 8 198, 8, 32, [.lit (.int .u32 0), .lit (.int .u32 0), .lit (.int .u32 0), .lit (.int .u32 0), .lit (.int .u32 0), .lit (.int .u32 0), .lit (.int .u32 0), .lit (.int .u32 0)], true⟩,
  ⟨.other, 1, 8, [.lit .nilFunc], false⟩,
  ⟨.array 64 198, 64, 256, List.replicate 64 (.lit (.int .u32 0)), true⟩,
  ⟨.other, 1, 8, [.lit .nilFunc], false⟩,
  ⟨.other, 1, 8, [.lit .nilFunc], false⟩]
def tyl19 : List TI := [⟨.ptr 301, 1, 8, [.lit (.pointer none)], false⟩,
  ⟨.other, 1, 8, [.lit .nilFunc], false⟩,
  ⟨.other, 1, 8, [.lit .nilFunc], false⟩,
  ⟨.other, 1, 8, [.lit .nilFunc], false⟩,
  ⟨.other, 1, 8, [.lit .nilFunc], false⟩,
  ⟨.other, 1, 8, [.lit .nilFunc], false⟩,
  ⟨.other, 1, 8, [.lit .nilFunc], false⟩,
  ⟨.other, 1, 8, [.lit .nilFunc], false⟩,
  ⟨.other, 1, 8, [.lit .nilFunc], false⟩,
  ⟨.other, 1, 8, [.lit .nilFunc], false⟩,
  ⟨.other, 1, 8, [.lit .nilFunc], false⟩,
  ⟨.other, 1, 8, [.lit .nilFunc], false⟩,
  ⟨.array 8 27, 8, 64, [.lit (.int .u64 0), .lit (.int .u64 0), .lit (.int .u64 0), .lit (.int .u64 0), .lit (.int .u64 0), .lit (.int .u64 0), .lit (.int .u64 0), .lit (.int .u64 0)], true⟩,
  ⟨.other, 1, 8, [.lit .nilFunc], false⟩,
  ⟨.other, 1, 8, [.lit .nilFunc], false⟩,
  ⟨.other, 1, 8, [.lit .nilFunc], false⟩]
def tyl20 : List TI := [⟨.other, 1, 8, [.lit .nilFunc], false⟩,
  ⟨.other, 1, 8, [.lit .nilFunc], false⟩,
  ⟨.other, 1, 8, [.lit .nilFunc], false⟩,
  ⟨.other, 1, 8, [.lit .nilFunc], false⟩,
  ⟨.bad, 0, 0, [], false⟩,
  ⟨.other, 1, 8, [.lit .nilFunc], false⟩,
  ⟨.other, 1, 8, [.lit .nilFunc], false⟩,
  ⟨.array 24 5, 24, 24, List.replicate 24 (.lit (.int .u8 0)), true⟩,
  ⟨.other, 1, 8, [.lit .nilFunc], false⟩,
  ⟨.other, 1, 8, [.lit .nilFunc], false⟩,
  ⟨.bad, 0, 0, [], false⟩,
  ⟨.other, 1, 8, [.lit .nilFunc], false⟩,
  ⟨.uptr, 1, 8, [.lit (.pointer none)], false⟩,
  ⟨.other, 1, 8, [.lit .nilFunc], false⟩,
  ⟨.other, 1, 8, [.lit .nilFunc], false⟩,
  ⟨.other, 1, 8, [.lit .nilFunc], false⟩]
def tyl21 : List TI := [⟨.bad, 0, 0, [], false⟩,
  ⟨.other, 1, 8, [.lit .nilFunc], false⟩,
  ⟨.other, 1, 8, [.lit .nilFunc], false⟩,
  ⟨.slice 4, 1, 24, [.sl [] true], false⟩,
  ⟨.slice 27, 1, 24, [.sl [] true], false⟩,
  ⟨.map 204 4, 1, 8, [.lit (.map none)], false⟩,
  ⟨.other, 1, 8, [.lit .nilFunc], false⟩,
  ⟨.other, 1, 8, [.lit .nilFunc], false⟩,
  ⟨.other, 1, 8, [.lit .nilFunc], false⟩,
  ⟨.other, 1, 8, [.lit .nilFunc], false⟩,
  ⟨.other, 1, 8, [.lit .nilFunc], false⟩,
  ⟨.other, 1, 8, [.lit .nilFunc], false⟩,
  ⟨.array 20 27, 20, 160, List.replicate 20 (.lit (.int .u64 0)), true⟩,
  ⟨.array 65 5, 65, 65, List.replicate 65 (.lit (.int .u8 0)), true⟩,
  ⟨.other, 1, 8, [.lit .nilFunc], false⟩,
  ⟨.other, 1, 8, [.lit .nilFunc], false⟩]
def tyl22 : List TI := [⟨.other, 1, 8, [.lit .nilFunc], false⟩,
  ⟨.bad, 0, 0, [], false⟩,
  ⟨.other, 1, 8, [.lit .nilFunc], false⟩,
  ⟨.other, 1, 8, [.lit .nilFunc], false⟩,
  ⟨.bad, 0, 0, [], false⟩,
  ⟨.other, 1, 8, [.lit .nilFunc], false⟩,
  ⟨.bad, 0, 0, [], false⟩,
  ⟨.other, 1, 8, [.lit .nilFunc], false⟩,
  ⟨.other, 1, 8, [.lit .nilFunc], false⟩,
  ⟨.other, 1, 8, [.lit .nilFunc], false⟩,
  ⟨.other, 1, 8, [.lit .nilFunc], false⟩,
  ⟨.other, 1, 8, [.lit .nilFunc], false⟩,
  ⟨.other, 1, 8, [.lit .nilFunc], false⟩,
  ⟨.array 64 5, 64, 64, List.replicate 64 (.lit (.int .u8 0)), true⟩,
  ⟨.array 256 5, 256, 256, List.replicate 256 (.lit (.int .u8 0)), true⟩,
  ⟨.struct [(0, 5), (1, 5)], 2, 2, [.lit (.int .u8 0), .lit (.int .u8 0)], true⟩]
def tyl23 : List TI := [⟨.struct [(0, 5), (1, 5)], 2, 2, [.lit (.int .u8 0), .lit (.int .u8 0)], true⟩,
  ⟨.array 16 368, 32, 32, List.replicate 32 (.lit (.int .u8 0)), true⟩,
  ⟨.other, 1, 8, [.lit .nilFunc], false⟩,
  ⟨.int .i64, 1, 8, [.lit (.int .i64 0)], false⟩,
  ⟨.bad, 0, 0, [], false⟩,
  ⟨.other, 1, 8, [.lit .nilFunc], false⟩,
  ⟨.other, 1, 8, [.lit .nilFunc], false⟩,
  ⟨.other, 1, 8, [.lit .nilFunc], false⟩,
  ⟨.other, 1, 8, [.lit .nilFunc], false⟩,
  ⟨.bad, 0, 0, [], false⟩,
  ⟨.other, 1, 8, [.lit .nilFunc], false⟩,
  ⟨.int .u64, 1, 8, [.lit (.int .u64 0)], false⟩,
  ⟨.other, 1, 8, [.lit .nilFunc], false⟩,
  ⟨.other, 1, 8, [.lit .nilFunc], false⟩,
  ⟨.other, 1, 8, [.lit .nilFunc], false⟩,
  ⟨.ptr 3, 1, 8, [.lit (.pointer none)], false⟩]
def tyl24 : List TI := [⟨.other, 1, 8, [.lit .nilFunc], false⟩,
  ⟨.bad, 0, 0, [], false⟩,
  ⟨.other, 1, 8, [.lit .nilFunc], false⟩,
  ⟨.ptr 379, 1, 8, [.lit (.pointer none)], false⟩,
  ⟨.bad, 0, 0, [], false⟩,
  ⟨.other, 1, 8, [.lit .nilFunc], false⟩,
  ⟨.other, 1, 8, [.lit .nilFunc], false⟩,
  ⟨.int .i64, 1, 8, [.lit (.int .i64 0)], false⟩,
  ⟨.other, 1, 8, [.lit .nilFunc], false⟩,
  ⟨.ptr 397, 1, 8, [.lit (.pointer none)], false⟩,
  ⟨.other, 1, 8, [.lit .nilFunc], false⟩,
  ⟨.other, 1, 8, [.lit .nilFunc], false⟩,
  ⟨.struct [(0, 9), (1, 9), (2, 279)], 3, 48, [.lit (.string ⟨#[]⟩), .lit (.string ⟨#[]⟩), .lit .nilIface], false⟩,
  ⟨.struct [(0, 9), (1, 9), (2, 279)], 3, 48, [.lit (.string ⟨#[]⟩), .lit (.string ⟨#[]⟩), .lit .nilIface], false⟩,
  ⟨.other, 1, 8, [.lit .nilFunc], false⟩,
  ⟨.ptr 401, 1, 8, [.lit (.pointer none)], false⟩]
def tyl25 : List TI := [⟨.struct [(0, 9)], 1, 16, [.lit (.string ⟨#[]⟩)], true⟩,
  ⟨.struct [(0, 9)], 1, 16, [.lit (.string ⟨#[]⟩)], true⟩,
  ⟨.other, 1, 8, [.lit .nilFunc], false⟩,
  ⟨.struct [(0, 17), (1, 17), (2, 17), (3, 9)], 4, 40, [.lit (.pointer none), .lit (.pointer none), .lit (.pointer none), .lit (.string ⟨#[]⟩)], false⟩,
  ⟨.struct [(0, 17), (1, 17), (2, 17), (3, 9)], 4, 40, [.lit (.pointer none), .lit (.pointer none), .lit (.pointer none), .lit (.string ⟨#[]⟩)], false⟩,
  ⟨.array 0 16, 0, 0, [], false⟩,
  ⟨.bad, 0, 0, [], false⟩,
  ⟨.bad, 0, 0, [], false⟩,
  ⟨.int .u8, 1, 1, [.lit (.int .u8 0)], false⟩,
  ⟨.int .u8, 1, 1, [.lit (.int .u8 0)], false⟩,
  ⟨.other, 1, 8, [.lit .nilFunc], false⟩,
  ⟨.int .i32, 1, 4, [.lit (.int .i32 0)], false⟩,
  ⟨.int .i32, 1, 4, [.lit (.int .i32 0)], false⟩,
  ⟨.struct [(0, 12), (1, 12), (2, 198), (3, 408), (4, 5), (5, 5), (6, 409), (7, 410), (8, 298), (9, 411), (10, 412)], 11, 48, [.lit (.int .u64 0), .lit (.int .u64 0), .lit (.int .u32 0), .lit (.int .u8 0), .lit (.int .u8 0), .lit (.int .u8 0), .lit (.int .u8 0), .lit .nilFunc, .lit (.pointer none), .lit (.int .i32 0), .lit (.int .i32 0)], false⟩,
  ⟨.struct [(0, 12), (1, 12), (2, 198), (3, 408), (4, 5), (5, 5), (6, 409), (7, 410), (8, 298), (9, 411), (10, 412)], 11, 48, [.lit (.int .u64 0), .lit (.int .u64 0), .lit (.int .u32 0), .lit (.int .u8 0), .lit (.int .u8 0), .lit (.int .u8 0), .lit (.int .u8 0), .lit .nilFunc, .lit (.pointer none), .lit (.int .i32 0), .lit (.int .i32 0)], false⟩]
def tyls : List (List TI) := [tyl0, tyl1, tyl2, tyl3, tyl4, tyl5, tyl6, tyl7, tyl8, tyl9, tyl10, tyl11, tyl12, tyl13, tyl14, tyl15, tyl16, tyl17, tyl18, tyl19, tyl20, tyl21, tyl22, tyl23, tyl24, tyl25]
def tyAt (t : Nat) : TI := match tyls[t / 16]? with
  | some l => match l[t % 16]? with
    | some i => i
    | none => ⟨.bad, 0, 0, [], false⟩
  | none => ⟨.bad, 0, 0, [], false⟩
theorem tyAt_far (t : Nat) (h : 416 ≤ t) : tyAt t = ⟨.bad, 0, 0, [], false⟩ := by
  have : tyls[t / 16]? = none := List.getElem?_eq_none (by simp [tyls]; omega)
  simp [tyAt, this]
theorem tys_ok : (List.range 416).all (fun t => tyB Go.Proofs.Tryz.prog t (tyAt t)) = true := by kernel_rfl
theorem tyOk (C : Ctx) (hP : C.P = Go.Proofs.Tryz.prog) (ht : C.ty = tyAt) : TyOk C := tyOk_of 416 hP ht tyAt_far tys_ok
def nobody : List Nat := [0, 1, 173, 179, 189, 248, 265, 266, 288, 290, 303, 345, 346, 347, 348, 349, 350, 351, 352, 353, 354, 355, 356, 357, 358, 359, 360, 361, 362, 363, 364, 365, 366, 367, 368, 369, 370, 371, 372, 373, 374, 375]
def fnOk : Nat → Bool := fnsOf 0 377 nobody
theorem fns_ok : (List.range 377).all (fun f => match fnOk f with | true => callB Go.Proofs.Tryz.prog f | false => true) = true := by kernel_rfl
def exts : List (Nat × Xt) := [(265, .same), (288, .cnt), (303, .idx)]
theorem ext265 : ExtAt Go.Proofs.Tryz.prog 265 .same := ⟨Go.Proofs.Tryz.f265, by kernel_rfl, by kernel_rfl, by kernel_rfl, by kernel_rfl, by kernel_rfl⟩
theorem ext288 : ExtAt Go.Proofs.Tryz.prog 288 .cnt := ⟨Go.Proofs.Tryz.f288, by kernel_rfl, by kernel_rfl, by kernel_rfl, by kernel_rfl, by kernel_rfl⟩
theorem ext303 : ExtAt Go.Proofs.Tryz.prog 303 .idx := ⟨Go.Proofs.Tryz.f303, by kernel_rfl, by kernel_rfl, by kernel_rfl, by kernel_rfl, by kernel_rfl⟩
theorem exts_ok : ∀ p ∈ exts, ExtAt Go.Proofs.Tryz.prog p.1 p.2 := by
  intro p hp
  simp only [exts, List.mem_cons, List.mem_nil_iff, or_false] at hp
  rcases hp with rfl | rfl | rfl
  · exact ext265
  · exact ext288
  · exact ext303
def glob1 : List D := [.lit (.int .u64 1), .lit (.int .u64 10), .lit (.int .u64 100), .lit (.int .u64 1000), .lit (.int .u64 10000), .lit (.int .u64 100000), .lit (.int .u64 1000000), .lit (.int .u64 10000000), .lit (.int .u64 100000000), .lit (.int .u64 1000000000), .lit (.int .u64 10000000000), .lit (.int .u64 100000000000), .lit (.int .u64 1000000000000), .lit (.int .u64 10000000000000), .lit (.int .u64 100000000000000), .lit (.int .u64 1000000000000000), .lit (.int .u64 10000000000000000), .lit (.int .u64 100000000000000000), .lit (.int .u64 1000000000000000000), .lit (.int .u64 10000000000000000000)]
def glob2 : List D := [.lit (.int .u8 0), .lit (.int .u8 1), .lit (.int .u8 28), .lit (.int .u8 2), .lit (.int .u8 29), .lit (.int .u8 14), .lit (.int .u8 24), .lit (.int .u8 3), .lit (.int .u8 30), .lit (.int .u8 22), .lit (.int .u8 20), .lit (.int .u8 15), .lit (.int .u8 25), .lit (.int .u8 17), .lit (.int .u8 4), .lit (.int .u8 8), .lit (.int .u8 31), .lit (.int .u8 27), .lit (.int .u8 13), .lit (.int .u8 23), .lit (.int .u8 21), .lit (.int .u8 19), .lit (.int .u8 16), .lit (.int .u8 7), .lit (.int .u8 26), .lit (.int .u8 12), .lit (.int .u8 18), .lit (.int .u8 6), .lit (.int .u8 11), .lit (.int .u8 5), .lit (.int .u8 10), .lit (.int .u8 9)]
def glob3 : List D := [.lit (.int .u8 0), .lit (.int .u8 1), .lit (.int .u8 56), .lit (.int .u8 2), .lit (.int .u8 57), .lit (.int .u8 49), .lit (.int .u8 28), .lit (.int .u8 3), .lit (.int .u8 61), .lit (.int .u8 58), .lit (.int .u8 42), .lit (.int .u8 50), .lit (.int .u8 38), .lit (.int .u8 29), .lit (.int .u8 17), .lit (.int .u8 4), .lit (.int .u8 62), .lit (.int .u8 47), .lit (.int .u8 59), .lit (.int .u8 36), .lit (.int .u8 45), .lit (.int .u8 43), .lit (.int .u8 51), .lit (.int .u8 22), .lit (.int .u8 53), .lit (.int .u8 39), .lit (.int .u8 33), .lit (.int .u8 30), .lit (.int .u8 24), .lit (.int .u8 18), .lit (.int .u8 12), .lit (.int .u8 5), .lit (.int .u8 63), .lit (.int .u8 55), .lit (.int .u8 48), .lit (.int .u8 27), .lit (.int .u8 60), .lit (.int .u8 41), .lit (.int .u8 37), .lit (.int .u8 16), .lit (.int .u8 46), .lit (.int .u8 35), .lit (.int .u8 44), .lit (.int .u8 21), .lit (.int .u8 52), .lit (.int .u8 32), .lit (.int .u8 23), .lit (.int .u8 11), .lit (.int .u8 54), .lit (.int .u8 26), .lit (.int .u8 40), .lit (.int .u8 15), .lit (.int .u8 34), .lit (.int .u8 20), .lit (.int .u8 31), .lit (.int .u8 10), .lit (.int .u8 25), .lit (.int .u8 14), .lit (.int .u8 19), .lit (.int .u8 9), .lit (.int .u8 13), .lit (.int .u8 8), .lit (.int .u8 7), .lit (.int .u8 6)]
def glob5 : List D := [.lit (.int .u8 128), .lit (.int .u8 191), .lit (.int .u8 160), .lit (.int .u8 191), .lit (.int .u8 128), .lit (.int .u8 159), .lit (.int .u8 144), .lit (.int .u8 191), .lit (.int .u8 128), .lit (.int .u8 143), .lit (.int .u8 0), .lit (.int .u8 0), .lit (.int .u8 0), .lit (.int .u8 0), .lit (.int .u8 0), .lit (.int .u8 0), .lit (.int .u8 0), .lit (.int .u8 0), .lit (.int .u8 0), .lit (.int .u8 0), .lit (.int .u8 0), .lit (.int .u8 0), .lit (.int .u8 0), .lit (.int .u8 0), .lit (.int .u8 0), .lit (.int .u8 0), .lit (.int .u8 0), .lit (.int .u8 0), .lit (.int .u8 0), .lit (.int .u8 0), .lit (.int .u8 0), .lit (.int .u8 0)]
def glob6 : List D := [.ifc 399 (.rp [.lit (.string ⟨#[105, 110, 118, 97, 108, 105, 100, 32, 115, 121, 110, 116, 97, 120]⟩)])]
def glob7 : List D := [.ifc 399 (.rp [.lit (.string ⟨#[118, 97, 108, 117, 101, 32, 111, 117, 116, 32, 111, 102, 32, 114, 97, 110, 103, 101]⟩)])]
def globAt : Nat → Option (List D)
  | 1 => some glob1
  | _ => none
noncomputable def ctx : Ctx := { P := Go.Proofs.Tryz.prog, ty := tyAt, fns := fnOk, glob := globAt, ext := extOf exts, rows := false }
theorem ctxOk : CtxOk ctx := ⟨tyOk ctx rfl rfl, fnsOf_spec fns_ok, by kernel_rfl, extOf_spec exts_ok⟩
noncomputable def ctxR : Ctx := { P := Go.Proofs.Tryz.prog, ty := tyAt, fns := fnOk, glob := globAt, ext := extOf exts, rows := true }
theorem ctxOkR : CtxOk ctxR := ⟨tyOk ctxR rfl rfl, fnsOf_spec fns_ok, by kernel_rfl, extOf_spec exts_ok⟩
end Go.Abs
/- Numbers of the model as natural numbers. -/
namespace Go.Abs
set_option linter.unusedVariables false
set_option linter.unusedSimpArgs false
theorem wrap8 (n : Nat) : IntKind.u8.wrap (n : Int) = ((n % 256 : Nat) : Int) := by
  simp [IntKind.wrap, IntKind.bits, IntKind.signed]
theorem bv8 (n : Nat) : BitVec.ofInt 8 (n : Int) = BitVec.ofNat 8 n := by simp
theorem or8 (a b : Nat) (ha : a < 256) (hb : b < 256) : IntKind.u8.wrap (((BitVec.ofInt IntKind.u8.bits (a : Int) ||| BitVec.ofInt IntKind.u8.bits (b : Int)).toNat : Nat) : Int) = ((a ||| b : Nat) : Int) := by
  show IntKind.u8.wrap (((BitVec.ofInt 8 (a : Int) ||| BitVec.ofInt 8 (b : Int)).toNat : Nat) : Int) = _
  rw [bv8, bv8, wrap8]
  congr 1
  rw [BitVec.toNat_or, BitVec.toNat_ofNat, BitVec.toNat_ofNat, Nat.mod_eq_of_lt (a := a) ha, Nat.mod_eq_of_lt (a := b) hb]
  exact Nat.mod_eq_of_lt (Nat.or_lt_two_pow (n := 8) ha hb)
theorem and8 (a b : Nat) (ha : a < 256) (hb : b < 256) : IntKind.u8.wrap (((BitVec.ofInt IntKind.u8.bits (a : Int) &&& BitVec.ofInt IntKind.u8.bits (b : Int)).toNat : Nat) : Int) = ((a &&& b : Nat) : Int) := by
  show IntKind.u8.wrap (((BitVec.ofInt 8 (a : Int) &&& BitVec.ofInt 8 (b : Int)).toNat : Nat) : Int) = _
  rw [bv8, bv8, wrap8]
  congr 1
  rw [BitVec.toNat_and, BitVec.toNat_ofNat, BitVec.toNat_ofNat, Nat.mod_eq_of_lt (a := a) ha, Nat.mod_eq_of_lt (a := b) hb]
  exact Nat.mod_eq_of_lt (Nat.lt_of_le_of_lt Nat.and_le_left ha)
theorem xor8 (a b : Nat) (ha : a < 256) (hb : b < 256) : IntKind.u8.wrap (((BitVec.ofInt IntKind.u8.bits (a : Int) ^^^ BitVec.ofInt IntKind.u8.bits (b : Int)).toNat : Nat) : Int) = ((a ^^^ b : Nat) : Int) := by
  show IntKind.u8.wrap (((BitVec.ofInt 8 (a : Int) ^^^ BitVec.ofInt 8 (b : Int)).toNat : Nat) : Int) = _
  rw [bv8, bv8, wrap8]
  congr 1
  rw [BitVec.toNat_xor, BitVec.toNat_ofNat, BitVec.toNat_ofNat, Nat.mod_eq_of_lt (a := a) ha, Nat.mod_eq_of_lt (a := b) hb]
  exact Nat.mod_eq_of_lt (Nat.xor_lt_two_pow (n := 8) ha hb)
theorem shl8 (x k : Nat) : IntKind.u8.wrap ((x : Int) * 2 ^ k) = ((x * 2 ^ k % 256 : Nat) : Int) := by
  rw [← wrap8]; congr 1
theorem add8 (a b : Nat) : IntKind.u8.wrap ((a : Int) + (b : Int)) = (((a + b) % 256 : Nat) : Int) := by
  rw [← wrap8]; congr 1
theorem mul8 (a b : Nat) : IntKind.u8.wrap ((a : Int) * (b : Int)) = ((a * b % 256 : Nat) : Int) := by
  rw [← wrap8]; congr 1
theorem wrap16 (n : Nat) : IntKind.u16.wrap (n : Int) = ((n % 65536 : Nat) : Int) := by
  simp [IntKind.wrap, IntKind.bits, IntKind.signed]
theorem bv16 (n : Nat) : BitVec.ofInt 16 (n : Int) = BitVec.ofNat 16 n := by simp
theorem or16 (a b : Nat) (ha : a < 65536) (hb : b < 65536) : IntKind.u16.wrap (((BitVec.ofInt IntKind.u16.bits (a : Int) ||| BitVec.ofInt IntKind.u16.bits (b : Int)).toNat : Nat) : Int) = ((a ||| b : Nat) : Int) := by
  show IntKind.u16.wrap (((BitVec.ofInt 16 (a : Int) ||| BitVec.ofInt 16 (b : Int)).toNat : Nat) : Int) = _
  rw [bv16, bv16, wrap16]
  congr 1
  rw [BitVec.toNat_or, BitVec.toNat_ofNat, BitVec.toNat_ofNat, Nat.mod_eq_of_lt (a := a) ha, Nat.mod_eq_of_lt (a := b) hb]
  exact Nat.mod_eq_of_lt (Nat.or_lt_two_pow (n := 16) ha hb)
theorem and16 (a b : Nat) (ha : a < 65536) (hb : b < 65536) : IntKind.u16.wrap (((BitVec.ofInt IntKind.u16.bits (a : Int) &&& BitVec.ofInt IntKind.u16.bits (b : Int)).toNat : Nat) : Int) = ((a &&& b : Nat) : Int) := by
  show IntKind.u16.wrap (((BitVec.ofInt 16 (a : Int) &&& BitVec.ofInt 16 (b : Int)).toNat : Nat) : Int) = _
  rw [bv16, bv16, wrap16]
  congr 1
  rw [BitVec.toNat_and, BitVec.toNat_ofNat, BitVec.toNat_ofNat, Nat.mod_eq_of_lt (a := a) ha, Nat.mod_eq_of_lt (a := b) hb]
  exact Nat.mod_eq_of_lt (Nat.lt_of_le_of_lt Nat.and_le_left ha)
theorem xor16 (a b : Nat) (ha : a < 65536) (hb : b < 65536) : IntKind.u16.wrap (((BitVec.ofInt IntKind.u16.bits (a : Int) ^^^ BitVec.ofInt IntKind.u16.bits (b : Int)).toNat : Nat) : Int) = ((a ^^^ b : Nat) : Int) := by
  show IntKind.u16.wrap (((BitVec.ofInt 16 (a : Int) ^^^ BitVec.ofInt 16 (b : Int)).toNat : Nat) : Int) = _
  rw [bv16, bv16, wrap16]
  congr 1
  rw [BitVec.toNat_xor, BitVec.toNat_ofNat, BitVec.toNat_ofNat, Nat.mod_eq_of_lt (a := a) ha, Nat.mod_eq_of_lt (a := b) hb]
  exact Nat.mod_eq_of_lt (Nat.xor_lt_two_pow (n := 16) ha hb)
theorem shl16 (x k : Nat) : IntKind.u16.wrap ((x : Int) * 2 ^ k) = ((x * 2 ^ k % 65536 : Nat) : Int) := by
  rw [← wrap16]; congr 1
theorem add16 (a b : Nat) : IntKind.u16.wrap ((a : Int) + (b : Int)) = (((a + b) % 65536 : Nat) : Int) := by
  rw [← wrap16]; congr 1
theorem mul16 (a b : Nat) : IntKind.u16.wrap ((a : Int) * (b : Int)) = ((a * b % 65536 : Nat) : Int) := by
  rw [← wrap16]; congr 1
theorem wrap32 (n : Nat) : IntKind.u32.wrap (n : Int) = ((n % 4294967296 : Nat) : Int) := by
  simp [IntKind.wrap, IntKind.bits, IntKind.signed]
theorem bv32 (n : Nat) : BitVec.ofInt 32 (n : Int) = BitVec.ofNat 32 n := by simp
theorem or32 (a b : Nat) (ha : a < 4294967296) (hb : b < 4294967296) : IntKind.u32.wrap (((BitVec.ofInt IntKind.u32.bits (a : Int) ||| BitVec.ofInt IntKind.u32.bits (b : Int)).toNat : Nat) : Int) = ((a ||| b : Nat) : Int) := by
  show IntKind.u32.wrap (((BitVec.ofInt 32 (a : Int) ||| BitVec.ofInt 32 (b : Int)).toNat : Nat) : Int) = _
  rw [bv32, bv32, wrap32]
  congr 1
  rw [BitVec.toNat_or, BitVec.toNat_ofNat, BitVec.toNat_ofNat, Nat.mod_eq_of_lt (a := a) ha, Nat.mod_eq_of_lt (a := b) hb]
  exact Nat.mod_eq_of_lt (Nat.or_lt_two_pow (n := 32) ha hb)
theorem and32 (a b : Nat) (ha : a < 4294967296) (hb : b < 4294967296) : IntKind.u32.wrap (((BitVec.ofInt IntKind.u32.bits (a : Int) &&& BitVec.ofInt IntKind.u32.bits (b : Int)).toNat : Nat) : Int) = ((a &&& b : Nat) : Int) := by
  show IntKind.u32.wrap (((BitVec.ofInt 32 (a : Int) &&& BitVec.ofInt 32 (b : Int)).toNat : Nat) : Int) = _
  rw [bv32, bv32, wrap32]
  congr 1
  rw [BitVec.toNat_and, BitVec.toNat_ofNat, BitVec.toNat_ofNat, Nat.mod_eq_of_lt (a := a) ha, Nat.mod_eq_of_lt (a := b) hb]
  exact Nat.mod_eq_of_lt (Nat.lt_of_le_of_lt Nat.and_le_left ha)
theorem xor32 (a b : Nat) (ha : a < 4294967296) (hb : b < 4294967296) : IntKind.u32.wrap (((BitVec.ofInt IntKind.u32.bits (a : Int) ^^^ BitVec.ofInt IntKind.u32.bits (b : Int)).toNat : Nat) : Int) = ((a ^^^ b : Nat) : Int) := by
  show IntKind.u32.wrap (((BitVec.ofInt 32 (a : Int) ^^^ BitVec.ofInt 32 (b : Int)).toNat : Nat) : Int) = _
  rw [bv32, bv32, wrap32]
  congr 1
  rw [BitVec.toNat_xor, BitVec.toNat_ofNat, BitVec.toNat_ofNat, Nat.mod_eq_of_lt (a := a) ha, Nat.mod_eq_of_lt (a := b) hb]
  exact Nat.mod_eq_of_lt (Nat.xor_lt_two_pow (n := 32) ha hb)
theorem shl32 (x k : Nat) : IntKind.u32.wrap ((x : Int) * 2 ^ k) = ((x * 2 ^ k % 4294967296 : Nat) : Int) := by
  rw [← wrap32]; congr 1
theorem add32 (a b : Nat) : IntKind.u32.wrap ((a : Int) + (b : Int)) = (((a + b) % 4294967296 : Nat) : Int) := by
  rw [← wrap32]; congr 1
theorem mul32 (a b : Nat) : IntKind.u32.wrap ((a : Int) * (b : Int)) = ((a * b % 4294967296 : Nat) : Int) := by
  rw [← wrap32]; congr 1
theorem wrap64 (n : Nat) : IntKind.u64.wrap (n : Int) = ((n % 18446744073709551616 : Nat) : Int) := by
  simp [IntKind.wrap, IntKind.bits, IntKind.signed]
theorem bv64 (n : Nat) : BitVec.ofInt 64 (n : Int) = BitVec.ofNat 64 n := by simp
theorem or64 (a b : Nat) (ha : a < 18446744073709551616) (hb : b < 18446744073709551616) : IntKind.u64.wrap (((BitVec.ofInt IntKind.u64.bits (a : Int) ||| BitVec.ofInt IntKind.u64.bits (b : Int)).toNat : Nat) : Int) = ((a ||| b : Nat) : Int) := by
  show IntKind.u64.wrap (((BitVec.ofInt 64 (a : Int) ||| BitVec.ofInt 64 (b : Int)).toNat : Nat) : Int) = _
  rw [bv64, bv64, wrap64]
  congr 1
  rw [BitVec.toNat_or, BitVec.toNat_ofNat, BitVec.toNat_ofNat, Nat.mod_eq_of_lt (a := a) ha, Nat.mod_eq_of_lt (a := b) hb]
  exact Nat.mod_eq_of_lt (Nat.or_lt_two_pow (n := 64) ha hb)
theorem and64 (a b : Nat) (ha : a < 18446744073709551616) (hb : b < 18446744073709551616) : IntKind.u64.wrap (((BitVec.ofInt IntKind.u64.bits (a : Int) &&& BitVec.ofInt IntKind.u64.bits (b : Int)).toNat : Nat) : Int) = ((a &&& b : Nat) : Int) := by
  show IntKind.u64.wrap (((BitVec.ofInt 64 (a : Int) &&& BitVec.ofInt 64 (b : Int)).toNat : Nat) : Int) = _
  rw [bv64, bv64, wrap64]
  congr 1
  rw [BitVec.toNat_and, BitVec.toNat_ofNat, BitVec.toNat_ofNat, Nat.mod_eq_of_lt (a := a) ha, Nat.mod_eq_of_lt (a := b) hb]
  exact Nat.mod_eq_of_lt (Nat.lt_of_le_of_lt Nat.and_le_left ha)
theorem xor64 (a b : Nat) (ha : a < 18446744073709551616) (hb : b < 18446744073709551616) : IntKind.u64.wrap (((BitVec.ofInt IntKind.u64.bits (a : Int) ^^^ BitVec.ofInt IntKind.u64.bits (b : Int)).toNat : Nat) : Int) = ((a ^^^ b : Nat) : Int) := by
  show IntKind.u64.wrap (((BitVec.ofInt 64 (a : Int) ^^^ BitVec.ofInt 64 (b : Int)).toNat : Nat) : Int) = _
  rw [bv64, bv64, wrap64]
  congr 1
  rw [BitVec.toNat_xor, BitVec.toNat_ofNat, BitVec.toNat_ofNat, Nat.mod_eq_of_lt (a := a) ha, Nat.mod_eq_of_lt (a := b) hb]
  exact Nat.mod_eq_of_lt (Nat.xor_lt_two_pow (n := 64) ha hb)
theorem shl64 (x k : Nat) : IntKind.u64.wrap ((x : Int) * 2 ^ k) = ((x * 2 ^ k % 18446744073709551616 : Nat) : Int) := by
  rw [← wrap64]; congr 1
theorem add64 (a b : Nat) : IntKind.u64.wrap ((a : Int) + (b : Int)) = (((a + b) % 18446744073709551616 : Nat) : Int) := by
  rw [← wrap64]; congr 1
theorem mul64 (a b : Nat) : IntKind.u64.wrap ((a : Int) * (b : Int)) = ((a * b % 18446744073709551616 : Nat) : Int) := by
  rw [← wrap64]; congr 1
theorem shrN (x k : Nat) : ((x : Int).fdiv (2 ^ k)) = ((x / 2 ^ k : Nat) : Int) := by
  rw [Int.fdiv_eq_ediv_of_nonneg _ (Int.pow_nonneg (by omega))]
  push_cast; rfl
def allLk (e : Env) : Env → Prop
  | [] => True
  | (i, v) :: r => lk e i = v ∧ allLk e r
theorem SubE.of {e : Env} : ∀ {e' : Env}, allLk e e' → SubE e' e
  | [], _ => fun i => .inr rfl
  | (j, v) :: r, h => fun i => by
    rw [lk_cons]
    by_cases hij : j = i
    · subst hij; simp only [if_pos]; exact .inl h.1.symm
    · simp only [if_neg hij]; exact SubE.of h.2 i
end Go.Abs
