/- A part of the proof: X1. -/
import Derived.Test.YtcclefkkjboaeaaGreatDoorAComp
import Derived.Test.YtcclefkkjboaeaaGreatDoorProg
import Derived.KernelRfl
namespace Go.Proofs.YtcclefkkjboaeaaGreatDoor
open Go Go.AM
set_option maxRecDepth 100000
def mts : List TypeId := [15, 16, 17, 24, 32, 35, 36, 44, 54, 123, 124, 128, 131, 134, 136, 138, 140, 244, 248, 252, 352, 356, 359, 362]
def a3 : AFunc := { ntmps := 66, results := [.tmp 4], body := (.seq (.ops [⟨(some 2), .box 23 (.tmp 0), none⟩,
  ⟨(some 4), .mov (.const (.bool false)), none⟩])
  (.seq (.ops [⟨(some 5), .mov (.const (.pointer none)), none⟩])
  (.seq (.ops [⟨(some 16), .mov (.tmp 5), none⟩,
  ⟨(some 17), .call (.func 7) [(.tmp 16)], none⟩,
  ⟨(some 15), .mov (.tmp 17), none⟩,
  ⟨(some 18), .extract (.tmp 15) 0, none⟩,
  ⟨(some 19), .extract (.tmp 15) 1, none⟩,
  ⟨(some 6), .alloc 27 [(.int .i64 0), (.bool false), (.string ⟨#[]⟩), (.string ⟨#[]⟩), (.int .i64 0)], none⟩,
  ⟨none, .store 5 (.tmp 6) (.tmp 18), none⟩,
  ⟨(some 7), .mov (.tmp 19), none⟩])
  (.seq (.ops [⟨(some 21), .mov (.tmp 1), none⟩,
  ⟨(some 22), .loadN 5 (.tmp 2), none⟩,
  ⟨(some 23), .call (.func 8) [(.const (.pointer none)), (.tmp 21), (.tmp 22)], none⟩,
  ⟨(some 20), .mov (.tmp 23), none⟩,
  ⟨(some 24), .extract (.tmp 20) 0, none⟩,
  ⟨(some 25), .extract (.tmp 20) 1, none⟩,
  ⟨(some 8), .mov (.tmp 24), none⟩,
  ⟨(some 9), .mov (.tmp 25), none⟩])
  (.seq (.ops [⟨(some 27), .build [(.int .i64 0), (.int .i64 0), (.int .i64 0), (.int .i64 0), (.int .i64 0), (.pointer none), (.pointer none), (.int .i64 0)] [], none⟩,
  ⟨(some 28), .box 38 (.tmp 27), none⟩,
  ⟨(some 29), .mov (.tmp 1), none⟩,
  ⟨(some 30), .loadN 5 (.tmp 2), none⟩,
  ⟨(some 31), .call (.func 8) [(.tmp 28), (.tmp 29), (.tmp 30)], none⟩,
  ⟨(some 26), .mov (.tmp 31), none⟩,
  ⟨(some 32), .extract (.tmp 26) 0, none⟩,
  ⟨(some 33), .extract (.tmp 26) 1, none⟩,
  ⟨(some 10), .mov (.tmp 32), none⟩,
  ⟨(some 11), .mov (.tmp 33), none⟩])
  (.seq (.ops [⟨(some 35), .mov (.tmp 1), none⟩,
  ⟨(some 36), .loadN 5 (.tmp 2), none⟩,
  ⟨(some 37), .call (.func 9) [(.const (.pointer none)), (.tmp 35), (.tmp 36)], none⟩,
  ⟨(some 34), .mov (.tmp 37), none⟩,
  ⟨(some 38), .extract (.tmp 34) 0, none⟩,
  ⟨(some 39), .extract (.tmp 34) 1, none⟩,
  ⟨(some 40), .extract (.tmp 34) 2, none⟩,
  ⟨(some 12), .alloc 27 [(.int .i64 0), (.bool false), (.string ⟨#[]⟩), (.string ⟨#[]⟩), (.int .i64 0)], none⟩,
  ⟨none, .store 5 (.tmp 12) (.tmp 38), none⟩,
  ⟨(some 13), .mov (.tmp 39), none⟩,
  ⟨(some 14), .mov (.tmp 40), none⟩])
  (.seq (.ops [⟨(some 41), .mov (.tmp 7), none⟩,
  ⟨(some 42), .mov (.tmp 41), none⟩,
  ⟨(some 43), .loadN 5 (.tmp 6), (some (42, true))⟩,
  ⟨(some 44), .build [(.int .i64 0), (.bool false), (.string ⟨#[]⟩), (.string ⟨#[]⟩), (.int .i64 0)] [], (some (42, true))⟩,
  ⟨(some 45), .bin .eql (.agg [.int, .bool, .str, .str, .int]) (.tmp 43) (.tmp 44), (some (42, true))⟩,
  ⟨(some 46), .pick (.tmp 42) (.tmp 45) (.const (.bool false)), none⟩,
  ⟨(some 47), .mov (.tmp 46), none⟩,
  ⟨(some 48), .mov (.tmp 9), (some (47, true))⟩,
  ⟨(some 49), .bin .eql (.prim .int) (.tmp 48) (.const (.int .i64 4)), (some (47, true))⟩,
  ⟨(some 50), .pick (.tmp 47) (.tmp 49) (.const (.bool false)), none⟩,
  ⟨(some 51), .mov (.tmp 50), none⟩,
  ⟨(some 52), .mov (.tmp 11), (some (51, true))⟩,
  ⟨(some 53), .bin .eql (.prim .int) (.tmp 52) (.const (.int .i64 4)), (some (51, true))⟩,
  ⟨(some 54), .pick (.tmp 51) (.tmp 53) (.const (.bool false)), none⟩,
  ⟨(some 55), .mov (.tmp 54), none⟩,
  ⟨(some 56), .mov (.tmp 14), (some (55, true))⟩,
  ⟨(some 57), .bin .eql (.prim .int) (.tmp 56) (.const (.int .i64 4)), (some (55, true))⟩,
  ⟨(some 58), .pick (.tmp 55) (.tmp 57) (.const (.bool false)), none⟩,
  ⟨(some 59), .mov (.tmp 58), none⟩,
  ⟨(some 60), .mov (.tmp 13), (some (59, true))⟩,
  ⟨(some 61), .bin .eql (.prim .int) (.tmp 60) (.const (.int .i64 0)), (some (59, true))⟩,
  ⟨(some 62), .pick (.tmp 59) (.tmp 61) (.const (.bool false)), none⟩,
  ⟨(some 63), .mov (.tmp 62), none⟩,
  ⟨(some 64), .call (.func 10) [], (some (63, true))⟩,
  ⟨(some 65), .pick (.tmp 63) (.tmp 64) (.const (.bool false)), none⟩,
  ⟨(some 4), .mov (.tmp 65), none⟩])
  .ret))))))) }
theorem c3 : compFunc Tryz.prog mts Tryz.f3 = some a3 := by kernel_rfl
def a7 : AFunc := { ntmps := 139, results := [.cellN 2 5, .tmp 3], body := (.seq (.ops [⟨(some 2), .alloc 27 [(.int .i64 0), (.bool false), (.string ⟨#[]⟩), (.string ⟨#[]⟩), (.int .i64 0)], none⟩,
  ⟨(some 3), .mov (.const (.bool false)), none⟩])
  (.seq (.seq (.ops [⟨(some 8), .mov (.tmp 0), none⟩,
  ⟨(some 9), .bin .eql .ptr (.tmp 8) (.const (.pointer none)), none⟩,
  ⟨(some 10), .mov (.tmp 9), none⟩,
  ⟨(some 11), .mov (.tmp 0), (some (10, false))⟩,
  ⟨(some 12), .nilCheck (.tmp 11), (some (10, false))⟩,
  ⟨(some 13), .fieldAddr 7 (.tmp 12), (some (10, false))⟩,
  ⟨(some 14), .load1 (.tmp 13), (some (10, false))⟩,
  ⟨(some 15), .bin .eql (.prim .int) (.tmp 14) (.const (.int .i64 10)), (some (10, false))⟩,
  ⟨(some 16), .pick (.tmp 10) (.const (.bool true)) (.tmp 15), none⟩])
  (.cond (.tmp 16) (.seq (.ops [⟨(some 17), .build [(.int .i64 0), (.bool false), (.string ⟨#[]⟩), (.string ⟨#[]⟩), (.int .i64 0)] [], none⟩,
  ⟨none, .store 5 (.tmp 2) (.tmp 17), none⟩,
  ⟨(some 3), .mov (.const (.bool true)), none⟩])
  .ret)
  .skip))
  (.seq (.seq (.ops [⟨(some 18), .mov (.tmp 0), none⟩,
  ⟨(some 19), .nilCheck (.tmp 18), none⟩,
  ⟨(some 20), .fieldAddr 7 (.tmp 19), none⟩,
  ⟨(some 21), .load1 (.tmp 20), none⟩])
  (.block 0 (.seq (.seq (.ops [⟨(some 23), .bin .eql (.prim .int) (.tmp 21) (.const (.int .i64 0)), none⟩,
  ⟨(some 22), .mov (.tmp 23), none⟩])
  (.cond (.tmp 22) .skip
  (.ops [⟨(some 24), .bin .eql (.prim .int) (.tmp 21) (.const (.int .i64 7)), none⟩,
  ⟨(some 22), .mov (.tmp 24), none⟩])))
  (.cond (.tmp 22) (.seq (.ops [⟨(some 26), .mov (.tmp 0), none⟩,
  ⟨(some 27), .nilCheck (.tmp 26), none⟩,
  ⟨(some 28), .fieldAddr 0 (.tmp 27), none⟩,
  ⟨(some 29), .load1 (.tmp 28), none⟩,
  ⟨(some 30), .nilCheck (.tmp 29), none⟩,
  ⟨(some 31), .fieldAddr 5 (.tmp 30), none⟩,
  ⟨(some 32), .load1 (.tmp 31), none⟩,
  ⟨(some 33), .call (.func 30) [(.tmp 32), (.const (.int .i64 1))], none⟩,
  ⟨(some 25), .mov (.tmp 33), none⟩,
  ⟨(some 34), .extract (.tmp 25) 0, none⟩,
  ⟨(some 35), .extract (.tmp 25) 1, none⟩,
  ⟨(some 4), .alloc 75 [(.int .i64 0), (.int .i64 0), (.int .i64 0)], none⟩,
  ⟨none, .store 3 (.tmp 4) (.tmp 34), none⟩,
  ⟨(some 5), .mov (.tmp 35), none⟩])
  (.seq (.ops [⟨(some 36), .mov (.tmp 0), none⟩,
  ⟨(some 37), .fieldAddr 1 (.tmp 4), none⟩,
  ⟨(some 38), .load1 (.tmp 37), none⟩,
  ⟨(some 39), .nilCheck (.tmp 36), none⟩,
  ⟨(some 40), .fieldAddr 8 (.tmp 39), none⟩,
  ⟨none, .store 1 (.tmp 40) (.tmp 38), none⟩])
  (.ops [⟨(some 41), .mov (.tmp 0), none⟩,
  ⟨(some 42), .nilCheck (.tmp 41), none⟩,
  ⟨(some 43), .fieldAddr 7 (.tmp 42), none⟩,
  ⟨(some 44), .load1 (.tmp 43), none⟩,
  ⟨(some 45), .bin .add (.prim .int) (.tmp 44) (.const (.int .i64 1)), none⟩,
  ⟨(some 46), .nilCheck (.tmp 41), none⟩,
  ⟨(some 47), .fieldAddr 7 (.tmp 46), none⟩,
  ⟨none, .store 1 (.tmp 47) (.tmp 45), none⟩])))
  (.seq (.ops [⟨(some 49), .bin .eql (.prim .int) (.tmp 21) (.const (.int .i64 1)), none⟩,
  ⟨(some 48), .mov (.tmp 49), none⟩])
  (.cond (.tmp 48) (.seq (.ops [⟨(some 51), .mov (.tmp 0), none⟩,
  ⟨(some 52), .nilCheck (.tmp 51), none⟩,
  ⟨(some 53), .fieldAddr 8 (.tmp 52), none⟩,
  ⟨(some 54), .load1 (.tmp 53), none⟩,
  ⟨(some 55), .call (.func 31) [(.tmp 54), (.const (.int .i64 (-1)))], none⟩,
  ⟨(some 50), .mov (.tmp 55), none⟩,
  ⟨(some 56), .extract (.tmp 50) 0, none⟩,
  ⟨(some 57), .extract (.tmp 50) 1, none⟩,
  ⟨(some 6), .alloc 75 [(.int .i64 0), (.int .i64 0), (.int .i64 0)], none⟩,
  ⟨none, .store 3 (.tmp 6) (.tmp 56), none⟩,
  ⟨(some 7), .mov (.tmp 57), none⟩])
  (.seq (.draw [⟨0, ⟨(some 58), .mov (.tmp 0), none⟩, []⟩,
  ⟨1, ⟨(some 59), .nilCheck (.tmp 58), none⟩, []⟩,
  ⟨2, ⟨(some 60), .fieldAddr 0 (.tmp 59), none⟩, []⟩,
  ⟨3, ⟨(some 61), .load1 (.tmp 60), none⟩, []⟩,
  ⟨4, ⟨(some 62), .nilCheck (.tmp 61), none⟩, []⟩,
  ⟨5, ⟨(some 63), .fieldAddr 5 (.tmp 62), none⟩, []⟩,
  ⟨6, ⟨(some 64), .load1 (.tmp 63), none⟩, []⟩,
  ⟨7, ⟨(some 65), .mov (.tmp 0), none⟩, []⟩,
  ⟨8, ⟨(some 66), .nilCheck (.tmp 65), none⟩, []⟩,
  ⟨9, ⟨(some 67), .fieldAddr 1 (.tmp 66), none⟩, []⟩,
  ⟨10, ⟨(some 68), .load1 (.tmp 67), none⟩, []⟩,
  ⟨12, ⟨(some 70), .loadN 3 (.tmp 6), none⟩, []⟩,
  ⟨11, ⟨(some 69), .call (.func 33) [(.tmp 68)], none⟩, [⟨(some 61), .load1 (.tmp 60), none⟩, ⟨(some 64), .load1 (.tmp 63), none⟩, ⟨(some 70), .loadN 3 (.tmp 6), none⟩]⟩,
  ⟨13, ⟨(some 71), .call (.func 32) [(.tmp 64), (.tmp 69), (.tmp 70)], none⟩, []⟩])
  (.ops [⟨(some 72), .mov (.tmp 0), none⟩,
  ⟨(some 73), .nilCheck (.tmp 72), none⟩,
  ⟨(some 74), .fieldAddr 7 (.tmp 73), none⟩,
  ⟨none, .store 1 (.tmp 74) (.const (.int .i64 2)), none⟩])))
  (.seq (.ops [⟨(some 76), .bin .eql (.prim .int) (.tmp 21) (.const (.int .i64 2)), none⟩,
  ⟨(some 75), .mov (.tmp 76), none⟩])
  (.cond (.tmp 75) (.seq (.ops [⟨(some 78), .mov (.tmp 0), none⟩,
  ⟨(some 79), .mov (.tmp 0), none⟩,
  ⟨(some 80), .nilCheck (.tmp 79), none⟩,
  ⟨(some 81), .fieldAddr 0 (.tmp 80), none⟩,
  ⟨(some 82), .load1 (.tmp 81), none⟩,
  ⟨(some 83), .nilCheck (.tmp 82), none⟩,
  ⟨(some 84), .fieldAddr 5 (.tmp 83), none⟩,
  ⟨(some 85), .load1 (.tmp 84), none⟩,
  ⟨(some 86), .call (.func 30) [(.tmp 85), (.const (.int .i64 0))], none⟩,
  ⟨(some 77), .mov (.tmp 86), none⟩,
  ⟨(some 87), .extract (.tmp 77) 0, none⟩,
  ⟨(some 88), .extract (.tmp 77) 1, none⟩,
  ⟨(some 89), .nilCheck (.tmp 78), none⟩,
  ⟨(some 90), .fieldAddr 9 (.tmp 89), none⟩,
  ⟨none, .store 3 (.tmp 90) (.tmp 87), none⟩])
  (.seq (.ops [⟨(some 91), .mov (.tmp 0), none⟩,
  ⟨(some 92), .call (.func 34) [(.tmp 91)], none⟩])
  (.ops [⟨(some 93), .mov (.tmp 0), none⟩,
  ⟨(some 94), .call (.func 35) [(.tmp 93)], none⟩])))
  (.seq (.ops [⟨(some 96), .bin .eql (.prim .int) (.tmp 21) (.const (.int .i64 3)), none⟩,
  ⟨(some 95), .mov (.tmp 96), none⟩])
  (.cond (.tmp 95) (.ops [⟨(some 97), .mov (.tmp 0), none⟩,
  ⟨(some 98), .call (.func 36) [(.tmp 97)], none⟩])
  (.seq (.ops [⟨(some 100), .bin .eql (.prim .int) (.tmp 21) (.const (.int .i64 4)), none⟩,
  ⟨(some 99), .mov (.tmp 100), none⟩])
  (.cond (.tmp 99) (.ops [⟨(some 101), .mov (.tmp 0), none⟩,
  ⟨(some 102), .call (.func 37) [(.tmp 101)], none⟩])
  (.seq (.ops [⟨(some 104), .bin .eql (.prim .int) (.tmp 21) (.const (.int .i64 5)), none⟩,
  ⟨(some 103), .mov (.tmp 104), none⟩])
  (.cond (.tmp 103) (.ops [⟨(some 105), .mov (.tmp 0), none⟩,
  ⟨(some 106), .call (.func 38) [(.tmp 105)], none⟩])
  (.seq (.ops [⟨(some 108), .bin .eql (.prim .int) (.tmp 21) (.const (.int .i64 6)), none⟩,
  ⟨(some 107), .mov (.tmp 108), none⟩])
  (.cond (.tmp 107) (.ops [⟨(some 109), .mov (.tmp 0), none⟩,
  ⟨(some 110), .call (.func 39) [(.tmp 109)], none⟩])
  (.seq (.ops [⟨(some 112), .bin .eql (.prim .int) (.tmp 21) (.const (.int .i64 8)), none⟩,
  ⟨(some 111), .mov (.tmp 112), none⟩])
  (.cond (.tmp 111) (.ops [⟨(some 113), .mov (.tmp 0), none⟩,
  ⟨(some 114), .call (.func 40) [(.tmp 113)], none⟩])
  (.seq (.ops [⟨(some 116), .bin .eql (.prim .int) (.tmp 21) (.const (.int .i64 9)), none⟩,
  ⟨(some 115), .mov (.tmp 116), none⟩])
  (.cond (.tmp 115) (.seq (.draw [⟨0, ⟨(some 117), .mov (.tmp 0), none⟩, []⟩,
  ⟨1, ⟨(some 118), .nilCheck (.tmp 117), none⟩, []⟩,
  ⟨2, ⟨(some 119), .fieldAddr 0 (.tmp 118), none⟩, []⟩,
  ⟨3, ⟨(some 120), .load1 (.tmp 119), none⟩, []⟩,
  ⟨4, ⟨(some 121), .nilCheck (.tmp 120), none⟩, []⟩,
  ⟨5, ⟨(some 122), .fieldAddr 5 (.tmp 121), none⟩, []⟩,
  ⟨6, ⟨(some 123), .load1 (.tmp 122), none⟩, []⟩,
  ⟨7, ⟨(some 124), .mov (.tmp 0), none⟩, []⟩,
  ⟨8, ⟨(some 125), .nilCheck (.tmp 124), none⟩, []⟩,
  ⟨9, ⟨(some 126), .fieldAddr 1 (.tmp 125), none⟩, []⟩,
  ⟨10, ⟨(some 127), .load1 (.tmp 126), none⟩, []⟩,
  ⟨12, ⟨(some 129), .build [(.int .i64 0), (.int .i64 0), (.int .i64 0)] [], none⟩, []⟩,
  ⟨11, ⟨(some 128), .call (.func 33) [(.tmp 127)], none⟩, [⟨(some 120), .load1 (.tmp 119), none⟩, ⟨(some 123), .load1 (.tmp 122), none⟩]⟩,
  ⟨13, ⟨(some 130), .call (.func 32) [(.tmp 123), (.tmp 128), (.tmp 129)], none⟩, []⟩])
  (.seq (.ops [⟨(some 131), .mov (.tmp 0), none⟩,
  ⟨(some 132), .nilCheck (.tmp 131), none⟩,
  ⟨(some 133), .fieldAddr 7 (.tmp 132), none⟩,
  ⟨none, .store 1 (.tmp 133) (.const (.int .i64 10)), none⟩])
  (.seq (.ops [⟨(some 134), .mov (.tmp 0), none⟩,
  ⟨(some 135), .nilCheck (.tmp 134), none⟩,
  ⟨(some 136), .fieldAddr 20 (.tmp 135), none⟩,
  ⟨(some 137), .loadN 5 (.tmp 136), none⟩,
  ⟨none, .store 5 (.tmp 2) (.tmp 137), none⟩,
  ⟨(some 3), .mov (.const (.bool true)), none⟩])
  .ret)))
  .skip))))))))))))))))))))
  (.seq (.ops [⟨(some 138), .build [(.int .i64 0), (.bool false), (.string ⟨#[]⟩), (.string ⟨#[]⟩), (.int .i64 0)] [], none⟩,
  ⟨none, .store 5 (.tmp 2) (.tmp 138), none⟩,
  ⟨(some 3), .mov (.const (.bool false)), none⟩])
  .ret)))) }
theorem c7 : compFunc Tryz.prog mts Tryz.f7 = some a7 := by kernel_rfl
def a8 : AFunc := { ntmps := 22, results := [.tmp 6, .tmp 7], body := (.seq (.ops [⟨(some 5), .box 23 (.tmp 2), none⟩,
  ⟨(some 6), .mov (.const (.pointer none)), none⟩,
  ⟨(some 7), .mov (.const (.int .i64 0)), none⟩])
  (.seq (.seq (.ops [⟨(some 9), .mov (.tmp 0), none⟩,
  ⟨(some 10), .mov (.tmp 1), none⟩,
  ⟨(some 11), .loadN 5 (.tmp 5), none⟩,
  ⟨(some 12), .call (.func 41) [(.tmp 9), (.tmp 10), (.tmp 11)], none⟩,
  ⟨(some 8), .mov (.tmp 12), none⟩])
  (.seq (.ops [⟨(some 13), .mov (.tmp 8), none⟩,
  ⟨(some 14), .bin .neq (.prim .int) (.tmp 13) (.const (.int .i64 0)), none⟩])
  (.cond (.tmp 14) (.seq (.ops [⟨(some 15), .mov (.tmp 8), none⟩,
  ⟨(some 6), .mov (.const (.pointer none)), none⟩,
  ⟨(some 7), .mov (.tmp 15), none⟩])
  .ret)
  .skip)))
  (.seq (.ops [⟨(some 16), .mov (.tmp 0), none⟩,
  ⟨(some 17), .mov (.tmp 1), none⟩,
  ⟨(some 18), .loadN 5 (.tmp 5), none⟩,
  ⟨(some 19), .call (.func 42) [(.tmp 18)], none⟩,
  ⟨(some 20), .build [(.pointer none), (.int .i64 0), (.int .i64 0), (.string ⟨#[]⟩), (.string ⟨#[]⟩), (.string ⟨#[]⟩), (.int .i64 0), (.int .i64 0), (.int .i64 0), (.int .i64 0), (.int .i64 0), (.int .i64 0), .nilIface, .nilFunc, (.map none), (.slice none 0 0), (.int .i64 0), (.slice none 0 0), (.slice none 0 0), (.bool false), (.int .i64 0), (.bool false), (.string ⟨#[]⟩), (.string ⟨#[]⟩), (.int .i64 0)] [(0, 1, (.tmp 16)), (1, 1, (.tmp 17)), (2, 5, (.tmp 19))], none⟩,
  ⟨(some 21), .box 85 (.tmp 20), none⟩,
  ⟨(some 6), .mov (.tmp 21), none⟩,
  ⟨(some 7), .mov (.const (.int .i64 0)), none⟩])
  .ret))) }
theorem c8 : compFunc Tryz.prog mts Tryz.f8 = some a8 := by kernel_rfl
def a9 : AFunc := { ntmps := 36, results := [.cellN 6 5, .tmp 7, .tmp 8], body := (.seq (.ops [⟨(some 5), .box 23 (.tmp 2), none⟩,
  ⟨(some 6), .alloc 27 [(.int .i64 0), (.bool false), (.string ⟨#[]⟩), (.string ⟨#[]⟩), (.int .i64 0)], none⟩,
  ⟨(some 7), .mov (.const (.int .i64 0)), none⟩,
  ⟨(some 8), .mov (.const (.int .i64 0)), none⟩])
  (.seq (.ops [⟨(some 15), .mov (.tmp 0), none⟩,
  ⟨(some 16), .mov (.tmp 1), none⟩,
  ⟨(some 17), .loadN 5 (.tmp 5), none⟩,
  ⟨(some 18), .call (.func 8) [(.tmp 15), (.tmp 16), (.tmp 17)], none⟩,
  ⟨(some 14), .mov (.tmp 18), none⟩,
  ⟨(some 19), .extract (.tmp 14) 0, none⟩,
  ⟨(some 20), .extract (.tmp 14) 1, none⟩,
  ⟨(some 9), .mov (.tmp 19), none⟩,
  ⟨(some 10), .mov (.tmp 20), none⟩])
  (.seq (.seq (.ops [⟨(some 21), .mov (.tmp 10), none⟩,
  ⟨(some 22), .bin .neq (.prim .int) (.tmp 21) (.const (.int .i64 0)), none⟩])
  (.cond (.tmp 22) (.seq (.ops [⟨(some 23), .build [(.int .i64 0), (.bool false), (.string ⟨#[]⟩), (.string ⟨#[]⟩), (.int .i64 0)] [], none⟩,
  ⟨(some 24), .mov (.tmp 10), none⟩,
  ⟨none, .store 5 (.tmp 6) (.tmp 23), none⟩,
  ⟨(some 7), .mov (.const (.int .i64 0)), none⟩,
  ⟨(some 8), .mov (.tmp 24), none⟩])
  .ret)
  .skip))
  (.seq (.ops [⟨(some 11), .mov (.const (.int .i64 1)), none⟩])
  (.block 0 (.loop (.seq (.block 1 (.seq (.ops [⟨(some 28), .mov (.tmp 9), none⟩,
  ⟨(some 29), .call (.func 7) [(.tmp 28)], none⟩,
  ⟨(some 27), .mov (.tmp 29), none⟩,
  ⟨(some 30), .extract (.tmp 27) 0, none⟩,
  ⟨(some 31), .extract (.tmp 27) 1, none⟩,
  ⟨(some 12), .alloc 27 [(.int .i64 0), (.bool false), (.string ⟨#[]⟩), (.string ⟨#[]⟩), (.int .i64 0)], none⟩,
  ⟨none, .store 5 (.tmp 12) (.tmp 30), none⟩,
  ⟨(some 13), .mov (.tmp 31), none⟩])
  (.seq (.ops [⟨(some 32), .mov (.tmp 13), none⟩])
  (.cond (.tmp 32) (.seq (.ops [⟨(some 33), .loadN 5 (.tmp 12), none⟩,
  ⟨(some 34), .mov (.tmp 11), none⟩,
  ⟨(some 35), .mov (.tmp 10), none⟩,
  ⟨none, .store 5 (.tmp 6) (.tmp 33), none⟩,
  ⟨(some 7), .mov (.tmp 34), none⟩,
  ⟨(some 8), .mov (.tmp 35), none⟩])
  .ret)
  .skip))))
  (.ops [⟨(some 25), .mov (.tmp 11), none⟩,
  ⟨(some 26), .bin .add (.prim .int) (.tmp 25) (.const (.int .i64 1)), none⟩,
  ⟨(some 11), .mov (.tmp 26), none⟩])))))))) }
theorem c9 : compFunc Tryz.prog mts Tryz.f9 = some a9 := by kernel_rfl
def a10 : AFunc := { ntmps := 52, results := [.tmp 0], body := (.seq (.ops [⟨(some 0), .mov (.const (.bool false)), none⟩])
  (.seq (.ops [⟨(some 10), .build [(.int .i64 0), (.int .i64 0), (.int .i64 0), (.int .i64 0), (.int .i64 0)] [(0, 1, (.const (.int .i64 1))), (1, 1, (.const (.int .i64 9))), (2, 1, (.const (.int .i64 1))), (3, 1, (.const (.int .i64 1))), (4, 1, (.const (.int .i64 4)))], none⟩,
  ⟨(some 11), .call (.func 16) [(.tmp 10)], none⟩,
  ⟨(some 9), .mov (.tmp 11), none⟩,
  ⟨(some 12), .extract (.tmp 9) 0, none⟩,
  ⟨(some 13), .extract (.tmp 9) 1, none⟩,
  ⟨(some 1), .mov (.tmp 12), none⟩,
  ⟨(some 2), .mov (.tmp 13), none⟩])
  (.seq (.ops [⟨(some 15), .mov (.tmp 1), none⟩,
  ⟨(some 16), .build [(.int .i64 0), (.string ⟨#[]⟩), (.string ⟨#[]⟩), (.string ⟨#[]⟩), (.int .i64 0)] [(0, 1, (.const (.int .i64 2))), (1, 1, (.const (.string ⟨#[97]⟩))), (2, 1, (.const (.string ⟨#[49]⟩)))], none⟩,
  ⟨(some 17), .call (.func 9) [(.tmp 15), (.const (.int .i64 0)), (.tmp 16)], none⟩,
  ⟨(some 14), .mov (.tmp 17), none⟩,
  ⟨(some 18), .extract (.tmp 14) 0, none⟩,
  ⟨(some 19), .extract (.tmp 14) 1, none⟩,
  ⟨(some 20), .extract (.tmp 14) 2, none⟩,
  ⟨(some 3), .alloc 27 [(.int .i64 0), (.bool false), (.string ⟨#[]⟩), (.string ⟨#[]⟩), (.int .i64 0)], none⟩,
  ⟨none, .store 5 (.tmp 3) (.tmp 18), none⟩,
  ⟨(some 4), .mov (.tmp 19), none⟩,
  ⟨(some 5), .mov (.tmp 20), none⟩])
  (.seq (.ops [⟨(some 22), .mov (.tmp 1), none⟩,
  ⟨(some 23), .build [(.int .i64 0), (.string ⟨#[]⟩), (.string ⟨#[]⟩), (.string ⟨#[]⟩), (.int .i64 0)] [(0, 1, (.const (.int .i64 1))), (1, 1, (.const (.string ⟨#[97]⟩)))], none⟩,
  ⟨(some 24), .call (.func 9) [(.tmp 22), (.const (.int .i64 0)), (.tmp 23)], none⟩,
  ⟨(some 21), .mov (.tmp 24), none⟩,
  ⟨(some 25), .extract (.tmp 21) 0, none⟩,
  ⟨(some 26), .extract (.tmp 21) 1, none⟩,
  ⟨(some 27), .extract (.tmp 21) 2, none⟩,
  ⟨(some 6), .alloc 27 [(.int .i64 0), (.bool false), (.string ⟨#[]⟩), (.string ⟨#[]⟩), (.int .i64 0)], none⟩,
  ⟨none, .store 5 (.tmp 6) (.tmp 25), none⟩,
  ⟨(some 7), .mov (.tmp 26), none⟩,
  ⟨(some 8), .mov (.tmp 27), none⟩])
  (.seq (.ops [⟨(some 28), .mov (.tmp 2), none⟩,
  ⟨(some 29), .bin .eql (.prim .int) (.tmp 28) (.const (.int .i64 0)), none⟩,
  ⟨(some 30), .mov (.tmp 29), none⟩,
  ⟨(some 31), .mov (.tmp 5), (some (30, true))⟩,
  ⟨(some 32), .bin .eql (.prim .int) (.tmp 31) (.const (.int .i64 0)), (some (30, true))⟩,
  ⟨(some 33), .pick (.tmp 30) (.tmp 32) (.const (.bool false)), none⟩,
  ⟨(some 34), .mov (.tmp 33), none⟩,
  ⟨(some 35), .mov (.tmp 8), (some (34, true))⟩,
  ⟨(some 36), .bin .eql (.prim .int) (.tmp 35) (.const (.int .i64 0)), (some (34, true))⟩,
  ⟨(some 37), .pick (.tmp 34) (.tmp 36) (.const (.bool false)), none⟩,
  ⟨(some 38), .mov (.tmp 37), none⟩,
  ⟨(some 39), .loadN 5 (.tmp 3), (some (38, true))⟩,
  ⟨(some 40), .build [(.int .i64 0), (.bool false), (.string ⟨#[]⟩), (.string ⟨#[]⟩), (.int .i64 0)] [], (some (38, true))⟩,
  ⟨(some 41), .bin .eql (.agg [.int, .bool, .str, .str, .int]) (.tmp 39) (.tmp 40), (some (38, true))⟩,
  ⟨(some 42), .pick (.tmp 38) (.tmp 41) (.const (.bool false)), none⟩,
  ⟨(some 43), .mov (.tmp 42), none⟩,
  ⟨(some 44), .mov (.tmp 4), (some (43, true))⟩,
  ⟨(some 45), .bin .eql (.prim .int) (.tmp 44) (.const (.int .i64 8)), (some (43, true))⟩,
  ⟨(some 46), .pick (.tmp 43) (.tmp 45) (.const (.bool false)), none⟩,
  ⟨(some 47), .mov (.tmp 46), none⟩,
  ⟨(some 48), .loadN 5 (.tmp 6), (some (47, true))⟩,
  ⟨(some 49), .build [(.int .i64 0), (.bool false), (.string ⟨#[]⟩), (.string ⟨#[]⟩), (.int .i64 0)] [(1, 1, (.const (.bool true))), (3, 1, (.const (.string ⟨#[49]⟩)))], (some (47, true))⟩,
  ⟨(some 50), .bin .eql (.agg [.int, .bool, .str, .str, .int]) (.tmp 48) (.tmp 49), (some (47, true))⟩,
  ⟨(some 51), .pick (.tmp 47) (.tmp 50) (.const (.bool false)), none⟩,
  ⟨(some 0), .mov (.tmp 51), none⟩])
  .ret))))) }
theorem c10 : compFunc Tryz.prog mts Tryz.f10 = some a10 := by kernel_rfl
def a16 : AFunc := { ntmps := 81, results := [.tmp 2, .tmp 3], body := (.seq (.ops [⟨(some 1), .box 34 (.tmp 0), none⟩,
  ⟨(some 2), .mov (.const (.pointer none)), none⟩,
  ⟨(some 3), .mov (.const (.int .i64 0)), none⟩])
  (.seq (.seq (.ops [⟨(some 13), .loadN 5 (.tmp 1), none⟩,
  ⟨(some 14), .call (.func 44) [(.tmp 13)], none⟩,
  ⟨(some 4), .mov (.tmp 14), none⟩])
  (.seq (.ops [⟨(some 15), .mov (.tmp 4), none⟩,
  ⟨(some 16), .bin .neq (.prim .int) (.tmp 15) (.const (.int .i64 0)), none⟩])
  (.cond (.tmp 16) (.seq (.ops [⟨(some 17), .mov (.tmp 4), none⟩,
  ⟨(some 2), .mov (.const (.pointer none)), none⟩,
  ⟨(some 3), .mov (.tmp 17), none⟩])
  .ret)
  .skip)))
  (.seq (.draw [⟨0, ⟨(some 19), .fieldAddr 1 (.tmp 1), none⟩, []⟩,
  ⟨1, ⟨(some 20), .load1 (.tmp 19), none⟩, []⟩,
  ⟨2, ⟨(some 21), .loadN 5 (.tmp 1), none⟩, []⟩,
  ⟨3, ⟨(some 22), .call (.func 50) [(.tmp 21)], none⟩, [⟨(some 20), .load1 (.tmp 19), none⟩]⟩,
  ⟨4, ⟨(some 23), .call (.func 49) [(.tmp 20), (.tmp 22)], none⟩, []⟩,
  ⟨5, ⟨(some 18), .mov (.tmp 23), none⟩, []⟩,
  ⟨6, ⟨(some 24), .extract (.tmp 18) 0, none⟩, []⟩,
  ⟨7, ⟨(some 25), .extract (.tmp 18) 1, none⟩, []⟩,
  ⟨8, ⟨(some 5), .mov (.tmp 24), none⟩, []⟩,
  ⟨9, ⟨(some 6), .mov (.tmp 25), none⟩, []⟩])
  (.seq (.seq (.ops [⟨(some 26), .mov (.tmp 6), none⟩,
  ⟨(some 27), .bin .neq (.prim .int) (.tmp 26) (.const (.int .i64 0)), none⟩])
  (.cond (.tmp 27) (.seq (.ops [⟨(some 28), .mov (.tmp 6), none⟩,
  ⟨(some 2), .mov (.const (.pointer none)), none⟩,
  ⟨(some 3), .mov (.tmp 28), none⟩])
  .ret)
  .skip))
  (.seq (.ops [⟨(some 30), .fieldAddr 2 (.tmp 1), none⟩,
  ⟨(some 31), .load1 (.tmp 30), none⟩,
  ⟨(some 32), .call (.func 51) [(.tmp 31)], none⟩,
  ⟨(some 29), .mov (.tmp 32), none⟩,
  ⟨(some 33), .extract (.tmp 29) 0, none⟩,
  ⟨(some 34), .extract (.tmp 29) 1, none⟩,
  ⟨(some 7), .mov (.tmp 33), none⟩,
  ⟨(some 6), .mov (.tmp 34), none⟩])
  (.seq (.seq (.ops [⟨(some 35), .mov (.tmp 6), none⟩,
  ⟨(some 36), .bin .neq (.prim .int) (.tmp 35) (.const (.int .i64 0)), none⟩])
  (.cond (.tmp 36) (.seq (.ops [⟨(some 37), .mov (.tmp 6), none⟩,
  ⟨(some 2), .mov (.const (.pointer none)), none⟩,
  ⟨(some 3), .mov (.tmp 37), none⟩])
  .ret)
  .skip))
  (.seq (.ops [⟨(some 39), .mov (.tmp 5), none⟩,
  ⟨(some 40), .fieldAddr 0 (.tmp 1), none⟩,
  ⟨(some 41), .load1 (.tmp 40), none⟩,
  ⟨(some 42), .call (.func 53) [(.tmp 39), (.tmp 41)], none⟩,
  ⟨(some 43), .call (.func 52) [(.tmp 42), (.const (.int .i64 0))], none⟩,
  ⟨(some 38), .mov (.tmp 43), none⟩,
  ⟨(some 44), .extract (.tmp 38) 0, none⟩,
  ⟨(some 45), .extract (.tmp 38) 1, none⟩,
  ⟨(some 8), .alloc 75 [(.int .i64 0), (.int .i64 0), (.int .i64 0)], none⟩,
  ⟨none, .store 3 (.tmp 8) (.tmp 44), none⟩,
  ⟨(some 9), .mov (.tmp 45), none⟩])
  (.seq (.ops [⟨(some 46), .mov (.tmp 5), none⟩,
  ⟨(some 47), .loadN 3 (.tmp 8), none⟩,
  ⟨(some 48), .call (.func 32) [(.tmp 46), (.const (.int .i64 0)), (.tmp 47)], none⟩])
  (.seq (.ops [⟨(some 49), .mov (.tmp 5), none⟩,
  ⟨(some 50), .build [(.int .i64 0), (.int .i64 0), (.int .i64 0)] [(1, 1, (.const (.int .i64 1)))], none⟩,
  ⟨(some 51), .call (.func 32) [(.tmp 49), (.const (.int .i64 1)), (.tmp 50)], none⟩])
  (.seq (.seq (.ops [⟨(some 52), .fieldAddr 3 (.tmp 1), none⟩,
  ⟨(some 53), .load1 (.tmp 52), none⟩,
  ⟨(some 54), .mov (.const (.int .i64 0)), none⟩])
  (.block 0 (.loop (.seq (.ops [⟨(some 55), .bin .lss (.prim .int) (.tmp 54) (.tmp 53), none⟩])
  (.seq (.cond (.tmp 55) .skip
  (.exit 0))
  (.seq (.block 1 (.seq (.ops [⟨(some 56), .mov (.tmp 54), none⟩,
  ⟨(some 10), .mov (.tmp 56), none⟩])
  (.seq (.ops [⟨(some 58), .mov (.tmp 10), none⟩,
  ⟨(some 59), .fieldAddr 3 (.tmp 1), none⟩,
  ⟨(some 60), .load1 (.tmp 59), none⟩,
  ⟨(some 61), .call (.func 54) [(.tmp 58), (.tmp 60)], none⟩,
  ⟨(some 57), .mov (.tmp 61), none⟩,
  ⟨(some 62), .extract (.tmp 57) 0, none⟩,
  ⟨(some 63), .extract (.tmp 57) 1, none⟩,
  ⟨(some 11), .alloc 75 [(.int .i64 0), (.int .i64 0), (.int .i64 0)], none⟩,
  ⟨none, .store 3 (.tmp 11) (.tmp 62), none⟩,
  ⟨(some 12), .mov (.tmp 63), none⟩])
  (.draw [⟨0, ⟨(some 64), .mov (.tmp 5), none⟩, []⟩,
  ⟨1, ⟨(some 65), .loadN 5 (.tmp 1), none⟩, []⟩,
  ⟨2, ⟨(some 66), .mov (.tmp 10), none⟩, []⟩,
  ⟨4, ⟨(some 68), .loadN 3 (.tmp 11), none⟩, []⟩,
  ⟨3, ⟨(some 67), .call (.func 55) [(.tmp 65), (.tmp 66)], none⟩, [⟨(some 68), .loadN 3 (.tmp 11), none⟩]⟩,
  ⟨5, ⟨(some 69), .call (.func 32) [(.tmp 64), (.tmp 67), (.tmp 68)], none⟩, []⟩]))))
  (.ops [⟨(some 70), .bin .add (.prim .int) (.tmp 54) (.const (.int .i64 1)), none⟩,
  ⟨(some 54), .mov (.tmp 70), none⟩])))))))
  (.seq (.draw [⟨0, ⟨(some 71), .loadN 5 (.tmp 1), none⟩, []⟩,
  ⟨1, ⟨(some 72), .mov (.tmp 5), none⟩, []⟩,
  ⟨2, ⟨(some 73), .mov (.tmp 7), none⟩, []⟩,
  ⟨3, ⟨(some 74), .mov (.tmp 5), none⟩, []⟩,
  ⟨5, ⟨(some 76), .mov (.tmp 7), none⟩, []⟩,
  ⟨4, ⟨(some 75), .call (.func 56) [(.tmp 74)], none⟩, [⟨(some 71), .loadN 5 (.tmp 1), none⟩]⟩,
  ⟨6, ⟨(some 77), .call (.func 57) [(.tmp 76)], none⟩, [⟨(some 71), .loadN 5 (.tmp 1), none⟩]⟩,
  ⟨7, ⟨(some 78), .bin .add (.prim .int) (.tmp 75) (.tmp 77), none⟩, []⟩,
  ⟨8, ⟨(some 79), .build [(.int .i64 0), (.int .i64 0), (.int .i64 0), (.int .i64 0), (.int .i64 0), (.pointer none), (.pointer none), (.int .i64 0)] [(0, 5, (.tmp 71)), (5, 1, (.tmp 72)), (6, 1, (.tmp 73)), (7, 1, (.tmp 78))], none⟩, []⟩,
  ⟨9, ⟨(some 80), .box 38 (.tmp 79), none⟩, []⟩,
  ⟨10, ⟨(some 2), .mov (.tmp 80), none⟩, []⟩,
  ⟨11, ⟨(some 3), .mov (.const (.int .i64 0)), none⟩, []⟩])
  .ret))))))))))) }
theorem c16 : compFunc Tryz.prog mts Tryz.f16 = some a16 := by kernel_rfl
def a30 : AFunc := { ntmps := 21, results := [.cellN 4 3, .tmp 5], body := (.seq (.ops [⟨(some 4), .alloc 75 [(.int .i64 0), (.int .i64 0), (.int .i64 0)], none⟩,
  ⟨(some 5), .mov (.const (.int .i64 0)), none⟩])
  (.seq (.seq (.ops [⟨(some 7), .mov (.tmp 0), none⟩,
  ⟨(some 8), .call (.func 68) [(.tmp 7)], none⟩,
  ⟨(some 6), .mov (.tmp 8), none⟩])
  (.seq (.ops [⟨(some 9), .mov (.tmp 6), none⟩,
  ⟨(some 10), .bin .neq (.prim .int) (.tmp 9) (.const (.int .i64 0)), none⟩])
  (.cond (.tmp 10) (.seq (.ops [⟨(some 11), .build [(.int .i64 0), (.int .i64 0), (.int .i64 0)] [], none⟩,
  ⟨(some 12), .mov (.tmp 6), none⟩,
  ⟨none, .store 3 (.tmp 4) (.tmp 11), none⟩,
  ⟨(some 5), .mov (.tmp 12), none⟩])
  .ret)
  .skip)))
  (.seq (.ops [⟨(some 13), .mov (.tmp 0), none⟩,
  ⟨(some 14), .nilCheck (.tmp 13), none⟩,
  ⟨(some 15), .fieldAddr 0 (.tmp 14), none⟩,
  ⟨(some 16), .load1 (.tmp 15), none⟩,
  ⟨(some 17), .mov (.tmp 1), none⟩,
  ⟨(some 18), .call (.func 69) [(.tmp 16), (.tmp 17)], none⟩,
  ⟨(some 19), .extract (.tmp 18) 0, none⟩,
  ⟨(some 20), .extract (.tmp 18) 1, none⟩,
  ⟨none, .store 3 (.tmp 4) (.tmp 19), none⟩,
  ⟨(some 5), .mov (.tmp 20), none⟩])
  .ret))) }
theorem c30 : compFunc Tryz.prog mts Tryz.f30 = some a30 := by kernel_rfl
def a31 : AFunc := { ntmps := 21, results := [.cellN 4 3, .tmp 5], body := (.seq (.ops [⟨(some 4), .alloc 75 [(.int .i64 0), (.int .i64 0), (.int .i64 0)], none⟩,
  ⟨(some 5), .mov (.const (.int .i64 0)), none⟩])
  (.seq (.seq (.ops [⟨(some 6), .mov (.tmp 0), none⟩,
  ⟨(some 7), .bin .lss (.prim .int) (.tmp 6) (.const (.int .i64 0)), none⟩,
  ⟨(some 8), .mov (.tmp 7), none⟩,
  ⟨(some 9), .mov (.tmp 1), (some (8, false))⟩,
  ⟨(some 10), .bin .lss (.prim .int) (.tmp 9) (.const (.int .i64 (-1))), (some (8, false))⟩,
  ⟨(some 11), .pick (.tmp 8) (.const (.bool true)) (.tmp 10), none⟩,
  ⟨(some 12), .mov (.tmp 11), none⟩,
  ⟨(some 13), .mov (.tmp 1), (some (12, false))⟩,
  ⟨(some 14), .bin .geq (.prim .int) (.tmp 13) (.const (.int .i64 4611686018427387904)), (some (12, false))⟩,
  ⟨(some 15), .pick (.tmp 12) (.const (.bool true)) (.tmp 14), none⟩])
  (.cond (.tmp 15) (.seq (.ops [⟨(some 16), .build [(.int .i64 0), (.int .i64 0), (.int .i64 0)] [], none⟩,
  ⟨none, .store 3 (.tmp 4) (.tmp 16), none⟩,
  ⟨(some 5), .mov (.const (.int .i64 2)), none⟩])
  .ret)
  .skip))
  (.seq (.ops [⟨(some 17), .mov (.tmp 0), none⟩,
  ⟨(some 18), .mov (.tmp 1), none⟩,
  ⟨(some 19), .bin .add (.prim .int) (.tmp 18) (.const (.int .i64 1)), none⟩,
  ⟨(some 20), .build [(.int .i64 0), (.int .i64 0), (.int .i64 0)] [(1, 1, (.tmp 17)), (2, 1, (.tmp 19))], none⟩,
  ⟨none, .store 3 (.tmp 4) (.tmp 20), none⟩,
  ⟨(some 5), .mov (.const (.int .i64 0)), none⟩])
  .ret))) }
theorem c31 : compFunc Tryz.prog mts Tryz.f31 = some a31 := by kernel_rfl
def a32 : AFunc := { ntmps := 20, results := [.tmp 6], body := (.seq (.ops [⟨(some 5), .box 75 (.tmp 2), none⟩,
  ⟨(some 6), .mov (.const (.int .i64 0)), none⟩])
  (.seq (.seq (.ops [⟨(some 8), .mov (.tmp 0), none⟩,
  ⟨(some 9), .call (.func 68) [(.tmp 8)], none⟩,
  ⟨(some 7), .mov (.tmp 9), none⟩])
  (.seq (.ops [⟨(some 10), .mov (.tmp 7), none⟩,
  ⟨(some 11), .bin .neq (.prim .int) (.tmp 10) (.const (.int .i64 0)), none⟩])
  (.cond (.tmp 11) (.seq (.ops [⟨(some 12), .mov (.tmp 7), none⟩,
  ⟨(some 6), .mov (.tmp 12), none⟩])
  .ret)
  .skip)))
  (.seq (.draw [⟨0, ⟨(some 13), .mov (.tmp 0), none⟩, []⟩,
  ⟨1, ⟨(some 14), .nilCheck (.tmp 13), none⟩, []⟩,
  ⟨2, ⟨(some 15), .fieldAddr 0 (.tmp 14), none⟩, []⟩,
  ⟨3, ⟨(some 16), .load1 (.tmp 15), none⟩, []⟩,
  ⟨4, ⟨(some 17), .mov (.tmp 1), none⟩, []⟩,
  ⟨5, ⟨(some 18), .loadN 3 (.tmp 5), none⟩, []⟩,
  ⟨6, ⟨(some 19), .call (.func 70) [(.tmp 16), (.tmp 17), (.tmp 18)], none⟩, []⟩,
  ⟨7, ⟨(some 6), .mov (.tmp 19), none⟩, []⟩])
  .ret))) }
theorem c32 : compFunc Tryz.prog mts Tryz.f32 = some a32 := by kernel_rfl
def a33 : AFunc := { ntmps := 6, results := [.tmp 2], body := (.seq (.ops [⟨(some 2), .mov (.const (.int .i64 0)), none⟩])
  (.seq (.ops [⟨(some 3), .mov (.tmp 0), none⟩,
  ⟨(some 4), .call (.func 71) [(.tmp 3)], none⟩,
  ⟨(some 5), .bin .add (.prim .int) (.const (.int .i64 2)) (.tmp 4), none⟩,
  ⟨(some 2), .mov (.tmp 5), none⟩])
  .ret)) }
theorem c33 : compFunc Tryz.prog mts Tryz.f33 = some a33 := by kernel_rfl
def a34 : AFunc := { ntmps := 131, results := [], body := (.seq (.draw [⟨0, ⟨(some 7), .mov (.tmp 0), none⟩, []⟩,
  ⟨1, ⟨(some 8), .nilCheck (.tmp 7), none⟩, []⟩,
  ⟨2, ⟨(some 9), .fieldAddr 9 (.tmp 8), none⟩, []⟩,
  ⟨3, ⟨(some 10), .fieldAddr 0 (.tmp 9), none⟩, []⟩,
  ⟨4, ⟨(some 11), .load1 (.tmp 10), none⟩, []⟩,
  ⟨5, ⟨(some 12), .mov (.tmp 0), none⟩, []⟩,
  ⟨6, ⟨(some 13), .nilCheck (.tmp 12), none⟩, []⟩,
  ⟨7, ⟨(some 14), .fieldAddr 2 (.tmp 13), none⟩, []⟩,
  ⟨8, ⟨(some 15), .loadN 5 (.tmp 14), none⟩, []⟩,
  ⟨9, ⟨(some 16), .mov (.tmp 0), none⟩, []⟩,
  ⟨10, ⟨(some 17), .nilCheck (.tmp 16), none⟩, []⟩,
  ⟨11, ⟨(some 18), .fieldAddr 0 (.tmp 17), none⟩, []⟩,
  ⟨12, ⟨(some 19), .load1 (.tmp 18), none⟩, []⟩,
  ⟨13, ⟨(some 20), .nilCheck (.tmp 19), none⟩, []⟩,
  ⟨14, ⟨(some 21), .fieldAddr 0 (.tmp 20), none⟩, []⟩,
  ⟨15, ⟨(some 22), .fieldAddr 4 (.tmp 21), none⟩, []⟩,
  ⟨16, ⟨(some 23), .load1 (.tmp 22), none⟩, []⟩,
  ⟨17, ⟨(some 3), .alloc 23 [(.int .i64 0), (.string ⟨#[]⟩), (.string ⟨#[]⟩), (.string ⟨#[]⟩), (.int .i64 0)], none⟩, []⟩,
  ⟨18, ⟨(some 2), .mov (.tmp 11), none⟩, []⟩,
  ⟨19, ⟨none, .store 5 (.tmp 3) (.tmp 15), none⟩, [⟨(some 19), .load1 (.tmp 18), none⟩, ⟨(some 23), .load1 (.tmp 22), none⟩]⟩,
  ⟨20, ⟨(some 4), .mov (.tmp 23), none⟩, []⟩])
  (.seq (.ops [⟨(some 24), .mov (.tmp 0), none⟩,
  ⟨(some 25), .makeMap, none⟩,
  ⟨(some 26), .nilCheck (.tmp 24), none⟩,
  ⟨(some 27), .fieldAddr 14 (.tmp 26), none⟩,
  ⟨none, .store 1 (.tmp 27) (.tmp 25), none⟩])
  (.seq (.ops [⟨(some 28), .mov (.tmp 0), none⟩,
  ⟨(some 29), .nilCheck (.tmp 28), none⟩,
  ⟨(some 30), .fieldAddr 18 (.tmp 29), none⟩,
  ⟨none, .store 1 (.tmp 30) (.const (.slice none 0 0)), none⟩])
  (.seq (.ops [⟨(some 31), .fieldAddr 0 (.tmp 3), none⟩,
  ⟨(some 32), .load1 (.tmp 31), none⟩,
  ⟨(some 33), .bin .sub (.prim .int) (.tmp 32) (.const (.int .i64 2)), none⟩,
  ⟨(some 34), .bin .add (.prim .int) (.tmp 33) (.const (.int .i64 1)), none⟩,
  ⟨(some 5), .mov (.tmp 34), none⟩])
  (.seq (.ops [⟨(some 35), .mov (.tmp 0), none⟩,
  ⟨(some 36), .nilCheck (.tmp 35), none⟩,
  ⟨(some 37), .fieldAddr 0 (.tmp 36), none⟩,
  ⟨(some 38), .load1 (.tmp 37), none⟩,
  ⟨(some 39), .nilCheck (.tmp 38), none⟩,
  ⟨(some 40), .fieldAddr 0 (.tmp 39), none⟩,
  ⟨(some 41), .fieldAddr 0 (.tmp 40), none⟩,
  ⟨(some 42), .load1 (.tmp 41), none⟩,
  ⟨(some 43), .bin .eql (.prim .int) (.tmp 42) (.const (.int .i64 2)), none⟩,
  ⟨(some 6), .mov (.tmp 43), none⟩])
  (.block 0 (.seq (.ops [⟨(some 58), .fieldAddr 0 (.tmp 3), none⟩,
  ⟨(some 59), .load1 (.tmp 58), none⟩,
  ⟨(some 60), .bin .eql (.prim .int) (.tmp 59) (.const (.int .i64 6)), none⟩,
  ⟨(some 57), .mov (.tmp 60), none⟩])
  (.cond (.tmp 57) (.ops [⟨(some 61), .mov (.tmp 0), none⟩,
  ⟨(some 62), .mov (.tmp 2), none⟩,
  ⟨(some 63), .fieldAddr 1 (.tmp 3), none⟩,
  ⟨(some 64), .load1 (.tmp 63), none⟩,
  ⟨(some 65), .call (.func 73) [(.tmp 62), (.const (.int .i64 2)), (.tmp 64)], none⟩,
  ⟨(some 66), .call (.func 72) [(.tmp 61), (.tmp 65)], none⟩])
  (.seq (.ops [⟨(some 68), .fieldAddr 0 (.tmp 3), none⟩,
  ⟨(some 69), .load1 (.tmp 68), none⟩,
  ⟨(some 70), .bin .eql (.prim .int) (.tmp 69) (.const (.int .i64 1)), none⟩,
  ⟨(some 71), .mov (.tmp 70), none⟩,
  ⟨(some 72), .mov (.tmp 6), (some (71, true))⟩,
  ⟨(some 73), .pick (.tmp 71) (.tmp 72) (.const (.bool false)), none⟩,
  ⟨(some 67), .mov (.tmp 73), none⟩])
  (.cond (.tmp 67) (.ops [⟨(some 74), .mov (.tmp 0), none⟩,
  ⟨(some 75), .mov (.tmp 2), none⟩,
  ⟨(some 76), .fieldAddr 1 (.tmp 3), none⟩,
  ⟨(some 77), .load1 (.tmp 76), none⟩,
  ⟨(some 78), .call (.func 73) [(.tmp 75), (.const (.int .i64 1)), (.tmp 77)], none⟩,
  ⟨(some 79), .call (.func 72) [(.tmp 74), (.tmp 78)], none⟩])
  (.seq (.ops [⟨(some 81), .fieldAddr 0 (.tmp 3), none⟩,
  ⟨(some 82), .load1 (.tmp 81), none⟩,
  ⟨(some 83), .bin .eql (.prim .int) (.tmp 82) (.const (.int .i64 1)), none⟩,
  ⟨(some 80), .mov (.tmp 83), none⟩])
  (.cond (.tmp 80) (.ops [⟨(some 84), .mov (.tmp 0), none⟩,
  ⟨(some 85), .mov (.tmp 2), none⟩,
  ⟨(some 86), .fieldAddr 1 (.tmp 3), none⟩,
  ⟨(some 87), .load1 (.tmp 86), none⟩,
  ⟨(some 88), .mov (.tmp 4), none⟩,
  ⟨(some 89), .call (.func 75) [(.tmp 85), (.tmp 87), (.tmp 88)], none⟩,
  ⟨(some 90), .call (.func 74) [(.tmp 84), (.tmp 89)], none⟩])
  (.seq (.ops [⟨(some 92), .fieldAddr 0 (.tmp 3), none⟩,
  ⟨(some 93), .load1 (.tmp 92), none⟩,
  ⟨(some 94), .bin .eql (.prim .int) (.tmp 93) (.const (.int .i64 5)), none⟩,
  ⟨(some 95), .mov (.tmp 94), none⟩,
  ⟨(some 96), .mov (.tmp 6), (some (95, true))⟩,
  ⟨(some 97), .pick (.tmp 95) (.tmp 96) (.const (.bool false)), none⟩,
  ⟨(some 91), .mov (.tmp 97), none⟩])
  (.cond (.tmp 91) (.ops [⟨(some 98), .mov (.tmp 0), none⟩,
  ⟨(some 99), .mov (.tmp 2), none⟩,
  ⟨(some 100), .fieldAddr 1 (.tmp 3), none⟩,
  ⟨(some 101), .load1 (.tmp 100), none⟩,
  ⟨(some 102), .call (.func 77) [(.tmp 99), (.tmp 101)], none⟩,
  ⟨(some 103), .makeIface 134 (.tmp 102), none⟩,
  ⟨(some 104), .call (.func 76) [(.tmp 98), (.tmp 103)], none⟩])
  (.seq (.ops [⟨(some 106), .fieldAddr 0 (.tmp 3), none⟩,
  ⟨(some 107), .load1 (.tmp 106), none⟩,
  ⟨(some 108), .bin .eql (.prim .int) (.tmp 107) (.const (.int .i64 5)), none⟩,
  ⟨(some 105), .mov (.tmp 108), none⟩])
  (.cond (.tmp 105) (.ops [⟨(some 109), .mov (.tmp 0), none⟩,
  ⟨(some 110), .mov (.tmp 2), none⟩,
  ⟨(some 111), .fieldAddr 1 (.tmp 3), none⟩,
  ⟨(some 112), .load1 (.tmp 111), none⟩,
  ⟨(some 113), .mov (.tmp 4), none⟩,
  ⟨(some 114), .call (.func 78) [(.tmp 110), (.tmp 112), (.tmp 113)], none⟩,
  ⟨(some 115), .makeIface 136 (.tmp 114), none⟩,
  ⟨(some 116), .call (.func 76) [(.tmp 109), (.tmp 115)], none⟩])
  (.seq (.ops [⟨(some 118), .mov (.tmp 6), none⟩,
  ⟨(some 117), .mov (.tmp 118), none⟩])
  (.cond (.tmp 117) (.ops [⟨(some 119), .mov (.tmp 0), none⟩,
  ⟨(some 120), .mov (.tmp 2), none⟩,
  ⟨(some 121), .mov (.tmp 5), none⟩,
  ⟨(some 122), .fieldAddr 1 (.tmp 3), none⟩,
  ⟨(some 123), .load1 (.tmp 122), none⟩,
  ⟨(some 124), .fieldAddr 2 (.tmp 3), none⟩,
  ⟨(some 125), .load1 (.tmp 124), none⟩,
  ⟨(some 126), .fieldAddr 3 (.tmp 3), none⟩,
  ⟨(some 127), .load1 (.tmp 126), none⟩,
  ⟨(some 128), .call (.func 79) [(.tmp 120), (.tmp 121), (.tmp 123), (.tmp 125), (.tmp 127)], none⟩,
  ⟨(some 129), .makeIface 138 (.tmp 128), none⟩,
  ⟨(some 130), .call (.func 76) [(.tmp 119), (.tmp 129)], none⟩])
  (.ops [⟨(some 44), .mov (.tmp 0), none⟩,
  ⟨(some 45), .mov (.tmp 2), none⟩,
  ⟨(some 46), .mov (.tmp 5), none⟩,
  ⟨(some 47), .fieldAddr 1 (.tmp 3), none⟩,
  ⟨(some 48), .load1 (.tmp 47), none⟩,
  ⟨(some 49), .fieldAddr 2 (.tmp 3), none⟩,
  ⟨(some 50), .load1 (.tmp 49), none⟩,
  ⟨(some 51), .fieldAddr 3 (.tmp 3), none⟩,
  ⟨(some 52), .load1 (.tmp 51), none⟩,
  ⟨(some 53), .mov (.tmp 4), none⟩,
  ⟨(some 54), .call (.func 80) [(.tmp 45), (.tmp 46), (.tmp 48), (.tmp 50), (.tmp 52), (.tmp 53)], none⟩,
  ⟨(some 55), .makeIface 140 (.tmp 54), none⟩,
  ⟨(some 56), .call (.func 76) [(.tmp 44), (.tmp 55)], none⟩]))))))))))))))))))) }
theorem c34 : compFunc Tryz.prog mts Tryz.f34 = some a34 := by kernel_rfl
def a35 : AFunc := { ntmps := 37, results := [], body := (.seq (.seq (.ops [⟨(some 5), .mov (.tmp 0), none⟩,
  ⟨(some 6), .nilCheck (.tmp 5), none⟩,
  ⟨(some 7), .fieldAddr 12 (.tmp 6), none⟩,
  ⟨(some 8), .load1 (.tmp 7), none⟩,
  ⟨(some 9), .invoke (.tmp 8) [(128, 374), (131, 273), (134, 379), (136, 391), (138, 400), (140, 412), (356, 423), (359, 425), (362, 427)] [], none⟩,
  ⟨(some 10), .bin .neq (.prim .int) (.tmp 9) (.const (.int .i64 0)), none⟩])
  (.cond (.tmp 10) (.seq (.ops [⟨(some 11), .mov (.tmp 0), none⟩,
  ⟨(some 12), .nilCheck (.tmp 11), none⟩,
  ⟨(some 13), .fieldAddr 7 (.tmp 12), none⟩,
  ⟨none, .store 1 (.tmp 13) (.const (.int .i64 3)), none⟩])
  .ret)
  .skip))
  (.seq (.ops [⟨(some 15), .mov (.tmp 0), none⟩,
  ⟨(some 16), .nilCheck (.tmp 15), none⟩,
  ⟨(some 17), .fieldAddr 13 (.tmp 16), none⟩,
  ⟨(some 18), .load1 (.tmp 17), none⟩,
  ⟨(some 19), .call (.tmp 18) [], none⟩,
  ⟨(some 14), .mov (.tmp 19), none⟩,
  ⟨(some 20), .extract (.tmp 14) 0, none⟩,
  ⟨(some 21), .extract (.tmp 14) 1, none⟩,
  ⟨(some 22), .extract (.tmp 14) 2, none⟩,
  ⟨(some 2), .alloc 27 [(.int .i64 0), (.bool false), (.string ⟨#[]⟩), (.string ⟨#[]⟩), (.int .i64 0)], none⟩,
  ⟨(some 3), .alloc 83 [(.slice none 0 0), (.int .i64 0), (.slice none 0 0)], none⟩,
  ⟨none, .store 5 (.tmp 2) (.tmp 20), none⟩,
  ⟨none, .store 3 (.tmp 3) (.tmp 21), none⟩,
  ⟨(some 4), .mov (.tmp 22), none⟩])
  (.seq (.draw [⟨0, ⟨(some 23), .mov (.tmp 0), none⟩, []⟩,
  ⟨1, ⟨(some 24), .mov (.tmp 0), none⟩, []⟩,
  ⟨2, ⟨(some 25), .loadN 5 (.tmp 2), none⟩, []⟩,
  ⟨3, ⟨(some 26), .loadN 3 (.tmp 3), none⟩, []⟩,
  ⟨4, ⟨(some 27), .nilCheck (.tmp 23), none⟩, []⟩,
  ⟨5, ⟨(some 28), .fieldAddr 20 (.tmp 27), none⟩, []⟩,
  ⟨6, ⟨none, .store 5 (.tmp 28) (.tmp 25), none⟩, [⟨(some 26), .loadN 3 (.tmp 3), none⟩]⟩,
  ⟨7, ⟨(some 29), .nilCheck (.tmp 24), none⟩, []⟩,
  ⟨8, ⟨(some 30), .fieldAddr 15 (.tmp 29), none⟩, []⟩,
  ⟨9, ⟨none, .store 3 (.tmp 30) (.tmp 26), none⟩, []⟩])
  (.seq (.ops [⟨(some 31), .mov (.tmp 0), none⟩,
  ⟨(some 32), .nilCheck (.tmp 31), none⟩,
  ⟨(some 33), .fieldAddr 7 (.tmp 32), none⟩,
  ⟨none, .store 1 (.tmp 33) (.const (.int .i64 9)), none⟩])
  (.seq (.ops [⟨(some 34), .mov (.tmp 4), none⟩])
  (.cond (.tmp 34) (.ops [⟨(some 35), .mov (.tmp 0), none⟩,
  ⟨(some 36), .call (.func 81) [(.tmp 35)], none⟩])
  .skip)))))) }
theorem c35 : compFunc Tryz.prog mts Tryz.f35 = some a35 := by kernel_rfl
def a36 : AFunc := { ntmps := 37, results := [], body := (.seq (.ops [⟨(some 5), .mov (.tmp 0), none⟩,
  ⟨(some 6), .nilCheck (.tmp 5), none⟩,
  ⟨(some 7), .fieldAddr 12 (.tmp 6), none⟩,
  ⟨(some 8), .load1 (.tmp 7), none⟩,
  ⟨(some 9), .invoke (.tmp 8) [(128, 374), (131, 273), (134, 379), (136, 391), (138, 400), (140, 412), (356, 423), (359, 425), (362, 427)] [], none⟩,
  ⟨(some 2), .mov (.tmp 9), none⟩])
  (.seq (.ops [⟨(some 11), .mov (.tmp 0), none⟩,
  ⟨(some 12), .nilCheck (.tmp 11), none⟩,
  ⟨(some 13), .fieldAddr 0 (.tmp 12), none⟩,
  ⟨(some 14), .load1 (.tmp 13), none⟩,
  ⟨(some 15), .nilCheck (.tmp 14), none⟩,
  ⟨(some 16), .fieldAddr 5 (.tmp 15), none⟩,
  ⟨(some 17), .load1 (.tmp 16), none⟩,
  ⟨(some 18), .mov (.tmp 2), none⟩,
  ⟨(some 19), .call (.func 82) [(.tmp 17), (.tmp 18)], none⟩,
  ⟨(some 10), .mov (.tmp 19), none⟩,
  ⟨(some 20), .extract (.tmp 10) 0, none⟩,
  ⟨(some 21), .extract (.tmp 10) 1, none⟩,
  ⟨(some 3), .alloc 146 [(.int .i64 0), (.string ⟨#[]⟩), (.string ⟨#[]⟩), (.int .u32 0), (.slice none 0 0), (.int .i64 0), (.slice none 0 0), (.int .i64 0), (.int .i64 0)], none⟩,
  ⟨none, .store 9 (.tmp 3) (.tmp 20), none⟩,
  ⟨(some 4), .mov (.tmp 21), none⟩])
  (.seq (.draw [⟨0, ⟨(some 22), .mov (.tmp 0), none⟩, []⟩,
  ⟨1, ⟨(some 23), .nilCheck (.tmp 22), none⟩, []⟩,
  ⟨2, ⟨(some 24), .fieldAddr 14 (.tmp 23), none⟩, []⟩,
  ⟨3, ⟨(some 25), .load1 (.tmp 24), none⟩, []⟩,
  ⟨4, ⟨(some 26), .mov (.tmp 2), none⟩, []⟩,
  ⟨5, ⟨(some 27), .fieldAddr 8 (.tmp 3), none⟩, []⟩,
  ⟨6, ⟨(some 28), .load1 (.tmp 27), none⟩, []⟩,
  ⟨7, ⟨none, .mapUpdate .int (.tmp 25) (.tmp 26) (.tmp 28), none⟩, []⟩])
  (.seq (.draw [⟨0, ⟨(some 29), .mov (.tmp 0), none⟩, []⟩,
  ⟨1, ⟨(some 30), .nilCheck (.tmp 29), none⟩, []⟩,
  ⟨2, ⟨(some 31), .fieldAddr 12 (.tmp 30), none⟩, []⟩,
  ⟨3, ⟨(some 32), .load1 (.tmp 31), none⟩, []⟩,
  ⟨4, ⟨(some 33), .loadN 9 (.tmp 3), none⟩, []⟩,
  ⟨5, ⟨(some 34), .invoke (.tmp 32) [(128, 373), (131, 272), (134, 377), (136, 389), (138, 398), (140, 410), (356, 422), (359, 424), (362, 426)] [(.tmp 33)], none⟩, []⟩])
  (.ops [⟨(some 35), .mov (.tmp 0), none⟩,
  ⟨(some 36), .call (.func 35) [(.tmp 35)], none⟩]))))) }
theorem c36 : compFunc Tryz.prog mts Tryz.f36 = some a36 := by kernel_rfl
def a37 : AFunc := { ntmps := 68, results := [], body := (.seq (.draw [⟨0, ⟨(some 7), .mov (.tmp 0), none⟩, []⟩,
  ⟨1, ⟨(some 8), .nilCheck (.tmp 7), none⟩, []⟩,
  ⟨2, ⟨(some 9), .fieldAddr 15 (.tmp 8), none⟩, []⟩,
  ⟨3, ⟨(some 10), .fieldAddr 0 (.tmp 9), none⟩, []⟩,
  ⟨4, ⟨(some 11), .load1 (.tmp 10), none⟩, []⟩,
  ⟨5, ⟨(some 12), .mov (.tmp 0), none⟩, []⟩,
  ⟨6, ⟨(some 13), .nilCheck (.tmp 12), none⟩, []⟩,
  ⟨7, ⟨(some 14), .fieldAddr 18 (.tmp 13), none⟩, []⟩,
  ⟨8, ⟨(some 15), .load1 (.tmp 14), none⟩, []⟩,
  ⟨9, ⟨(some 16), .lenSl (.tmp 15), none⟩, []⟩,
  ⟨10, ⟨(some 17), .indexAddrSl 9 (.tmp 11) (.tmp 16), none⟩, []⟩,
  ⟨11, ⟨(some 18), .loadN 9 (.tmp 17), none⟩, []⟩,
  ⟨12, ⟨(some 19), .mov (.tmp 0), none⟩, []⟩,
  ⟨13, ⟨(some 20), .nilCheck (.tmp 19), none⟩, []⟩,
  ⟨14, ⟨(some 21), .fieldAddr 18 (.tmp 20), none⟩, []⟩,
  ⟨15, ⟨(some 22), .load1 (.tmp 21), none⟩, []⟩,
  ⟨20, ⟨(some 2), .alloc 146 [(.int .i64 0), (.string ⟨#[]⟩), (.string ⟨#[]⟩), (.int .u32 0), (.slice none 0 0), (.int .i64 0), (.slice none 0 0), (.int .i64 0), (.int .i64 0)], none⟩, []⟩,
  ⟨16, ⟨(some 23), .call (.func 83) [(.tmp 18), (.tmp 22)], none⟩, []⟩,
  ⟨17, ⟨(some 6), .mov (.tmp 23), none⟩, []⟩,
  ⟨18, ⟨(some 24), .extract (.tmp 6) 0, none⟩, []⟩,
  ⟨19, ⟨(some 25), .extract (.tmp 6) 1, none⟩, []⟩,
  ⟨21, ⟨none, .store 9 (.tmp 2) (.tmp 24), none⟩, []⟩,
  ⟨22, ⟨(some 3), .mov (.tmp 25), none⟩, []⟩])
  (.seq (.ops [⟨(some 26), .mov (.tmp 0), none⟩,
  ⟨(some 27), .nilCheck (.tmp 26), none⟩,
  ⟨(some 28), .fieldAddr 9 (.tmp 27), none⟩,
  ⟨(some 29), .fieldAddr 1 (.tmp 28), none⟩,
  ⟨(some 30), .load1 (.tmp 29), none⟩,
  ⟨(some 31), .bin .add (.prim .int) (.tmp 30) (.const (.int .i64 1)), none⟩,
  ⟨(some 32), .fieldAddr 8 (.tmp 2), none⟩,
  ⟨none, .store 1 (.tmp 32) (.tmp 31), none⟩])
  (.seq (.draw [⟨0, ⟨(some 34), .mov (.tmp 0), none⟩, []⟩,
  ⟨1, ⟨(some 35), .nilCheck (.tmp 34), none⟩, []⟩,
  ⟨2, ⟨(some 36), .fieldAddr 0 (.tmp 35), none⟩, []⟩,
  ⟨3, ⟨(some 37), .load1 (.tmp 36), none⟩, []⟩,
  ⟨4, ⟨(some 38), .nilCheck (.tmp 37), none⟩, []⟩,
  ⟨5, ⟨(some 39), .fieldAddr 5 (.tmp 38), none⟩, []⟩,
  ⟨6, ⟨(some 40), .load1 (.tmp 39), none⟩, []⟩,
  ⟨7, ⟨(some 41), .loadN 9 (.tmp 2), none⟩, []⟩,
  ⟨8, ⟨(some 42), .call (.func 84) [(.tmp 40), (.tmp 41)], none⟩, []⟩,
  ⟨9, ⟨(some 33), .mov (.tmp 42), none⟩, []⟩,
  ⟨10, ⟨(some 43), .extract (.tmp 33) 0, none⟩, []⟩,
  ⟨11, ⟨(some 44), .extract (.tmp 33) 1, none⟩, []⟩,
  ⟨12, ⟨(some 4), .mov (.tmp 43), none⟩, []⟩,
  ⟨13, ⟨(some 5), .mov (.tmp 44), none⟩, []⟩])
  (.seq (.seq (.ops [⟨(some 45), .mov (.tmp 5), none⟩,
  ⟨(some 46), .bin .neq (.prim .int) (.tmp 45) (.const (.int .i64 0)), none⟩])
  (.cond (.tmp 46) (.seq (.ops [⟨(some 47), .mov (.tmp 0), none⟩,
  ⟨(some 48), .mov (.tmp 0), none⟩,
  ⟨(some 49), .build [(.int .i64 0), (.bool false), (.string ⟨#[]⟩), (.string ⟨#[]⟩), (.int .i64 0)] [(0, 1, (.const (.int .i64 7)))], none⟩,
  ⟨(some 50), .nilCheck (.tmp 47), none⟩,
  ⟨(some 51), .fieldAddr 19 (.tmp 50), none⟩,
  ⟨none, .store 1 (.tmp 51) (.const (.bool true)), none⟩,
  ⟨(some 52), .nilCheck (.tmp 48), none⟩,
  ⟨(some 53), .fieldAddr 20 (.tmp 52), none⟩,
  ⟨none, .store 5 (.tmp 53) (.tmp 49), none⟩])
  (.seq (.ops [⟨(some 54), .mov (.tmp 0), none⟩,
  ⟨(some 55), .call (.func 85) [(.tmp 54)], none⟩])
  .ret))
  .skip))
  (.seq (.ops [⟨(some 56), .mov (.tmp 0), none⟩,
  ⟨(some 57), .mov (.tmp 0), none⟩,
  ⟨(some 58), .nilCheck (.tmp 57), none⟩,
  ⟨(some 59), .fieldAddr 18 (.tmp 58), none⟩,
  ⟨(some 60), .load1 (.tmp 59), none⟩,
  ⟨(some 61), .mov (.tmp 4), none⟩,
  ⟨(some 62), .buildSlice 73 1 [(.int .i64 0)] [(0, 1, (.tmp 61))], none⟩,
  ⟨(some 63), .append 73 1 8 (.tmp 60) (.tmp 62), none⟩,
  ⟨(some 64), .nilCheck (.tmp 56), none⟩,
  ⟨(some 65), .fieldAddr 18 (.tmp 64), none⟩,
  ⟨none, .store 1 (.tmp 65) (.tmp 63), none⟩])
  (.ops [⟨(some 66), .mov (.tmp 0), none⟩,
  ⟨(some 67), .call (.func 81) [(.tmp 66)], none⟩])))))) }
theorem c37 : compFunc Tryz.prog mts Tryz.f37 = some a37 := by kernel_rfl
def a38 : AFunc := { ntmps := 54, results := [], body := (.seq (.draw [⟨0, ⟨(some 9), .mov (.tmp 0), none⟩, []⟩,
  ⟨1, ⟨(some 10), .nilCheck (.tmp 9), none⟩, []⟩,
  ⟨2, ⟨(some 11), .fieldAddr 15 (.tmp 10), none⟩, []⟩,
  ⟨3, ⟨(some 12), .fieldAddr 1 (.tmp 11), none⟩, []⟩,
  ⟨4, ⟨(some 13), .load1 (.tmp 12), none⟩, []⟩,
  ⟨5, ⟨(some 14), .mov (.tmp 0), none⟩, []⟩,
  ⟨6, ⟨(some 15), .nilCheck (.tmp 14), none⟩, []⟩,
  ⟨7, ⟨(some 16), .fieldAddr 18 (.tmp 15), none⟩, []⟩,
  ⟨8, ⟨(some 17), .load1 (.tmp 16), none⟩, []⟩,
  ⟨9, ⟨(some 18), .call (.func 86) [(.tmp 13), (.tmp 17)], none⟩, []⟩,
  ⟨10, ⟨(some 8), .mov (.tmp 18), none⟩, []⟩,
  ⟨11, ⟨(some 19), .extract (.tmp 8) 0, none⟩, []⟩,
  ⟨12, ⟨(some 20), .extract (.tmp 8) 1, none⟩, []⟩,
  ⟨13, ⟨(some 2), .mov (.tmp 19), none⟩, []⟩,
  ⟨14, ⟨(some 3), .mov (.tmp 20), none⟩, []⟩])
  (.seq (.ops [⟨(some 22), .mov (.tmp 2), none⟩,
  ⟨(some 23), .mov (.tmp 0), none⟩,
  ⟨(some 24), .nilCheck (.tmp 23), none⟩,
  ⟨(some 25), .fieldAddr 9 (.tmp 24), none⟩,
  ⟨(some 26), .fieldAddr 1 (.tmp 25), none⟩,
  ⟨(some 27), .load1 (.tmp 26), none⟩,
  ⟨(some 28), .bin .add (.prim .int) (.tmp 27) (.const (.int .i64 1)), none⟩,
  ⟨(some 29), .call (.func 52) [(.tmp 22), (.tmp 28)], none⟩,
  ⟨(some 21), .mov (.tmp 29), none⟩,
  ⟨(some 30), .extract (.tmp 21) 0, none⟩,
  ⟨(some 31), .extract (.tmp 21) 1, none⟩,
  ⟨(some 4), .alloc 75 [(.int .i64 0), (.int .i64 0), (.int .i64 0)], none⟩,
  ⟨none, .store 3 (.tmp 4) (.tmp 30), none⟩,
  ⟨(some 5), .mov (.tmp 31), none⟩])
  (.seq (.seq (.draw [⟨0, ⟨(some 33), .mov (.tmp 0), none⟩, []⟩,
  ⟨1, ⟨(some 34), .nilCheck (.tmp 33), none⟩, []⟩,
  ⟨2, ⟨(some 35), .fieldAddr 0 (.tmp 34), none⟩, []⟩,
  ⟨3, ⟨(some 36), .load1 (.tmp 35), none⟩, []⟩,
  ⟨4, ⟨(some 37), .nilCheck (.tmp 36), none⟩, []⟩,
  ⟨5, ⟨(some 38), .fieldAddr 5 (.tmp 37), none⟩, []⟩,
  ⟨6, ⟨(some 39), .load1 (.tmp 38), none⟩, []⟩,
  ⟨7, ⟨(some 40), .mov (.tmp 0), none⟩, []⟩,
  ⟨8, ⟨(some 41), .nilCheck (.tmp 40), none⟩, []⟩,
  ⟨9, ⟨(some 42), .fieldAddr 9 (.tmp 41), none⟩, []⟩,
  ⟨10, ⟨(some 43), .loadN 3 (.tmp 42), none⟩, []⟩,
  ⟨11, ⟨(some 44), .loadN 3 (.tmp 4), none⟩, []⟩,
  ⟨12, ⟨(some 45), .call (.func 87) [(.tmp 39), (.const (.int .i64 0)), (.tmp 43), (.tmp 44)], none⟩, []⟩,
  ⟨13, ⟨(some 32), .mov (.tmp 45), none⟩, []⟩,
  ⟨14, ⟨(some 46), .extract (.tmp 32) 0, none⟩, []⟩,
  ⟨15, ⟨(some 47), .extract (.tmp 32) 1, none⟩, []⟩,
  ⟨16, ⟨(some 6), .mov (.tmp 46), none⟩, []⟩,
  ⟨17, ⟨(some 7), .mov (.tmp 47), none⟩, []⟩])
  (.seq (.ops [⟨(some 48), .mov (.tmp 6), none⟩])
  (.cond (.tmp 48) (.seq (.ops [⟨(some 49), .mov (.tmp 0), none⟩,
  ⟨(some 50), .nilCheck (.tmp 49), none⟩,
  ⟨(some 51), .fieldAddr 7 (.tmp 50), none⟩,
  ⟨none, .store 1 (.tmp 51) (.const (.int .i64 7)), none⟩])
  .ret)
  .skip)))
  (.ops [⟨(some 52), .mov (.tmp 0), none⟩,
  ⟨(some 53), .call (.func 85) [(.tmp 52)], none⟩])))) }
theorem c38 : compFunc Tryz.prog mts Tryz.f38 = some a38 := by kernel_rfl
def a40 : AFunc := { ntmps := 57, results := [], body := (.seq (.draw [⟨0, ⟨(some 5), .mov (.tmp 0), none⟩, []⟩,
  ⟨1, ⟨(some 6), .nilCheck (.tmp 5), none⟩, []⟩,
  ⟨2, ⟨(some 7), .fieldAddr 8 (.tmp 6), none⟩, []⟩,
  ⟨3, ⟨(some 8), .load1 (.tmp 7), none⟩, []⟩,
  ⟨4, ⟨(some 9), .mov (.tmp 0), none⟩, []⟩,
  ⟨5, ⟨(some 10), .nilCheck (.tmp 9), none⟩, []⟩,
  ⟨6, ⟨(some 11), .fieldAddr 9 (.tmp 10), none⟩, []⟩,
  ⟨7, ⟨(some 12), .fieldAddr 1 (.tmp 11), none⟩, []⟩,
  ⟨8, ⟨(some 13), .load1 (.tmp 12), none⟩, []⟩,
  ⟨9, ⟨(some 14), .bin .add (.prim .int) (.tmp 13) (.const (.int .i64 1)), none⟩, []⟩,
  ⟨10, ⟨(some 15), .build [(.int .i64 0), (.int .i64 0), (.slice none 0 0)] [(0, 1, (.tmp 8)), (1, 1, (.tmp 14))], none⟩, []⟩,
  ⟨11, ⟨(some 2), .alloc 159 [(.int .i64 0), (.int .i64 0), (.slice none 0 0)], none⟩, []⟩,
  ⟨12, ⟨none, .store 3 (.tmp 2) (.tmp 15), none⟩, []⟩])
  (.seq (.seq (.ops [⟨(some 16), .mov (.tmp 0), none⟩,
  ⟨(some 17), .nilCheck (.tmp 16), none⟩,
  ⟨(some 18), .fieldAddr 15 (.tmp 17), none⟩,
  ⟨(some 19), .fieldAddr 2 (.tmp 18), none⟩,
  ⟨(some 20), .load1 (.tmp 19), none⟩,
  ⟨(some 21), .lenSl (.tmp 20), none⟩,
  ⟨(some 22), .mov (.const (.int .i64 0)), none⟩])
  (.block 0 (.loop (.seq (.ops [⟨(some 23), .bin .lss (.prim .int) (.tmp 22) (.tmp 21), none⟩])
  (.seq (.cond (.tmp 23) .skip
  (.exit 0))
  (.seq (.block 1 (.seq (.ops [⟨(some 24), .indexAddrSl 1 (.tmp 20) (.tmp 22), none⟩,
  ⟨(some 25), .load1 (.tmp 24), none⟩,
  ⟨(some 4), .mov (.tmp 25), none⟩])
  (.draw [⟨0, ⟨(some 26), .fieldAddr 2 (.tmp 2), none⟩, []⟩,
  ⟨1, ⟨(some 27), .load1 (.tmp 26), none⟩, []⟩,
  ⟨2, ⟨(some 28), .mov (.tmp 4), none⟩, []⟩,
  ⟨3, ⟨(some 29), .mov (.tmp 0), none⟩, []⟩,
  ⟨4, ⟨(some 30), .nilCheck (.tmp 29), none⟩, []⟩,
  ⟨5, ⟨(some 31), .fieldAddr 14 (.tmp 30), none⟩, []⟩,
  ⟨6, ⟨(some 32), .load1 (.tmp 31), none⟩, []⟩,
  ⟨7, ⟨(some 33), .mov (.tmp 4), none⟩, []⟩,
  ⟨8, ⟨(some 34), .lookup .int (.int .i64 0) false (.tmp 32) (.tmp 33), none⟩, []⟩,
  ⟨9, ⟨(some 35), .build [(.int .i64 0), (.int .i64 0)] [(0, 1, (.tmp 28)), (1, 1, (.tmp 34))], none⟩, []⟩,
  ⟨10, ⟨(some 36), .buildSlice 161 1 [(.int .i64 0), (.int .i64 0)] [(0, 2, (.tmp 35))], none⟩, []⟩,
  ⟨11, ⟨(some 37), .append 161 2 16 (.tmp 27) (.tmp 36), none⟩, []⟩,
  ⟨12, ⟨(some 38), .fieldAddr 2 (.tmp 2), none⟩, []⟩,
  ⟨13, ⟨none, .store 1 (.tmp 38) (.tmp 37), none⟩, []⟩])))
  (.ops [⟨(some 39), .bin .add (.prim .int) (.tmp 22) (.const (.int .i64 1)), none⟩,
  ⟨(some 22), .mov (.tmp 39), none⟩])))))))
  (.seq (.draw [⟨0, ⟨(some 40), .mov (.tmp 0), none⟩, []⟩,
  ⟨1, ⟨(some 41), .nilCheck (.tmp 40), none⟩, []⟩,
  ⟨2, ⟨(some 42), .fieldAddr 0 (.tmp 41), none⟩, []⟩,
  ⟨3, ⟨(some 43), .load1 (.tmp 42), none⟩, []⟩,
  ⟨4, ⟨(some 44), .nilCheck (.tmp 43), none⟩, []⟩,
  ⟨5, ⟨(some 45), .fieldAddr 6 (.tmp 44), none⟩, []⟩,
  ⟨6, ⟨(some 46), .load1 (.tmp 45), none⟩, []⟩,
  ⟨7, ⟨(some 47), .mov (.tmp 0), none⟩, []⟩,
  ⟨8, ⟨(some 48), .nilCheck (.tmp 47), none⟩, []⟩,
  ⟨9, ⟨(some 49), .fieldAddr 1 (.tmp 48), none⟩, []⟩,
  ⟨10, ⟨(some 50), .load1 (.tmp 49), none⟩, []⟩,
  ⟨11, ⟨(some 51), .loadN 3 (.tmp 2), none⟩, []⟩,
  ⟨12, ⟨(some 52), .buildSlice 159 1 [(.int .i64 0), (.int .i64 0), (.slice none 0 0)] [(0, 3, (.tmp 51))], none⟩, []⟩,
  ⟨13, ⟨(some 53), .call (.func 89) [(.tmp 46), (.tmp 50), (.tmp 52)], none⟩, []⟩])
  (.ops [⟨(some 54), .mov (.tmp 0), none⟩,
  ⟨(some 55), .nilCheck (.tmp 54), none⟩,
  ⟨(some 56), .fieldAddr 7 (.tmp 55), none⟩,
  ⟨none, .store 1 (.tmp 56) (.const (.int .i64 9)), none⟩])))) }
theorem c40 : compFunc Tryz.prog mts Tryz.f40 = some a40 := by kernel_rfl
def a41 : AFunc := { ntmps := 67, results := [.tmp 6], body := (.seq (.ops [⟨(some 5), .box 23 (.tmp 2), none⟩,
  ⟨(some 6), .mov (.const (.int .i64 0)), none⟩])
  (.seq (.block 0 (.seq (.ops [⟨(some 8), .mov (.tmp 0), none⟩,
  ⟨(some 9), .bin .eql .ptr (.tmp 8) (.const (.pointer none)), none⟩,
  ⟨(some 10), .mov (.tmp 9), none⟩,
  ⟨(some 11), .mov (.tmp 0), (some (10, false))⟩,
  ⟨(some 12), .nilCheck (.tmp 11), (some (10, false))⟩,
  ⟨(some 13), .fieldAddr 5 (.tmp 12), (some (10, false))⟩,
  ⟨(some 14), .load1 (.tmp 13), (some (10, false))⟩,
  ⟨(some 15), .bin .eql .ptr (.tmp 14) (.const (.pointer none)), (some (10, false))⟩,
  ⟨(some 16), .pick (.tmp 10) (.const (.bool true)) (.tmp 15), none⟩,
  ⟨(some 17), .mov (.tmp 16), none⟩,
  ⟨(some 18), .mov (.tmp 0), (some (17, false))⟩,
  ⟨(some 19), .nilCheck (.tmp 18), (some (17, false))⟩,
  ⟨(some 20), .fieldAddr 6 (.tmp 19), (some (17, false))⟩,
  ⟨(some 21), .load1 (.tmp 20), (some (17, false))⟩,
  ⟨(some 22), .bin .eql .ptr (.tmp 21) (.const (.pointer none)), (some (17, false))⟩,
  ⟨(some 23), .pick (.tmp 17) (.const (.bool true)) (.tmp 22), none⟩,
  ⟨(some 24), .mov (.tmp 23), none⟩,
  ⟨(some 25), .mov (.tmp 0), (some (24, false))⟩,
  ⟨(some 26), .nilCheck (.tmp 25), (some (24, false))⟩,
  ⟨(some 27), .fieldAddr 0 (.tmp 26), (some (24, false))⟩,
  ⟨(some 28), .loadN 5 (.tmp 27), (some (24, false))⟩,
  ⟨(some 29), .call (.func 44) [(.tmp 28)], (some (24, false))⟩,
  ⟨(some 30), .bin .neq (.prim .int) (.tmp 29) (.const (.int .i64 0)), (some (24, false))⟩,
  ⟨(some 31), .pick (.tmp 24) (.const (.bool true)) (.tmp 30), none⟩,
  ⟨(some 7), .mov (.tmp 31), none⟩])
  (.cond (.tmp 7) (.seq (.ops [⟨(some 6), .mov (.const (.int .i64 4)), none⟩])
  .ret)
  (.seq (.ops [⟨(some 33), .mov (.tmp 0), none⟩,
  ⟨(some 34), .nilCheck (.tmp 33), none⟩,
  ⟨(some 35), .fieldAddr 0 (.tmp 34), none⟩,
  ⟨(some 36), .fieldAddr 0 (.tmp 35), none⟩,
  ⟨(some 37), .load1 (.tmp 36), none⟩,
  ⟨(some 38), .bin .eql (.prim .int) (.tmp 37) (.const (.int .i64 3)), none⟩,
  ⟨(some 39), .mov (.tmp 38), none⟩,
  ⟨(some 40), .mov (.tmp 1), (some (39, false))⟩,
  ⟨(some 41), .bin .lss (.prim .int) (.tmp 40) (.const (.int .i64 0)), (some (39, false))⟩,
  ⟨(some 42), .pick (.tmp 39) (.const (.bool true)) (.tmp 41), none⟩,
  ⟨(some 43), .mov (.tmp 42), none⟩,
  ⟨(some 44), .mov (.tmp 1), (some (43, false))⟩,
  ⟨(some 45), .mov (.tmp 0), (some (43, false))⟩,
  ⟨(some 46), .nilCheck (.tmp 45), (some (43, false))⟩,
  ⟨(some 47), .fieldAddr 0 (.tmp 46), (some (43, false))⟩,
  ⟨(some 48), .fieldAddr 2 (.tmp 47), (some (43, false))⟩,
  ⟨(some 49), .load1 (.tmp 48), (some (43, false))⟩,
  ⟨(some 50), .bin .geq (.prim .int) (.tmp 44) (.tmp 49), (some (43, false))⟩,
  ⟨(some 51), .pick (.tmp 43) (.const (.bool true)) (.tmp 50), none⟩,
  ⟨(some 32), .mov (.tmp 51), none⟩])
  (.cond (.tmp 32) (.seq (.ops [⟨(some 6), .mov (.const (.int .i64 2)), none⟩])
  .ret)
  (.seq (.ops [⟨(some 53), .fieldAddr 0 (.tmp 5), none⟩,
  ⟨(some 54), .load1 (.tmp 53), none⟩,
  ⟨(some 55), .bin .lss (.prim .int) (.tmp 54) (.const (.int .i64 1)), none⟩,
  ⟨(some 56), .mov (.tmp 55), none⟩,
  ⟨(some 57), .fieldAddr 0 (.tmp 5), (some (56, false))⟩,
  ⟨(some 58), .load1 (.tmp 57), (some (56, false))⟩,
  ⟨(some 59), .bin .gtr (.prim .int) (.tmp 58) (.const (.int .i64 6)), (some (56, false))⟩,
  ⟨(some 60), .pick (.tmp 56) (.const (.bool true)) (.tmp 59), none⟩,
  ⟨(some 52), .mov (.tmp 60), none⟩])
  (.cond (.tmp 52) (.seq (.ops [⟨(some 6), .mov (.const (.int .i64 11)), none⟩])
  .ret)
  .skip)))))))
  (.seq (.draw [⟨0, ⟨(some 61), .mov (.tmp 0), none⟩, []⟩,
  ⟨1, ⟨(some 62), .nilCheck (.tmp 61), none⟩, []⟩,
  ⟨2, ⟨(some 63), .fieldAddr 0 (.tmp 62), none⟩, []⟩,
  ⟨3, ⟨(some 64), .loadN 5 (.tmp 63), none⟩, []⟩,
  ⟨4, ⟨(some 65), .loadN 5 (.tmp 5), none⟩, []⟩,
  ⟨5, ⟨(some 66), .call (.func 90) [(.tmp 64), (.tmp 65)], none⟩, []⟩,
  ⟨6, ⟨(some 6), .mov (.tmp 66), none⟩, []⟩])
  .ret))) }
theorem c41 : compFunc Tryz.prog mts Tryz.f41 = some a41 := by kernel_rfl
def a42 : AFunc := { ntmps := 38, results := [.cellN 2 5], body := (.seq (.ops [⟨(some 1), .box 23 (.tmp 0), none⟩,
  ⟨(some 2), .alloc 23 [(.int .i64 0), (.string ⟨#[]⟩), (.string ⟨#[]⟩), (.string ⟨#[]⟩), (.int .i64 0)], none⟩])
  (.seq (.ops [⟨(some 5), .fieldAddr 0 (.tmp 1), none⟩,
  ⟨(some 6), .load1 (.tmp 5), none⟩,
  ⟨(some 7), .build [(.int .i64 0), (.string ⟨#[]⟩), (.string ⟨#[]⟩), (.string ⟨#[]⟩), (.int .i64 0)] [(0, 1, (.tmp 6))], none⟩,
  ⟨(some 3), .alloc 23 [(.int .i64 0), (.string ⟨#[]⟩), (.string ⟨#[]⟩), (.string ⟨#[]⟩), (.int .i64 0)], none⟩,
  ⟨none, .store 5 (.tmp 3) (.tmp 7), none⟩])
  (.seq (.seq (.ops [⟨(some 8), .fieldAddr 0 (.tmp 1), none⟩,
  ⟨(some 9), .load1 (.tmp 8), none⟩,
  ⟨(some 10), .call (.func 91) [(.tmp 9)], none⟩,
  ⟨(some 11), .un .not (.tmp 10), none⟩])
  (.cond (.tmp 11) (.seq (.ops [⟨(some 12), .loadN 5 (.tmp 3), none⟩,
  ⟨none, .store 5 (.tmp 2) (.tmp 12), none⟩])
  .ret)
  .skip))
  (.seq (.ops [⟨(some 13), .fieldAddr 0 (.tmp 1), none⟩,
  ⟨(some 14), .load1 (.tmp 13), none⟩,
  ⟨(some 15), .indexAddrArr 14 4 (.global 0) (.tmp 14), none⟩,
  ⟨(some 16), .loadN 4 (.tmp 15), none⟩,
  ⟨(some 4), .alloc 166 [(.bool false), (.bool false), (.bool false), (.bool false)], none⟩,
  ⟨none, .store 4 (.tmp 4) (.tmp 16), none⟩])
  (.seq (.seq (.ops [⟨(some 17), .fieldAddr 0 (.tmp 4), none⟩,
  ⟨(some 18), .load1 (.tmp 17), none⟩])
  (.cond (.tmp 18) (.ops [⟨(some 19), .fieldAddr 1 (.tmp 1), none⟩,
  ⟨(some 20), .load1 (.tmp 19), none⟩,
  ⟨(some 21), .fieldAddr 1 (.tmp 3), none⟩,
  ⟨none, .store 1 (.tmp 21) (.tmp 20), none⟩])
  .skip))
  (.seq (.seq (.ops [⟨(some 22), .fieldAddr 1 (.tmp 4), none⟩,
  ⟨(some 23), .load1 (.tmp 22), none⟩])
  (.cond (.tmp 23) (.ops [⟨(some 24), .fieldAddr 2 (.tmp 1), none⟩,
  ⟨(some 25), .load1 (.tmp 24), none⟩,
  ⟨(some 26), .fieldAddr 2 (.tmp 3), none⟩,
  ⟨none, .store 1 (.tmp 26) (.tmp 25), none⟩])
  .skip))
  (.seq (.seq (.ops [⟨(some 27), .fieldAddr 2 (.tmp 4), none⟩,
  ⟨(some 28), .load1 (.tmp 27), none⟩])
  (.cond (.tmp 28) (.ops [⟨(some 29), .fieldAddr 3 (.tmp 1), none⟩,
  ⟨(some 30), .load1 (.tmp 29), none⟩,
  ⟨(some 31), .fieldAddr 3 (.tmp 3), none⟩,
  ⟨none, .store 1 (.tmp 31) (.tmp 30), none⟩])
  .skip))
  (.seq (.seq (.ops [⟨(some 32), .fieldAddr 3 (.tmp 4), none⟩,
  ⟨(some 33), .load1 (.tmp 32), none⟩])
  (.cond (.tmp 33) (.ops [⟨(some 34), .fieldAddr 4 (.tmp 1), none⟩,
  ⟨(some 35), .load1 (.tmp 34), none⟩,
  ⟨(some 36), .fieldAddr 4 (.tmp 3), none⟩,
  ⟨none, .store 1 (.tmp 36) (.tmp 35), none⟩])
  .skip))
  (.seq (.ops [⟨(some 37), .loadN 5 (.tmp 3), none⟩,
  ⟨none, .store 5 (.tmp 2) (.tmp 37), none⟩])
  .ret))))))))) }
theorem c42 : compFunc Tryz.prog mts Tryz.f42 = some a42 := by kernel_rfl
def a44 : AFunc := { ntmps := 32, results := [.tmp 2], body := (.seq (.ops [⟨(some 1), .box 34 (.tmp 0), none⟩,
  ⟨(some 2), .mov (.const (.int .i64 0)), none⟩])
  (.seq (.ops [⟨(some 3), .mov (.const (.int .i64 0)), none⟩,
  ⟨(some 4), .mov (.const (.int .i64 0)), none⟩])
  (.seq (.seq (.ops [⟨(some 5), .fieldAddr 0 (.tmp 1), none⟩,
  ⟨(some 6), .load1 (.tmp 5), none⟩,
  ⟨(some 7), .bin .eql (.prim .int) (.tmp 6) (.const (.int .i64 3)), none⟩])
  (.cond (.tmp 7) (.ops [⟨(some 3), .mov (.const (.int .i64 2)), none⟩,
  ⟨(some 4), .mov (.const (.int .i64 1)), none⟩])
  .skip))
  (.seq (.block 0 (.seq (.ops [⟨(some 9), .fieldAddr 0 (.tmp 1), none⟩,
  ⟨(some 10), .load1 (.tmp 9), none⟩,
  ⟨(some 11), .call (.func 92) [(.tmp 10), (.const (.int .i64 1)), (.const (.int .i64 3))], none⟩,
  ⟨(some 12), .un .not (.tmp 11), none⟩,
  ⟨(some 8), .mov (.tmp 12), none⟩])
  (.cond (.tmp 8) (.seq (.ops [⟨(some 2), .mov (.const (.int .i64 11)), none⟩])
  .ret)
  (.seq (.seq (.ops [⟨(some 14), .fieldAddr 1 (.tmp 1), none⟩,
  ⟨(some 15), .load1 (.tmp 14), none⟩,
  ⟨(some 16), .mov (.tmp 3), none⟩,
  ⟨(some 17), .call (.func 92) [(.tmp 15), (.tmp 16), (.const (.int .i64 1000))], none⟩,
  ⟨(some 18), .un .not (.tmp 17), none⟩,
  ⟨(some 13), .mov (.tmp 18), none⟩])
  (.cond (.tmp 13) .skip
  (.seq (.ops [⟨(some 19), .fieldAddr 2 (.tmp 1), none⟩,
  ⟨(some 20), .load1 (.tmp 19), none⟩,
  ⟨(some 21), .call (.func 92) [(.tmp 20), (.const (.int .i64 1)), (.const (.int .i64 64))], none⟩,
  ⟨(some 22), .un .not (.tmp 21), none⟩,
  ⟨(some 13), .mov (.tmp 22), none⟩])
  (.cond (.tmp 13) .skip
  (.seq (.ops [⟨(some 23), .fieldAddr 3 (.tmp 1), none⟩,
  ⟨(some 24), .load1 (.tmp 23), none⟩,
  ⟨(some 25), .call (.func 92) [(.tmp 24), (.const (.int .i64 0)), (.const (.int .i64 16))], none⟩,
  ⟨(some 26), .un .not (.tmp 25), none⟩,
  ⟨(some 13), .mov (.tmp 26), none⟩])
  (.cond (.tmp 13) .skip
  (.ops [⟨(some 27), .fieldAddr 4 (.tmp 1), none⟩,
  ⟨(some 28), .load1 (.tmp 27), none⟩,
  ⟨(some 29), .mov (.tmp 4), none⟩,
  ⟨(some 30), .call (.func 92) [(.tmp 28), (.tmp 29), (.const (.int .i64 64))], none⟩,
  ⟨(some 31), .un .not (.tmp 30), none⟩,
  ⟨(some 13), .mov (.tmp 31), none⟩])))))))
  (.cond (.tmp 13) (.seq (.ops [⟨(some 2), .mov (.const (.int .i64 2)), none⟩])
  .ret)
  .skip)))))
  (.seq (.ops [⟨(some 2), .mov (.const (.int .i64 0)), none⟩])
  .ret))))) }
theorem c44 : compFunc Tryz.prog mts Tryz.f44 = some a44 := by kernel_rfl
def a49 : AFunc := { ntmps := 30, results := [.tmp 4, .tmp 5], body := (.seq (.ops [⟨(some 4), .mov (.const (.pointer none)), none⟩,
  ⟨(some 5), .mov (.const (.int .i64 0)), none⟩])
  (.seq (.ops [⟨(some 10), .mov (.tmp 0), none⟩,
  ⟨(some 11), .call (.func 96) [(.tmp 10)], none⟩,
  ⟨(some 9), .mov (.tmp 11), none⟩,
  ⟨(some 12), .extract (.tmp 9) 0, none⟩,
  ⟨(some 13), .extract (.tmp 9) 1, none⟩,
  ⟨(some 6), .mov (.tmp 12), none⟩,
  ⟨(some 7), .mov (.tmp 13), none⟩])
  (.seq (.seq (.ops [⟨(some 14), .mov (.tmp 7), none⟩,
  ⟨(some 15), .bin .neq (.prim .int) (.tmp 14) (.const (.int .i64 0)), none⟩])
  (.cond (.tmp 15) (.seq (.ops [⟨(some 16), .mov (.tmp 7), none⟩,
  ⟨(some 4), .mov (.const (.pointer none)), none⟩,
  ⟨(some 5), .mov (.tmp 16), none⟩])
  .ret)
  .skip))
  (.seq (.ops [⟨(some 18), .mov (.tmp 1), none⟩,
  ⟨(some 19), .call (.func 97) [(.tmp 18)], none⟩,
  ⟨(some 17), .mov (.tmp 19), none⟩,
  ⟨(some 20), .extract (.tmp 17) 0, none⟩,
  ⟨(some 21), .extract (.tmp 17) 1, none⟩,
  ⟨(some 8), .mov (.tmp 20), none⟩,
  ⟨(some 7), .mov (.tmp 21), none⟩])
  (.seq (.seq (.ops [⟨(some 22), .mov (.tmp 7), none⟩,
  ⟨(some 23), .bin .neq (.prim .int) (.tmp 22) (.const (.int .i64 0)), none⟩])
  (.cond (.tmp 23) (.seq (.ops [⟨(some 24), .mov (.tmp 7), none⟩,
  ⟨(some 4), .mov (.const (.pointer none)), none⟩,
  ⟨(some 5), .mov (.tmp 24), none⟩])
  .ret)
  .skip))
  (.seq (.ops [⟨(some 25), .mov (.tmp 8), none⟩,
  ⟨(some 26), .mov (.tmp 6), none⟩,
  ⟨(some 27), .build [(.pointer none), (.pointer none), (.int .i64 0), (.int .i64 0)] [(0, 1, (.tmp 25)), (1, 1, (.tmp 26))], none⟩,
  ⟨(some 28), .box 126 (.tmp 27), none⟩,
  ⟨(some 29), .mov (.tmp 7), none⟩,
  ⟨(some 4), .mov (.tmp 28), none⟩,
  ⟨(some 5), .mov (.tmp 29), none⟩])
  .ret)))))) }
theorem c49 : compFunc Tryz.prog mts Tryz.f49 = some a49 := by kernel_rfl
def a50 : AFunc := { ntmps := 12, results := [.tmp 2], body := (.seq (.ops [⟨(some 1), .box 34 (.tmp 0), none⟩,
  ⟨(some 2), .mov (.const (.int .i64 0)), none⟩])
  (.seq (.seq (.ops [⟨(some 3), .loadN 5 (.tmp 1), none⟩,
  ⟨(some 4), .call (.func 44) [(.tmp 3)], none⟩,
  ⟨(some 5), .bin .neq (.prim .int) (.tmp 4) (.const (.int .i64 0)), none⟩])
  (.cond (.tmp 5) (.seq (.ops [⟨(some 2), .mov (.const (.int .i64 0)), none⟩])
  .ret)
  .skip))
  (.seq (.ops [⟨(some 6), .fieldAddr 2 (.tmp 1), none⟩,
  ⟨(some 7), .load1 (.tmp 6), none⟩,
  ⟨(some 8), .bin .add (.prim .int) (.const (.int .i64 2)) (.tmp 7), none⟩,
  ⟨(some 9), .fieldAddr 3 (.tmp 1), none⟩,
  ⟨(some 10), .load1 (.tmp 9), none⟩,
  ⟨(some 11), .bin .add (.prim .int) (.tmp 8) (.tmp 10), none⟩,
  ⟨(some 2), .mov (.tmp 11), none⟩])
  .ret))) }
theorem c50 : compFunc Tryz.prog mts Tryz.f50 = some a50 := by kernel_rfl
def a51 : AFunc := { ntmps := 14, results := [.tmp 2, .tmp 3], body := (.seq (.ops [⟨(some 2), .mov (.const (.pointer none)), none⟩,
  ⟨(some 3), .mov (.const (.int .i64 0)), none⟩])
  (.seq (.seq (.ops [⟨(some 4), .mov (.tmp 0), none⟩,
  ⟨(some 5), .bin .lss (.prim .int) (.tmp 4) (.const (.int .i64 0)), none⟩,
  ⟨(some 6), .mov (.tmp 5), none⟩,
  ⟨(some 7), .mov (.tmp 0), (some (6, false))⟩,
  ⟨(some 8), .bin .gtr (.prim .int) (.tmp 7) (.const (.int .i64 64)), (some (6, false))⟩,
  ⟨(some 9), .pick (.tmp 6) (.const (.bool true)) (.tmp 8), none⟩])
  (.cond (.tmp 9) (.seq (.ops [⟨(some 2), .mov (.const (.pointer none)), none⟩,
  ⟨(some 3), .mov (.const (.int .i64 2)), none⟩])
  .ret)
  .skip))
  (.seq (.ops [⟨(some 10), .mov (.tmp 0), none⟩,
  ⟨(some 11), .makeSlice 93 1 24 [(.slice none 0 0)] (.tmp 10) (.tmp 10), none⟩,
  ⟨(some 12), .build [(.slice none 0 0), (.int .i64 0), (.bool false)] [(0, 1, (.tmp 11)), (2, 1, (.const (.bool true)))], none⟩,
  ⟨(some 13), .box 175 (.tmp 12), none⟩,
  ⟨(some 2), .mov (.tmp 13), none⟩,
  ⟨(some 3), .mov (.const (.int .i64 0)), none⟩])
  .ret))) }
theorem c51 : compFunc Tryz.prog mts Tryz.f51 = some a51 := by kernel_rfl
def a52 : AFunc := { ntmps := 12, results := [.cellN 4 3, .tmp 5], body := (.seq (.ops [⟨(some 4), .alloc 75 [(.int .i64 0), (.int .i64 0), (.int .i64 0)], none⟩,
  ⟨(some 5), .mov (.const (.int .i64 0)), none⟩])
  (.seq (.seq (.ops [⟨(some 6), .mov (.tmp 1), none⟩,
  ⟨(some 7), .bin .lss (.prim .int) (.tmp 6) (.const (.int .i64 0)), none⟩])
  (.cond (.tmp 7) (.seq (.ops [⟨(some 8), .build [(.int .i64 0), (.int .i64 0), (.int .i64 0)] [], none⟩,
  ⟨none, .store 3 (.tmp 4) (.tmp 8), none⟩,
  ⟨(some 5), .mov (.const (.int .i64 2)), none⟩])
  .ret)
  .skip))
  (.seq (.ops [⟨(some 9), .mov (.tmp 0), none⟩,
  ⟨(some 10), .mov (.tmp 1), none⟩,
  ⟨(some 11), .build [(.int .i64 0), (.int .i64 0), (.int .i64 0)] [(0, 1, (.tmp 9)), (1, 1, (.tmp 10))], none⟩,
  ⟨none, .store 3 (.tmp 4) (.tmp 11), none⟩,
  ⟨(some 5), .mov (.const (.int .i64 0)), none⟩])
  .ret))) }
theorem c52 : compFunc Tryz.prog mts Tryz.f52 = some a52 := by kernel_rfl
def a53 : AFunc := { ntmps := 25, results := [.tmp 4], body := (.seq (.ops [⟨(some 4), .mov (.const (.int .i64 0)), none⟩])
  (.seq (.seq (.ops [⟨(some 9), .mov (.tmp 1), none⟩,
  ⟨(some 10), .bin .neq (.prim .int) (.tmp 9) (.const (.int .i64 3)), none⟩])
  (.cond (.tmp 10) (.seq (.ops [⟨(some 4), .mov (.const (.int .i64 0)), none⟩])
  .ret)
  .skip))
  (.seq (.ops [⟨(some 12), .mov (.tmp 0), none⟩,
  ⟨(some 13), .call (.func 98) [(.const (.int .u32 0)), (.const (.slice none 0 0)), (.const (.int .i64 0))], none⟩,
  ⟨(some 14), .call (.func 84) [(.tmp 12), (.tmp 13)], none⟩,
  ⟨(some 11), .mov (.tmp 14), none⟩,
  ⟨(some 15), .extract (.tmp 11) 0, none⟩,
  ⟨(some 16), .extract (.tmp 11) 1, none⟩,
  ⟨(some 5), .mov (.tmp 15), none⟩,
  ⟨(some 6), .mov (.tmp 16), none⟩])
  (.seq (.ops [⟨(some 18), .mov (.tmp 0), none⟩,
  ⟨(some 19), .mov (.tmp 5), none⟩,
  ⟨(some 20), .call (.func 99) [(.tmp 19)], none⟩,
  ⟨(some 21), .call (.func 84) [(.tmp 18), (.tmp 20)], none⟩,
  ⟨(some 17), .mov (.tmp 21), none⟩,
  ⟨(some 22), .extract (.tmp 17) 0, none⟩,
  ⟨(some 23), .extract (.tmp 17) 1, none⟩,
  ⟨(some 7), .mov (.tmp 22), none⟩,
  ⟨(some 8), .mov (.tmp 23), none⟩])
  (.seq (.ops [⟨(some 24), .mov (.tmp 7), none⟩,
  ⟨(some 4), .mov (.tmp 24), none⟩])
  .ret))))) }
theorem c53 : compFunc Tryz.prog mts Tryz.f53 = some a53 := by kernel_rfl
def a54 : AFunc := { ntmps := 25, results := [.cellN 4 3, .tmp 5], body := (.seq (.ops [⟨(some 4), .alloc 75 [(.int .i64 0), (.int .i64 0), (.int .i64 0)], none⟩,
  ⟨(some 5), .mov (.const (.int .i64 0)), none⟩])
  (.seq (.seq (.ops [⟨(some 6), .mov (.tmp 1), none⟩,
  ⟨(some 7), .call (.func 100) [(.tmp 6)], none⟩,
  ⟨(some 8), .un .not (.tmp 7), none⟩,
  ⟨(some 9), .mov (.tmp 8), none⟩,
  ⟨(some 10), .mov (.tmp 0), (some (9, false))⟩,
  ⟨(some 11), .bin .lss (.prim .int) (.tmp 10) (.const (.int .i64 0)), (some (9, false))⟩,
  ⟨(some 12), .pick (.tmp 9) (.const (.bool true)) (.tmp 11), none⟩,
  ⟨(some 13), .mov (.tmp 12), none⟩,
  ⟨(some 14), .mov (.tmp 0), (some (13, false))⟩,
  ⟨(some 15), .mov (.tmp 1), (some (13, false))⟩,
  ⟨(some 16), .bin .geq (.prim .int) (.tmp 14) (.tmp 15), (some (13, false))⟩,
  ⟨(some 17), .pick (.tmp 13) (.const (.bool true)) (.tmp 16), none⟩])
  (.cond (.tmp 17) (.seq (.ops [⟨(some 18), .build [(.int .i64 0), (.int .i64 0), (.int .i64 0)] [], none⟩,
  ⟨none, .store 3 (.tmp 4) (.tmp 18), none⟩,
  ⟨(some 5), .mov (.const (.int .i64 2)), none⟩])
  .ret)
  .skip))
  (.seq (.ops [⟨(some 19), .mov (.tmp 0), none⟩,
  ⟨(some 20), .mov (.tmp 1), none⟩,
  ⟨(some 21), .bin .sub (.prim .int) (.tmp 19) (.tmp 20), none⟩,
  ⟨(some 22), .call (.func 101) [(.const (.int .i64 1)), (.tmp 21), (.const (.int .i64 0)), (.const (.int .i64 0))], none⟩,
  ⟨(some 23), .extract (.tmp 22) 0, none⟩,
  ⟨(some 24), .extract (.tmp 22) 1, none⟩,
  ⟨none, .store 3 (.tmp 4) (.tmp 23), none⟩,
  ⟨(some 5), .mov (.tmp 24), none⟩])
  .ret))) }
theorem c54 : compFunc Tryz.prog mts Tryz.f54 = some a54 := by kernel_rfl
def a55 : AFunc := { ntmps := 16, results := [.tmp 4], body := (.seq (.ops [⟨(some 2), .box 34 (.tmp 0), none⟩,
  ⟨(some 4), .mov (.const (.int .i64 0)), none⟩])
  (.seq (.ops [⟨(some 5), .mov (.const (.int .i64 0)), none⟩])
  (.seq (.seq (.ops [⟨(some 6), .fieldAddr 2 (.tmp 2), none⟩,
  ⟨(some 7), .load1 (.tmp 6), none⟩,
  ⟨(some 8), .call (.func 92) [(.tmp 7), (.const (.int .i64 1)), (.const (.int .i64 64))], none⟩])
  (.cond (.tmp 8) (.ops [⟨(some 9), .fieldAddr 2 (.tmp 2), none⟩,
  ⟨(some 10), .load1 (.tmp 9), none⟩,
  ⟨(some 5), .mov (.tmp 10), none⟩])
  .skip))
  (.seq (.ops [⟨(some 11), .mov (.tmp 5), none⟩,
  ⟨(some 12), .bin .add (.prim .int) (.const (.int .i64 2)) (.tmp 11), none⟩,
  ⟨(some 13), .mov (.tmp 1), none⟩,
  ⟨(some 14), .call (.func 71) [(.tmp 13)], none⟩,
  ⟨(some 15), .bin .add (.prim .int) (.tmp 12) (.tmp 14), none⟩,
  ⟨(some 4), .mov (.tmp 15), none⟩])
  .ret)))) }
theorem c55 : compFunc Tryz.prog mts Tryz.f55 = some a55 := by kernel_rfl
def a56 : AFunc := { ntmps := 10, results := [.tmp 2], body := (.seq (.ops [⟨(some 2), .mov (.const (.int .i64 0)), none⟩])
  (.seq (.seq (.ops [⟨(some 3), .mov (.tmp 0), none⟩,
  ⟨(some 4), .call (.func 94) [(.tmp 3)], none⟩,
  ⟨(some 5), .un .not (.tmp 4), none⟩])
  (.cond (.tmp 5) (.seq (.ops [⟨(some 2), .mov (.const (.int .i64 0)), none⟩])
  .ret)
  .skip))
  (.seq (.ops [⟨(some 6), .mov (.tmp 0), none⟩,
  ⟨(some 7), .nilCheck (.tmp 6), none⟩,
  ⟨(some 8), .fieldAddr 2 (.tmp 7), none⟩,
  ⟨(some 9), .load1 (.tmp 8), none⟩,
  ⟨(some 2), .mov (.tmp 9), none⟩])
  .ret))) }
theorem c56 : compFunc Tryz.prog mts Tryz.f56 = some a56 := by kernel_rfl
def a57 : AFunc := { ntmps := 9, results := [.tmp 2], body := (.seq (.ops [⟨(some 2), .mov (.const (.int .i64 0)), none⟩])
  (.seq (.seq (.ops [⟨(some 3), .mov (.tmp 0), none⟩,
  ⟨(some 4), .bin .eql .ptr (.tmp 3) (.const (.pointer none)), none⟩])
  (.cond (.tmp 4) (.seq (.ops [⟨(some 2), .mov (.const (.int .i64 0)), none⟩])
  .ret)
  .skip))
  (.seq (.ops [⟨(some 5), .mov (.tmp 0), none⟩,
  ⟨(some 6), .nilCheck (.tmp 5), none⟩,
  ⟨(some 7), .fieldAddr 1 (.tmp 6), none⟩,
  ⟨(some 8), .load1 (.tmp 7), none⟩,
  ⟨(some 2), .mov (.tmp 8), none⟩])
  .ret))) }
theorem c57 : compFunc Tryz.prog mts Tryz.f57 = some a57 := by kernel_rfl
def a68 : AFunc := { ntmps := 13, results := [.tmp 2], body := (.seq (.ops [⟨(some 2), .mov (.const (.int .i64 0)), none⟩])
  (.seq (.seq (.ops [⟨(some 3), .mov (.tmp 0), none⟩,
  ⟨(some 4), .call (.func 94) [(.tmp 3)], none⟩,
  ⟨(some 5), .un .not (.tmp 4), none⟩])
  (.cond (.tmp 5) (.seq (.ops [⟨(some 2), .mov (.const (.int .i64 4)), none⟩])
  .ret)
  .skip))
  (.seq (.ops [⟨(some 6), .mov (.tmp 0), none⟩,
  ⟨(some 7), .nilCheck (.tmp 6), none⟩,
  ⟨(some 8), .fieldAddr 2 (.tmp 7), none⟩,
  ⟨(some 9), .load1 (.tmp 8), none⟩,
  ⟨(some 10), .bin .add (.prim .int) (.tmp 9) (.const (.int .i64 1)), none⟩,
  ⟨(some 11), .nilCheck (.tmp 6), none⟩,
  ⟨(some 12), .fieldAddr 2 (.tmp 11), none⟩,
  ⟨none, .store 1 (.tmp 12) (.tmp 10), none⟩])
  (.seq (.ops [⟨(some 2), .mov (.const (.int .i64 0)), none⟩])
  .ret)))) }
theorem c68 : compFunc Tryz.prog mts Tryz.f68 = some a68 := by kernel_rfl
def a69 : AFunc := { ntmps := 14, results := [.cellN 4 3, .tmp 5], body := (.seq (.ops [⟨(some 4), .alloc 75 [(.int .i64 0), (.int .i64 0), (.int .i64 0)], none⟩,
  ⟨(some 5), .mov (.const (.int .i64 0)), none⟩])
  (.seq (.ops [⟨(some 7), .mov (.tmp 0), none⟩,
  ⟨(some 8), .mov (.tmp 1), none⟩,
  ⟨(some 9), .call (.func 112) [(.tmp 7), (.tmp 8)], none⟩,
  ⟨(some 6), .mov (.tmp 9), none⟩])
  (.seq (.ops [⟨(some 10), .mov (.tmp 0), none⟩,
  ⟨(some 11), .mov (.tmp 1), none⟩,
  ⟨(some 12), .call (.func 113) [(.tmp 10), (.tmp 11)], none⟩,
  ⟨(some 13), .mov (.tmp 6), none⟩,
  ⟨none, .store 3 (.tmp 4) (.tmp 12), none⟩,
  ⟨(some 5), .mov (.tmp 13), none⟩])
  .ret))) }
theorem c69 : compFunc Tryz.prog mts Tryz.f69 = some a69 := by kernel_rfl
def a70 : AFunc := { ntmps := 17, results := [.tmp 6], body := (.seq (.ops [⟨(some 5), .box 75 (.tmp 2), none⟩,
  ⟨(some 6), .mov (.const (.int .i64 0)), none⟩])
  (.seq (.ops [⟨(some 10), .mov (.tmp 0), none⟩,
  ⟨(some 11), .mov (.tmp 1), none⟩,
  ⟨(some 12), .loadN 3 (.tmp 5), none⟩,
  ⟨(some 13), .call (.func 114) [(.tmp 10), (.tmp 11), (.tmp 12)], none⟩,
  ⟨(some 9), .mov (.tmp 13), none⟩,
  ⟨(some 14), .extract (.tmp 9) 0, none⟩,
  ⟨(some 15), .extract (.tmp 9) 1, none⟩,
  ⟨(some 7), .alloc 75 [(.int .i64 0), (.int .i64 0), (.int .i64 0)], none⟩,
  ⟨none, .store 3 (.tmp 7) (.tmp 14), none⟩,
  ⟨(some 8), .mov (.tmp 15), none⟩])
  (.seq (.ops [⟨(some 16), .mov (.tmp 8), none⟩,
  ⟨(some 6), .mov (.tmp 16), none⟩])
  .ret))) }
theorem c70 : compFunc Tryz.prog mts Tryz.f70 = some a70 := by kernel_rfl
def a71 : AFunc := { ntmps := 7, results := [.tmp 2], body := (.seq (.ops [⟨(some 2), .mov (.const (.int .i64 0)), none⟩])
  (.seq (.seq (.ops [⟨(some 3), .mov (.tmp 0), none⟩,
  ⟨(some 4), .call (.func 92) [(.tmp 3), (.const (.int .i64 0)), (.const (.int .i64 63))], none⟩,
  ⟨(some 5), .un .not (.tmp 4), none⟩])
  (.cond (.tmp 5) (.seq (.ops [⟨(some 2), .mov (.const (.int .i64 0)), none⟩])
  .ret)
  .skip))
  (.seq (.ops [⟨(some 6), .mov (.tmp 0), none⟩,
  ⟨(some 2), .mov (.tmp 6), none⟩])
  .ret))) }
theorem c71 : compFunc Tryz.prog mts Tryz.f71 = some a71 := by kernel_rfl
def a74 : AFunc := { ntmps := 13, results := [], body := (.seq (.ops [⟨(some 3), .box 131 (.tmp 1), none⟩])
  (.seq (.ops [⟨(some 4), .mov (.tmp 0), none⟩,
  ⟨(some 5), .load1 (.tmp 3), none⟩,
  ⟨(some 6), .makeIface 131 (.tmp 5), none⟩,
  ⟨(some 7), .nilCheck (.tmp 4), none⟩,
  ⟨(some 8), .fieldAddr 12 (.tmp 7), none⟩,
  ⟨none, .store 1 (.tmp 8) (.tmp 6), none⟩])
  (.ops [⟨(some 9), .mov (.tmp 0), none⟩,
  ⟨(some 10), .makeFunc 117 [] [(.tmp 3)], none⟩,
  ⟨(some 11), .nilCheck (.tmp 9), none⟩,
  ⟨(some 12), .fieldAddr 13 (.tmp 11), none⟩,
  ⟨none, .store 1 (.tmp 12) (.tmp 10), none⟩]))) }
theorem c74 : compFunc Tryz.prog mts Tryz.f74 = some a74 := by kernel_rfl
def a75 : AFunc := { ntmps := 15, results := [.tmp 6], body := (.seq (.ops [⟨(some 6), .mov (.const (.pointer none)), none⟩])
  (.seq (.ops [⟨(some 7), .mov (.tmp 1), none⟩,
  ⟨(some 8), .mov (.tmp 2), none⟩,
  ⟨(some 9), .mov (.tmp 1), none⟩,
  ⟨(some 10), .mov (.tmp 2), none⟩,
  ⟨(some 11), .call (.func 119) [(.tmp 9), (.tmp 10)], none⟩,
  ⟨(some 12), .mov (.tmp 0), none⟩,
  ⟨(some 13), .build [(.string ⟨#[]⟩), (.int .i64 0), (.int .u64 0), (.int .i64 0), (.int .i64 0), (.string ⟨#[]⟩), (.bool false)] [(0, 1, (.tmp 7)), (1, 1, (.tmp 8)), (2, 1, (.tmp 11)), (4, 1, (.tmp 12))], none⟩,
  ⟨(some 14), .box 203 (.tmp 13), none⟩,
  ⟨(some 6), .mov (.tmp 14), none⟩])
  .ret)) }
theorem c75 : compFunc Tryz.prog mts Tryz.f75 = some a75 := by kernel_rfl
def a76 : AFunc := { ntmps := 12, results := [], body := (.seq (.ops [⟨(some 3), .box 205 (.tmp 1), none⟩])
  (.seq (.ops [⟨(some 4), .mov (.tmp 0), none⟩,
  ⟨(some 5), .load1 (.tmp 3), none⟩,
  ⟨(some 6), .nilCheck (.tmp 4), none⟩,
  ⟨(some 7), .fieldAddr 12 (.tmp 6), none⟩,
  ⟨none, .store 1 (.tmp 7) (.tmp 5), none⟩])
  (.ops [⟨(some 8), .mov (.tmp 0), none⟩,
  ⟨(some 9), .makeFunc 120 [] [(.tmp 3)], none⟩,
  ⟨(some 10), .nilCheck (.tmp 8), none⟩,
  ⟨(some 11), .fieldAddr 13 (.tmp 10), none⟩,
  ⟨none, .store 1 (.tmp 11) (.tmp 9), none⟩]))) }
theorem c76 : compFunc Tryz.prog mts Tryz.f76 = some a76 := by kernel_rfl
def a80 : AFunc := { ntmps := 24, results := [.tmp 12], body := (.seq (.ops [⟨(some 12), .mov (.const (.pointer none)), none⟩])
  (.seq (.ops [⟨(some 13), .mov (.tmp 1), none⟩,
  ⟨(some 14), .mov (.tmp 2), none⟩,
  ⟨(some 15), .mov (.tmp 3), none⟩,
  ⟨(some 16), .mov (.tmp 4), none⟩,
  ⟨(some 17), .mov (.tmp 5), none⟩,
  ⟨(some 18), .mov (.tmp 2), none⟩,
  ⟨(some 19), .mov (.tmp 5), none⟩,
  ⟨(some 20), .call (.func 119) [(.tmp 18), (.tmp 19)], none⟩,
  ⟨(some 21), .mov (.tmp 0), none⟩,
  ⟨(some 22), .build [(.int .i64 0), (.string ⟨#[]⟩), (.string ⟨#[]⟩), (.string ⟨#[]⟩), (.int .i64 0), (.int .u64 0), (.int .i64 0), (.slice none 0 0), (.int .i64 0), (.int .i64 0), (.string ⟨#[]⟩), (.string ⟨#[]⟩), (.int .u32 0), (.slice none 0 0), (.int .i64 0), (.slice none 0 0), (.int .i64 0), (.int .i64 0)] [(0, 1, (.tmp 13)), (1, 1, (.tmp 14)), (2, 1, (.tmp 15)), (3, 1, (.tmp 16)), (4, 1, (.tmp 17)), (5, 1, (.tmp 20)), (6, 1, (.tmp 21))], none⟩,
  ⟨(some 23), .box 226 (.tmp 22), none⟩,
  ⟨(some 12), .mov (.tmp 23), none⟩])
  .ret)) }
theorem c80 : compFunc Tryz.prog mts Tryz.f80 = some a80 := by kernel_rfl
def a81 : AFunc := { ntmps := 20, results := [], body := (.seq (.ops [⟨(some 2), .mov (.tmp 0), none⟩,
  ⟨(some 3), .nilCheck (.tmp 2), none⟩,
  ⟨(some 4), .fieldAddr 7 (.tmp 3), none⟩,
  ⟨none, .store 1 (.tmp 4) (.const (.int .i64 4)), none⟩])
  (.seq (.draw [⟨0, ⟨(some 5), .mov (.tmp 0), none⟩, []⟩,
  ⟨1, ⟨(some 6), .nilCheck (.tmp 5), none⟩, []⟩,
  ⟨2, ⟨(some 7), .fieldAddr 18 (.tmp 6), none⟩, []⟩,
  ⟨3, ⟨(some 8), .load1 (.tmp 7), none⟩, []⟩,
  ⟨4, ⟨(some 9), .lenSl (.tmp 8), none⟩, []⟩,
  ⟨5, ⟨(some 10), .mov (.tmp 0), none⟩, []⟩,
  ⟨6, ⟨(some 11), .nilCheck (.tmp 10), none⟩, []⟩,
  ⟨7, ⟨(some 12), .fieldAddr 15 (.tmp 11), none⟩, []⟩,
  ⟨8, ⟨(some 13), .fieldAddr 0 (.tmp 12), none⟩, []⟩,
  ⟨9, ⟨(some 14), .load1 (.tmp 13), none⟩, []⟩,
  ⟨10, ⟨(some 15), .lenSl (.tmp 14), none⟩, []⟩,
  ⟨11, ⟨(some 16), .bin .eql (.prim .int) (.tmp 9) (.tmp 15), none⟩, []⟩])
  (.cond (.tmp 16) (.ops [⟨(some 17), .mov (.tmp 0), none⟩,
  ⟨(some 18), .nilCheck (.tmp 17), none⟩,
  ⟨(some 19), .fieldAddr 7 (.tmp 18), none⟩,
  ⟨none, .store 1 (.tmp 19) (.const (.int .i64 5)), none⟩])
  .skip))) }
theorem c81 : compFunc Tryz.prog mts Tryz.f81 = some a81 := by kernel_rfl
def a82 : AFunc := { ntmps := 29, results := [.cellN 4 9, .tmp 5], body := (.seq (.ops [⟨(some 4), .alloc 146 [(.int .i64 0), (.string ⟨#[]⟩), (.string ⟨#[]⟩), (.int .u32 0), (.slice none 0 0), (.int .i64 0), (.slice none 0 0), (.int .i64 0), (.int .i64 0)], none⟩,
  ⟨(some 5), .mov (.const (.int .i64 0)), none⟩])
  (.seq (.seq (.ops [⟨(some 9), .mov (.tmp 0), none⟩,
  ⟨(some 10), .call (.func 68) [(.tmp 9)], none⟩,
  ⟨(some 6), .mov (.tmp 10), none⟩])
  (.seq (.ops [⟨(some 11), .mov (.tmp 6), none⟩,
  ⟨(some 12), .bin .neq (.prim .int) (.tmp 11) (.const (.int .i64 0)), none⟩])
  (.cond (.tmp 12) (.seq (.ops [⟨(some 13), .build [(.int .i64 0), (.string ⟨#[]⟩), (.string ⟨#[]⟩), (.int .u32 0), (.slice none 0 0), (.int .i64 0), (.slice none 0 0), (.int .i64 0), (.int .i64 0)] [], none⟩,
  ⟨(some 14), .mov (.tmp 6), none⟩,
  ⟨none, .store 9 (.tmp 4) (.tmp 13), none⟩,
  ⟨(some 5), .mov (.tmp 14), none⟩])
  .ret)
  .skip)))
  (.seq (.ops [⟨(some 16), .mov (.tmp 0), none⟩,
  ⟨(some 17), .nilCheck (.tmp 16), none⟩,
  ⟨(some 18), .fieldAddr 1 (.tmp 17), none⟩,
  ⟨(some 19), .load1 (.tmp 18), none⟩,
  ⟨(some 20), .mov (.tmp 1), none⟩,
  ⟨(some 21), .call (.func 121) [(.tmp 19), (.tmp 20)], none⟩,
  ⟨(some 15), .mov (.tmp 21), none⟩,
  ⟨(some 22), .extract (.tmp 15) 0, none⟩,
  ⟨(some 23), .extract (.tmp 15) 1, none⟩,
  ⟨(some 7), .alloc 146 [(.int .i64 0), (.string ⟨#[]⟩), (.string ⟨#[]⟩), (.int .u32 0), (.slice none 0 0), (.int .i64 0), (.slice none 0 0), (.int .i64 0), (.int .i64 0)], none⟩,
  ⟨none, .store 9 (.tmp 7) (.tmp 22), none⟩,
  ⟨(some 8), .mov (.tmp 23), none⟩])
  (.seq (.ops [⟨(some 24), .loadN 9 (.tmp 7), none⟩,
  ⟨(some 25), .call (.func 122) [(.tmp 24)], none⟩,
  ⟨(some 26), .mov (.tmp 0), none⟩,
  ⟨(some 27), .mov (.tmp 8), none⟩,
  ⟨(some 28), .call (.func 123) [(.tmp 26), (.tmp 27)], none⟩,
  ⟨none, .store 9 (.tmp 4) (.tmp 25), none⟩,
  ⟨(some 5), .mov (.tmp 28), none⟩])
  .ret)))) }
theorem c82 : compFunc Tryz.prog mts Tryz.f82 = some a82 := by kernel_rfl
def a83 : AFunc := { ntmps := 52, results := [.cellN 4 9, .tmp 5], body := (.seq (.ops [⟨(some 2), .box 146 (.tmp 0), none⟩,
  ⟨(some 4), .alloc 146 [(.int .i64 0), (.string ⟨#[]⟩), (.string ⟨#[]⟩), (.int .u32 0), (.slice none 0 0), (.int .i64 0), (.slice none 0 0), (.int .i64 0), (.int .i64 0)], none⟩,
  ⟨(some 5), .mov (.const (.int .i64 0)), none⟩])
  (.seq (.ops [⟨(some 12), .loadN 9 (.tmp 2), none⟩,
  ⟨(some 13), .call (.func 122) [(.tmp 12)], none⟩,
  ⟨none, .store 9 (.tmp 2) (.tmp 13), none⟩])
  (.seq (.ops [⟨(some 15), .fieldAddr 5 (.tmp 2), none⟩,
  ⟨(some 16), .load1 (.tmp 15), none⟩,
  ⟨(some 17), .mov (.tmp 1), none⟩,
  ⟨(some 18), .call (.func 86) [(.tmp 16), (.tmp 17)], none⟩,
  ⟨(some 14), .mov (.tmp 18), none⟩,
  ⟨(some 19), .extract (.tmp 14) 0, none⟩,
  ⟨(some 20), .extract (.tmp 14) 1, none⟩,
  ⟨(some 6), .mov (.tmp 19), none⟩,
  ⟨(some 7), .mov (.tmp 20), none⟩])
  (.seq (.ops [⟨(some 21), .mov (.tmp 6), none⟩,
  ⟨(some 22), .fieldAddr 5 (.tmp 2), none⟩,
  ⟨none, .store 1 (.tmp 22) (.tmp 21), none⟩])
  (.seq (.seq (.ops [⟨(some 23), .fieldAddr 4 (.tmp 2), none⟩,
  ⟨(some 24), .load1 (.tmp 23), none⟩,
  ⟨(some 25), .lenSl (.tmp 24), none⟩,
  ⟨(some 26), .mov (.const (.int .i64 0)), none⟩])
  (.block 0 (.loop (.seq (.ops [⟨(some 27), .bin .lss (.prim .int) (.tmp 26) (.tmp 25), none⟩])
  (.seq (.cond (.tmp 27) .skip
  (.exit 0))
  (.seq (.block 1 (.seq (.ops [⟨(some 28), .mov (.tmp 26), none⟩,
  ⟨(some 29), .indexAddrSl 1 (.tmp 24) (.tmp 26), none⟩,
  ⟨(some 30), .load1 (.tmp 29), none⟩,
  ⟨(some 8), .mov (.tmp 28), none⟩,
  ⟨(some 9), .mov (.tmp 30), none⟩])
  (.seq (.ops [⟨(some 32), .mov (.tmp 9), none⟩,
  ⟨(some 33), .mov (.tmp 1), none⟩,
  ⟨(some 34), .call (.func 86) [(.tmp 32), (.tmp 33)], none⟩,
  ⟨(some 31), .mov (.tmp 34), none⟩,
  ⟨(some 35), .extract (.tmp 31) 0, none⟩,
  ⟨(some 36), .extract (.tmp 31) 1, none⟩,
  ⟨(some 10), .mov (.tmp 35), none⟩,
  ⟨(some 11), .mov (.tmp 36), none⟩])
  (.seq (.seq (.ops [⟨(some 37), .mov (.tmp 11), none⟩,
  ⟨(some 38), .bin .neq (.prim .int) (.tmp 37) (.const (.int .i64 0)), none⟩])
  (.cond (.tmp 38) (.ops [⟨(some 39), .mov (.tmp 11), none⟩,
  ⟨(some 7), .mov (.tmp 39), none⟩])
  .skip))
  (.ops [⟨(some 40), .fieldAddr 4 (.tmp 2), none⟩,
  ⟨(some 41), .load1 (.tmp 40), none⟩,
  ⟨(some 42), .mov (.tmp 8), none⟩,
  ⟨(some 43), .mov (.tmp 10), none⟩,
  ⟨(some 44), .indexAddrSl 1 (.tmp 41) (.tmp 42), none⟩,
  ⟨none, .store 1 (.tmp 44) (.tmp 43), none⟩])))))
  (.ops [⟨(some 45), .bin .add (.prim .int) (.tmp 26) (.const (.int .i64 1)), none⟩,
  ⟨(some 26), .mov (.tmp 45), none⟩])))))))
  (.seq (.seq (.ops [⟨(some 46), .mov (.tmp 7), none⟩,
  ⟨(some 47), .bin .neq (.prim .int) (.tmp 46) (.const (.int .i64 0)), none⟩])
  (.cond (.tmp 47) (.seq (.ops [⟨(some 48), .build [(.int .i64 0), (.string ⟨#[]⟩), (.string ⟨#[]⟩), (.int .u32 0), (.slice none 0 0), (.int .i64 0), (.slice none 0 0), (.int .i64 0), (.int .i64 0)] [], none⟩,
  ⟨(some 49), .mov (.tmp 7), none⟩,
  ⟨none, .store 9 (.tmp 4) (.tmp 48), none⟩,
  ⟨(some 5), .mov (.tmp 49), none⟩])
  .ret)
  .skip))
  (.seq (.ops [⟨(some 50), .loadN 9 (.tmp 2), none⟩,
  ⟨(some 51), .mov (.tmp 7), none⟩,
  ⟨none, .store 9 (.tmp 4) (.tmp 50), none⟩,
  ⟨(some 5), .mov (.tmp 51), none⟩])
  .ret))))))) }
theorem c83 : compFunc Tryz.prog mts Tryz.f83 = some a83 := by kernel_rfl
def a84 : AFunc := { ntmps := 27, results := [.tmp 4, .tmp 5], body := (.seq (.ops [⟨(some 3), .box 146 (.tmp 1), none⟩,
  ⟨(some 4), .mov (.const (.int .i64 0)), none⟩,
  ⟨(some 5), .mov (.const (.int .i64 0)), none⟩])
  (.seq (.seq (.ops [⟨(some 8), .mov (.tmp 0), none⟩,
  ⟨(some 9), .call (.func 68) [(.tmp 8)], none⟩,
  ⟨(some 6), .mov (.tmp 9), none⟩])
  (.seq (.ops [⟨(some 10), .mov (.tmp 6), none⟩,
  ⟨(some 11), .bin .neq (.prim .int) (.tmp 10) (.const (.int .i64 0)), none⟩])
  (.cond (.tmp 11) (.seq (.ops [⟨(some 12), .mov (.tmp 6), none⟩,
  ⟨(some 4), .mov (.const (.int .i64 0)), none⟩,
  ⟨(some 5), .mov (.tmp 12), none⟩])
  .ret)
  .skip)))
  (.seq (.seq (.ops [⟨(some 13), .loadN 9 (.tmp 3), none⟩,
  ⟨(some 14), .call (.func 124) [(.tmp 13)], none⟩,
  ⟨(some 7), .mov (.tmp 14), none⟩])
  (.seq (.ops [⟨(some 15), .mov (.tmp 7), none⟩,
  ⟨(some 16), .bin .neq (.prim .int) (.tmp 15) (.const (.int .i64 0)), none⟩])
  (.cond (.tmp 16) (.seq (.ops [⟨(some 17), .mov (.tmp 7), none⟩,
  ⟨(some 4), .mov (.const (.int .i64 0)), none⟩,
  ⟨(some 5), .mov (.tmp 17), none⟩])
  .ret)
  .skip)))
  (.seq (.draw [⟨0, ⟨(some 18), .mov (.tmp 0), none⟩, []⟩,
  ⟨1, ⟨(some 19), .nilCheck (.tmp 18), none⟩, []⟩,
  ⟨2, ⟨(some 20), .fieldAddr 1 (.tmp 19), none⟩, []⟩,
  ⟨3, ⟨(some 21), .load1 (.tmp 20), none⟩, []⟩,
  ⟨4, ⟨(some 22), .loadN 9 (.tmp 3), none⟩, []⟩,
  ⟨5, ⟨(some 23), .call (.func 122) [(.tmp 22)], none⟩, [⟨(some 21), .load1 (.tmp 20), none⟩]⟩,
  ⟨6, ⟨(some 24), .call (.func 125) [(.tmp 21), (.tmp 23)], none⟩, []⟩,
  ⟨7, ⟨(some 25), .extract (.tmp 24) 0, none⟩, []⟩,
  ⟨8, ⟨(some 26), .extract (.tmp 24) 1, none⟩, []⟩,
  ⟨9, ⟨(some 4), .mov (.tmp 25), none⟩, []⟩,
  ⟨10, ⟨(some 5), .mov (.tmp 26), none⟩, []⟩])
  .ret)))) }
theorem c84 : compFunc Tryz.prog mts Tryz.f84 = some a84 := by kernel_rfl
def a86 : AFunc := { ntmps := 26, results := [.tmp 4, .tmp 5], body := (.seq (.ops [⟨(some 4), .mov (.const (.int .i64 0)), none⟩,
  ⟨(some 5), .mov (.const (.int .i64 0)), none⟩])
  (.seq (.ops [⟨(some 9), .mov (.tmp 0), none⟩,
  ⟨(some 10), .call (.func 126) [(.tmp 9)], none⟩,
  ⟨(some 8), .mov (.tmp 10), none⟩,
  ⟨(some 11), .extract (.tmp 8) 0, none⟩,
  ⟨(some 12), .extract (.tmp 8) 1, none⟩,
  ⟨(some 6), .mov (.tmp 11), none⟩,
  ⟨(some 7), .mov (.tmp 12), none⟩])
  (.seq (.block 0 (.seq (.ops [⟨(some 14), .mov (.tmp 7), none⟩,
  ⟨(some 15), .un .not (.tmp 14), none⟩,
  ⟨(some 13), .mov (.tmp 15), none⟩])
  (.cond (.tmp 13) (.seq (.ops [⟨(some 16), .mov (.tmp 0), none⟩,
  ⟨(some 4), .mov (.tmp 16), none⟩,
  ⟨(some 5), .mov (.const (.int .i64 0)), none⟩])
  .ret)
  (.seq (.ops [⟨(some 18), .mov (.tmp 6), none⟩,
  ⟨(some 19), .mov (.tmp 1), none⟩,
  ⟨(some 20), .lenSl (.tmp 19), none⟩,
  ⟨(some 21), .bin .geq (.prim .int) (.tmp 18) (.tmp 20), none⟩,
  ⟨(some 17), .mov (.tmp 21), none⟩])
  (.cond (.tmp 17) (.seq (.ops [⟨(some 4), .mov (.const (.int .i64 0)), none⟩,
  ⟨(some 5), .mov (.const (.int .i64 4)), none⟩])
  .ret)
  .skip)))))
  (.seq (.ops [⟨(some 22), .mov (.tmp 1), none⟩,
  ⟨(some 23), .mov (.tmp 6), none⟩,
  ⟨(some 24), .indexAddrSl 1 (.tmp 22) (.tmp 23), none⟩,
  ⟨(some 25), .load1 (.tmp 24), none⟩,
  ⟨(some 4), .mov (.tmp 25), none⟩,
  ⟨(some 5), .mov (.const (.int .i64 0)), none⟩])
  .ret)))) }
theorem c86 : compFunc Tryz.prog mts Tryz.f86 = some a86 := by kernel_rfl
def a87 : AFunc := { ntmps := 26, results := [.tmp 8, .tmp 9], body := (.seq (.ops [⟨(some 6), .box 75 (.tmp 2), none⟩,
  ⟨(some 7), .box 75 (.tmp 3), none⟩,
  ⟨(some 8), .mov (.const (.bool false)), none⟩,
  ⟨(some 9), .mov (.const (.int .i64 0)), none⟩])
  (.seq (.seq (.ops [⟨(some 11), .mov (.tmp 0), none⟩,
  ⟨(some 12), .call (.func 68) [(.tmp 11)], none⟩,
  ⟨(some 10), .mov (.tmp 12), none⟩])
  (.seq (.ops [⟨(some 13), .mov (.tmp 10), none⟩,
  ⟨(some 14), .bin .neq (.prim .int) (.tmp 13) (.const (.int .i64 0)), none⟩])
  (.cond (.tmp 14) (.seq (.ops [⟨(some 15), .mov (.tmp 10), none⟩,
  ⟨(some 8), .mov (.const (.bool false)), none⟩,
  ⟨(some 9), .mov (.tmp 15), none⟩])
  .ret)
  .skip)))
  (.seq (.draw [⟨0, ⟨(some 16), .mov (.tmp 0), none⟩, []⟩,
  ⟨1, ⟨(some 17), .nilCheck (.tmp 16), none⟩, []⟩,
  ⟨2, ⟨(some 18), .fieldAddr 0 (.tmp 17), none⟩, []⟩,
  ⟨3, ⟨(some 19), .load1 (.tmp 18), none⟩, []⟩,
  ⟨4, ⟨(some 20), .mov (.tmp 1), none⟩, []⟩,
  ⟨5, ⟨(some 21), .loadN 3 (.tmp 6), none⟩, []⟩,
  ⟨6, ⟨(some 22), .loadN 3 (.tmp 7), none⟩, []⟩,
  ⟨7, ⟨(some 23), .call (.func 127) [(.tmp 19), (.tmp 20), (.tmp 21), (.tmp 22)], none⟩, []⟩,
  ⟨8, ⟨(some 24), .extract (.tmp 23) 0, none⟩, []⟩,
  ⟨9, ⟨(some 25), .extract (.tmp 23) 1, none⟩, []⟩,
  ⟨10, ⟨(some 8), .mov (.tmp 24), none⟩, []⟩,
  ⟨11, ⟨(some 9), .mov (.tmp 25), none⟩, []⟩])
  .ret))) }
theorem c87 : compFunc Tryz.prog mts Tryz.f87 = some a87 := by kernel_rfl
def a89 : AFunc := { ntmps := 30, results := [.tmp 6], body := (.seq (.ops [⟨(some 6), .mov (.const (.int .i64 0)), none⟩])
  (.seq (.ops [⟨(some 8), .mov (.tmp 0), none⟩,
  ⟨(some 9), .mov (.tmp 1), none⟩,
  ⟨(some 10), .call (.func 129) [(.tmp 8), (.tmp 9)], none⟩,
  ⟨(some 7), .mov (.tmp 10), none⟩])
  (.seq (.seq (.ops [⟨(some 11), .mov (.tmp 7), none⟩,
  ⟨(some 12), .bin .eql (.prim .int) (.tmp 11) (.const (.int .i64 0)), none⟩])
  (.cond (.tmp 12) (.draw [⟨0, ⟨(some 13), .mov (.tmp 0), none⟩, []⟩,
  ⟨1, ⟨(some 14), .nilCheck (.tmp 13), none⟩, []⟩,
  ⟨2, ⟨(some 15), .fieldAddr 0 (.tmp 14), none⟩, []⟩,
  ⟨3, ⟨(some 16), .load1 (.tmp 15), none⟩, []⟩,
  ⟨4, ⟨(some 17), .mov (.tmp 1), none⟩, []⟩,
  ⟨5, ⟨(some 18), .mov (.tmp 0), none⟩, []⟩,
  ⟨6, ⟨(some 19), .nilCheck (.tmp 18), none⟩, []⟩,
  ⟨7, ⟨(some 20), .fieldAddr 0 (.tmp 19), none⟩, []⟩,
  ⟨8, ⟨(some 21), .load1 (.tmp 20), none⟩, []⟩,
  ⟨9, ⟨(some 22), .mov (.tmp 1), none⟩, []⟩,
  ⟨10, ⟨(some 23), .indexAddrSl 1 (.tmp 21) (.tmp 22), none⟩, []⟩,
  ⟨11, ⟨(some 24), .load1 (.tmp 23), none⟩, []⟩,
  ⟨12, ⟨(some 25), .mov (.tmp 2), none⟩, []⟩,
  ⟨13, ⟨(some 26), .call (.func 130) [(.tmp 25)], none⟩, [⟨(some 16), .load1 (.tmp 15), none⟩, ⟨(some 21), .load1 (.tmp 20), none⟩, ⟨(some 24), .load1 (.tmp 23), none⟩]⟩,
  ⟨14, ⟨(some 27), .append 159 3 40 (.tmp 24) (.tmp 26), none⟩, [⟨(some 16), .load1 (.tmp 15), none⟩]⟩,
  ⟨15, ⟨(some 28), .indexAddrSl 1 (.tmp 16) (.tmp 17), none⟩, []⟩,
  ⟨16, ⟨none, .store 1 (.tmp 28) (.tmp 27), none⟩, []⟩])
  .skip))
  (.seq (.ops [⟨(some 29), .mov (.tmp 7), none⟩,
  ⟨(some 6), .mov (.tmp 29), none⟩])
  .ret)))) }
theorem c89 : compFunc Tryz.prog mts Tryz.f89 = some a89 := by kernel_rfl
def a90 : AFunc := { ntmps := 43, results := [.tmp 4], body := (.seq (.ops [⟨(some 2), .box 34 (.tmp 0), none⟩,
  ⟨(some 3), .box 23 (.tmp 1), none⟩,
  ⟨(some 4), .mov (.const (.int .i64 0)), none⟩])
  (.seq (.ops [⟨(some 6), .loadN 5 (.tmp 3), none⟩,
  ⟨(some 7), .call (.func 42) [(.tmp 6)], none⟩,
  ⟨(some 5), .alloc 23 [(.int .i64 0), (.string ⟨#[]⟩), (.string ⟨#[]⟩), (.string ⟨#[]⟩), (.int .i64 0)], none⟩,
  ⟨none, .store 5 (.tmp 5) (.tmp 7), none⟩])
  (.seq (.block 0 (.seq (.ops [⟨(some 9), .fieldAddr 0 (.tmp 3), none⟩,
  ⟨(some 10), .load1 (.tmp 9), none⟩,
  ⟨(some 11), .call (.func 91) [(.tmp 10)], none⟩,
  ⟨(some 12), .un .not (.tmp 11), none⟩,
  ⟨(some 8), .mov (.tmp 12), none⟩])
  (.cond (.tmp 8) (.seq (.ops [⟨(some 4), .mov (.const (.int .i64 11)), none⟩])
  .ret)
  (.seq (.ops [⟨(some 14), .fieldAddr 0 (.tmp 3), none⟩,
  ⟨(some 15), .load1 (.tmp 14), none⟩,
  ⟨(some 16), .bin .eql (.prim .int) (.tmp 15) (.const (.int .i64 6)), none⟩,
  ⟨(some 17), .mov (.tmp 16), none⟩,
  ⟨(some 18), .fieldAddr 0 (.tmp 2), (some (17, true))⟩,
  ⟨(some 19), .load1 (.tmp 18), (some (17, true))⟩,
  ⟨(some 20), .bin .neq (.prim .int) (.tmp 19) (.const (.int .i64 2)), (some (17, true))⟩,
  ⟨(some 21), .pick (.tmp 17) (.tmp 20) (.const (.bool false)), none⟩,
  ⟨(some 13), .mov (.tmp 21), none⟩])
  (.cond (.tmp 13) (.seq (.ops [⟨(some 4), .mov (.const (.int .i64 2)), none⟩])
  .ret)
  (.seq (.ops [⟨(some 23), .fieldAddr 1 (.tmp 5), none⟩,
  ⟨(some 24), .load1 (.tmp 23), none⟩,
  ⟨(some 25), .lenStr (.tmp 24), none⟩,
  ⟨(some 26), .bin .gtr (.prim .int) (.tmp 25) (.const (.int .i64 16)), none⟩,
  ⟨(some 27), .mov (.tmp 26), none⟩,
  ⟨(some 28), .fieldAddr 2 (.tmp 5), (some (27, false))⟩,
  ⟨(some 29), .load1 (.tmp 28), (some (27, false))⟩,
  ⟨(some 30), .lenStr (.tmp 29), (some (27, false))⟩,
  ⟨(some 31), .bin .gtr (.prim .int) (.tmp 30) (.const (.int .i64 16)), (some (27, false))⟩,
  ⟨(some 32), .pick (.tmp 27) (.const (.bool true)) (.tmp 31), none⟩,
  ⟨(some 33), .mov (.tmp 32), none⟩,
  ⟨(some 34), .fieldAddr 3 (.tmp 5), (some (33, false))⟩,
  ⟨(some 35), .load1 (.tmp 34), (some (33, false))⟩,
  ⟨(some 36), .lenStr (.tmp 35), (some (33, false))⟩,
  ⟨(some 37), .bin .gtr (.prim .int) (.tmp 36) (.const (.int .i64 16)), (some (33, false))⟩,
  ⟨(some 38), .pick (.tmp 33) (.const (.bool true)) (.tmp 37), none⟩,
  ⟨(some 22), .mov (.tmp 38), none⟩])
  (.cond (.tmp 22) (.seq (.ops [⟨(some 4), .mov (.const (.int .i64 6)), none⟩])
  .ret)
  (.seq (.ops [⟨(some 40), .fieldAddr 4 (.tmp 5), none⟩,
  ⟨(some 41), .load1 (.tmp 40), none⟩,
  ⟨(some 42), .bin .lss (.prim .int) (.tmp 41) (.const (.int .i64 0)), none⟩,
  ⟨(some 39), .mov (.tmp 42), none⟩])
  (.cond (.tmp 39) (.seq (.ops [⟨(some 4), .mov (.const (.int .i64 10)), none⟩])
  .ret)
  .skip)))))))))
  (.seq (.ops [⟨(some 4), .mov (.const (.int .i64 0)), none⟩])
  .ret)))) }
theorem c90 : compFunc Tryz.prog mts Tryz.f90 = some a90 := by kernel_rfl
def a91 : AFunc := { ntmps := 9, results := [.tmp 2], body := (.seq (.ops [⟨(some 2), .mov (.const (.bool false)), none⟩])
  (.seq (.ops [⟨(some 3), .mov (.tmp 0), none⟩,
  ⟨(some 4), .bin .geq (.prim .int) (.tmp 3) (.const (.int .i64 1)), none⟩,
  ⟨(some 5), .mov (.tmp 4), none⟩,
  ⟨(some 6), .mov (.tmp 0), (some (5, true))⟩,
  ⟨(some 7), .bin .leq (.prim .int) (.tmp 6) (.const (.int .i64 13)), (some (5, true))⟩,
  ⟨(some 8), .pick (.tmp 5) (.tmp 7) (.const (.bool false)), none⟩,
  ⟨(some 2), .mov (.tmp 8), none⟩])
  .ret)) }
theorem c91 : compFunc Tryz.prog mts Tryz.f91 = some a91 := by kernel_rfl
def a92 : AFunc := { ntmps := 15, results := [.tmp 6], body := (.seq (.ops [⟨(some 6), .mov (.const (.bool false)), none⟩])
  (.seq (.ops [⟨(some 7), .mov (.tmp 0), none⟩,
  ⟨(some 8), .mov (.tmp 1), none⟩,
  ⟨(some 9), .bin .geq (.prim .int) (.tmp 7) (.tmp 8), none⟩,
  ⟨(some 10), .mov (.tmp 9), none⟩,
  ⟨(some 11), .mov (.tmp 0), (some (10, true))⟩,
  ⟨(some 12), .mov (.tmp 2), (some (10, true))⟩,
  ⟨(some 13), .bin .leq (.prim .int) (.tmp 11) (.tmp 12), (some (10, true))⟩,
  ⟨(some 14), .pick (.tmp 10) (.tmp 13) (.const (.bool false)), none⟩,
  ⟨(some 6), .mov (.tmp 14), none⟩])
  .ret)) }
theorem c92 : compFunc Tryz.prog mts Tryz.f92 = some a92 := by kernel_rfl
def a94 : AFunc := { ntmps := 12, results := [.tmp 2], body := (.seq (.ops [⟨(some 2), .mov (.const (.bool false)), none⟩])
  (.seq (.ops [⟨(some 3), .mov (.tmp 0), none⟩,
  ⟨(some 4), .bin .neq .ptr (.tmp 3) (.const (.pointer none)), none⟩,
  ⟨(some 5), .mov (.tmp 4), none⟩,
  ⟨(some 6), .mov (.tmp 0), (some (5, true))⟩,
  ⟨(some 7), .nilCheck (.tmp 6), (some (5, true))⟩,
  ⟨(some 8), .fieldAddr 1 (.tmp 7), (some (5, true))⟩,
  ⟨(some 9), .load1 (.tmp 8), (some (5, true))⟩,
  ⟨(some 10), .bin .neq .ptr (.tmp 9) (.const (.pointer none)), (some (5, true))⟩,
  ⟨(some 11), .pick (.tmp 5) (.tmp 10) (.const (.bool false)), none⟩,
  ⟨(some 2), .mov (.tmp 11), none⟩])
  .ret)) }
theorem c94 : compFunc Tryz.prog mts Tryz.f94 = some a94 := by kernel_rfl
def a96 : AFunc := { ntmps := 14, results := [.tmp 2, .tmp 3], body := (.seq (.ops [⟨(some 2), .mov (.const (.pointer none)), none⟩,
  ⟨(some 3), .mov (.const (.int .i64 0)), none⟩])
  (.seq (.seq (.ops [⟨(some 4), .mov (.tmp 0), none⟩,
  ⟨(some 5), .bin .lss (.prim .int) (.tmp 4) (.const (.int .i64 0)), none⟩,
  ⟨(some 6), .mov (.tmp 5), none⟩,
  ⟨(some 7), .mov (.tmp 0), (some (6, false))⟩,
  ⟨(some 8), .bin .gtr (.prim .int) (.tmp 7) (.const (.int .i64 1000)), (some (6, false))⟩,
  ⟨(some 9), .pick (.tmp 6) (.const (.bool true)) (.tmp 8), none⟩])
  (.cond (.tmp 9) (.seq (.ops [⟨(some 2), .mov (.const (.pointer none)), none⟩,
  ⟨(some 3), .mov (.const (.int .i64 2)), none⟩])
  .ret)
  .skip))
  (.seq (.ops [⟨(some 10), .mov (.tmp 0), none⟩,
  ⟨(some 11), .makeSlice 274 11 136 [(.int .i64 0), (.string ⟨#[]⟩), (.string ⟨#[]⟩), (.int .u32 0), (.slice none 0 0), (.int .i64 0), (.slice none 0 0), (.int .i64 0), (.int .i64 0), (.int .i64 0), (.bool false)] (.tmp 10) (.tmp 10), none⟩,
  ⟨(some 12), .build [(.slice none 0 0), (.slice none 0 0), (.int .i64 0), (.int .i64 0), (.bool false)] [(0, 1, (.tmp 11)), (4, 1, (.const (.bool true)))], none⟩,
  ⟨(some 13), .box 235 (.tmp 12), none⟩,
  ⟨(some 2), .mov (.tmp 13), none⟩,
  ⟨(some 3), .mov (.const (.int .i64 0)), none⟩])
  .ret))) }
theorem c96 : compFunc Tryz.prog mts Tryz.f96 = some a96 := by kernel_rfl
def a97 : AFunc := { ntmps := 14, results := [.tmp 2, .tmp 3], body := (.seq (.ops [⟨(some 2), .mov (.const (.pointer none)), none⟩,
  ⟨(some 3), .mov (.const (.int .i64 0)), none⟩])
  (.seq (.seq (.ops [⟨(some 4), .mov (.tmp 0), none⟩,
  ⟨(some 5), .bin .lss (.prim .int) (.tmp 4) (.const (.int .i64 0)), none⟩,
  ⟨(some 6), .mov (.tmp 5), none⟩,
  ⟨(some 7), .mov (.tmp 0), (some (6, false))⟩,
  ⟨(some 8), .bin .gtr (.prim .int) (.tmp 7) (.const (.int .i64 200)), (some (6, false))⟩,
  ⟨(some 9), .pick (.tmp 6) (.const (.bool true)) (.tmp 8), none⟩])
  (.cond (.tmp 9) (.seq (.ops [⟨(some 2), .mov (.const (.pointer none)), none⟩,
  ⟨(some 3), .mov (.const (.int .i64 2)), none⟩])
  .ret)
  .skip))
  (.seq (.ops [⟨(some 10), .mov (.tmp 0), none⟩,
  ⟨(some 11), .makeSlice 75 3 24 [(.int .i64 0), (.int .i64 0), (.int .i64 0)] (.tmp 10) (.tmp 10), none⟩,
  ⟨(some 12), .build [(.slice none 0 0), (.int .i64 0), (.bool false)] [(0, 1, (.tmp 11)), (2, 1, (.const (.bool true)))], none⟩,
  ⟨(some 13), .box 238 (.tmp 12), none⟩,
  ⟨(some 2), .mov (.tmp 13), none⟩,
  ⟨(some 3), .mov (.const (.int .i64 0)), none⟩])
  .ret))) }
theorem c97 : compFunc Tryz.prog mts Tryz.f97 = some a97 := by kernel_rfl
def a100 : AFunc := { ntmps := 9, results := [.tmp 2], body := (.seq (.ops [⟨(some 2), .mov (.const (.bool false)), none⟩])
  (.seq (.ops [⟨(some 3), .mov (.tmp 0), none⟩,
  ⟨(some 4), .bin .geq (.prim .int) (.tmp 3) (.const (.int .i64 1)), none⟩,
  ⟨(some 5), .mov (.tmp 4), none⟩,
  ⟨(some 6), .mov (.tmp 0), (some (5, true))⟩,
  ⟨(some 7), .bin .leq (.prim .int) (.tmp 6) (.const (.int .i64 16)), (some (5, true))⟩,
  ⟨(some 8), .pick (.tmp 5) (.tmp 7) (.const (.bool false)), none⟩,
  ⟨(some 2), .mov (.tmp 8), none⟩])
  .ret)) }
theorem c100 : compFunc Tryz.prog mts Tryz.f100 = some a100 := by kernel_rfl
def a101 : AFunc := { ntmps := 35, results := [.cellN 8 3, .tmp 9], body := (.seq (.ops [⟨(some 8), .alloc 75 [(.int .i64 0), (.int .i64 0), (.int .i64 0)], none⟩,
  ⟨(some 9), .mov (.const (.int .i64 0)), none⟩])
  (.seq (.block 0 (.seq (.ops [⟨(some 11), .mov (.tmp 1), none⟩,
  ⟨(some 12), .bin .lss (.prim .int) (.tmp 11) (.const (.int .i64 (-16))), none⟩,
  ⟨(some 10), .mov (.tmp 12), none⟩])
  (.cond (.tmp 10) .skip
  (.seq (.ops [⟨(some 14), .mov (.tmp 0), none⟩,
  ⟨(some 15), .bin .eql (.prim .int) (.tmp 14) (.const (.int .i64 1)), none⟩,
  ⟨(some 13), .mov (.tmp 15), none⟩])
  (.cond (.tmp 13) (.seq (.ops [⟨(some 16), .mov (.tmp 1), none⟩,
  ⟨(some 17), .build [(.int .i64 0), (.int .i64 0), (.int .i64 0)] [(1, 1, (.const (.int .i64 (-1)))), (2, 1, (.tmp 16))], none⟩,
  ⟨none, .store 3 (.tmp 8) (.tmp 17), none⟩,
  ⟨(some 9), .mov (.const (.int .i64 0)), none⟩])
  .ret)
  (.seq (.ops [⟨(some 19), .mov (.tmp 0), none⟩,
  ⟨(some 20), .bin .eql (.prim .int) (.tmp 19) (.const (.int .i64 2)), none⟩,
  ⟨(some 18), .mov (.tmp 20), none⟩])
  (.cond (.tmp 18) (.seq (.ops [⟨(some 21), .mov (.tmp 1), none⟩,
  ⟨(some 22), .build [(.int .i64 0), (.int .i64 0), (.int .i64 0)] [(1, 1, (.const (.int .i64 (-2)))), (2, 1, (.tmp 21))], none⟩,
  ⟨none, .store 3 (.tmp 8) (.tmp 22), none⟩,
  ⟨(some 9), .mov (.const (.int .i64 0)), none⟩])
  .ret)
  (.seq (.ops [⟨(some 24), .mov (.tmp 0), none⟩,
  ⟨(some 25), .bin .eql (.prim .int) (.tmp 24) (.const (.int .i64 3)), none⟩,
  ⟨(some 26), .mov (.tmp 25), none⟩,
  ⟨(some 27), .mov (.tmp 3), (some (26, true))⟩,
  ⟨(some 28), .bin .geq (.prim .int) (.tmp 27) (.const (.int .i64 0)), (some (26, true))⟩,
  ⟨(some 29), .pick (.tmp 26) (.tmp 28) (.const (.bool false)), none⟩,
  ⟨(some 23), .mov (.tmp 29), none⟩])
  (.cond (.tmp 23) (.seq (.ops [⟨(some 30), .mov (.tmp 2), none⟩,
  ⟨(some 31), .mov (.tmp 3), none⟩,
  ⟨(some 32), .mov (.tmp 1), none⟩,
  ⟨(some 33), .build [(.int .i64 0), (.int .i64 0), (.int .i64 0)] [(0, 1, (.tmp 30)), (1, 1, (.tmp 31)), (2, 1, (.tmp 32))], none⟩,
  ⟨none, .store 3 (.tmp 8) (.tmp 33), none⟩,
  ⟨(some 9), .mov (.const (.int .i64 0)), none⟩])
  .ret)
  .skip)))))))))
  (.seq (.ops [⟨(some 34), .build [(.int .i64 0), (.int .i64 0), (.int .i64 0)] [], none⟩,
  ⟨none, .store 3 (.tmp 8) (.tmp 34), none⟩,
  ⟨(some 9), .mov (.const (.int .i64 2)), none⟩])
  .ret))) }
theorem c101 : compFunc Tryz.prog mts Tryz.f101 = some a101 := by kernel_rfl
def a112 : AFunc := { ntmps := 27, results := [.tmp 4], body := (.seq (.ops [⟨(some 4), .mov (.const (.int .i64 0)), none⟩])
  (.seq (.block 0 (.seq (.ops [⟨(some 6), .mov (.tmp 0), none⟩,
  ⟨(some 7), .bin .eql .ptr (.tmp 6) (.const (.pointer none)), none⟩,
  ⟨(some 8), .mov (.tmp 7), none⟩,
  ⟨(some 9), .mov (.tmp 0), (some (8, false))⟩,
  ⟨(some 10), .nilCheck (.tmp 9), (some (8, false))⟩,
  ⟨(some 11), .fieldAddr 2 (.tmp 10), (some (8, false))⟩,
  ⟨(some 12), .load1 (.tmp 11), (some (8, false))⟩,
  ⟨(some 13), .un .not (.tmp 12), (some (8, false))⟩,
  ⟨(some 14), .pick (.tmp 8) (.const (.bool true)) (.tmp 13), none⟩,
  ⟨(some 5), .mov (.tmp 14), none⟩])
  (.cond (.tmp 5) (.seq (.ops [⟨(some 4), .mov (.const (.int .i64 4)), none⟩])
  .ret)
  (.seq (.ops [⟨(some 16), .mov (.tmp 0), none⟩,
  ⟨(some 17), .mov (.tmp 1), none⟩,
  ⟨(some 18), .call (.func 152) [(.tmp 16), (.tmp 17)], none⟩,
  ⟨(some 19), .un .not (.tmp 18), none⟩,
  ⟨(some 15), .mov (.tmp 19), none⟩])
  (.cond (.tmp 15) (.seq (.ops [⟨(some 4), .mov (.const (.int .i64 2)), none⟩])
  .ret)
  .skip)))))
  (.seq (.ops [⟨(some 20), .mov (.tmp 0), none⟩,
  ⟨(some 21), .nilCheck (.tmp 20), none⟩,
  ⟨(some 22), .fieldAddr 1 (.tmp 21), none⟩,
  ⟨(some 23), .load1 (.tmp 22), none⟩,
  ⟨(some 24), .bin .add (.prim .int) (.tmp 23) (.const (.int .i64 1)), none⟩,
  ⟨(some 25), .nilCheck (.tmp 20), none⟩,
  ⟨(some 26), .fieldAddr 1 (.tmp 25), none⟩,
  ⟨none, .store 1 (.tmp 26) (.tmp 24), none⟩])
  (.seq (.ops [⟨(some 4), .mov (.const (.int .i64 0)), none⟩])
  .ret)))) }
theorem c112 : compFunc Tryz.prog mts Tryz.f112 = some a112 := by kernel_rfl
def a113 : AFunc := { ntmps := 17, results := [.cellN 4 3], body := (.seq (.ops [⟨(some 4), .alloc 75 [(.int .i64 0), (.int .i64 0), (.int .i64 0)], none⟩])
  (.seq (.seq (.ops [⟨(some 5), .mov (.tmp 0), none⟩,
  ⟨(some 6), .mov (.tmp 1), none⟩,
  ⟨(some 7), .call (.func 152) [(.tmp 5), (.tmp 6)], none⟩,
  ⟨(some 8), .un .not (.tmp 7), none⟩])
  (.cond (.tmp 8) (.seq (.ops [⟨(some 9), .build [(.int .i64 0), (.int .i64 0), (.int .i64 0)] [], none⟩,
  ⟨none, .store 3 (.tmp 4) (.tmp 9), none⟩])
  .ret)
  .skip))
  (.seq (.ops [⟨(some 10), .mov (.tmp 0), none⟩,
  ⟨(some 11), .nilCheck (.tmp 10), none⟩,
  ⟨(some 12), .fieldAddr 0 (.tmp 11), none⟩,
  ⟨(some 13), .load1 (.tmp 12), none⟩,
  ⟨(some 14), .mov (.tmp 1), none⟩,
  ⟨(some 15), .indexAddrSl 3 (.tmp 13) (.tmp 14), none⟩,
  ⟨(some 16), .loadN 3 (.tmp 15), none⟩,
  ⟨none, .store 3 (.tmp 4) (.tmp 16), none⟩])
  .ret))) }
theorem c113 : compFunc Tryz.prog mts Tryz.f113 = some a113 := by kernel_rfl
def a114 : AFunc := { ntmps := 33, results := [.cellN 6 3, .tmp 7], body := (.seq (.ops [⟨(some 5), .box 75 (.tmp 2), none⟩,
  ⟨(some 6), .alloc 75 [(.int .i64 0), (.int .i64 0), (.int .i64 0)], none⟩,
  ⟨(some 7), .mov (.const (.int .i64 0)), none⟩])
  (.seq (.ops [⟨(some 10), .mov (.tmp 0), none⟩,
  ⟨(some 11), .mov (.tmp 1), none⟩,
  ⟨(some 12), .call (.func 112) [(.tmp 10), (.tmp 11)], none⟩,
  ⟨(some 8), .mov (.tmp 12), none⟩])
  (.seq (.seq (.ops [⟨(some 13), .mov (.tmp 8), none⟩,
  ⟨(some 14), .bin .neq (.prim .int) (.tmp 13) (.const (.int .i64 0)), none⟩])
  (.cond (.tmp 14) (.seq (.ops [⟨(some 15), .build [(.int .i64 0), (.int .i64 0), (.int .i64 0)] [], none⟩,
  ⟨(some 16), .mov (.tmp 8), none⟩,
  ⟨none, .store 3 (.tmp 6) (.tmp 15), none⟩,
  ⟨(some 7), .mov (.tmp 16), none⟩])
  .ret)
  .skip))
  (.seq (.ops [⟨(some 17), .mov (.tmp 0), none⟩,
  ⟨(some 18), .nilCheck (.tmp 17), none⟩,
  ⟨(some 19), .fieldAddr 0 (.tmp 18), none⟩,
  ⟨(some 20), .load1 (.tmp 19), none⟩,
  ⟨(some 21), .mov (.tmp 1), none⟩,
  ⟨(some 22), .indexAddrSl 3 (.tmp 20) (.tmp 21), none⟩,
  ⟨(some 23), .loadN 3 (.tmp 22), none⟩,
  ⟨(some 9), .alloc 75 [(.int .i64 0), (.int .i64 0), (.int .i64 0)], none⟩,
  ⟨none, .store 3 (.tmp 9) (.tmp 23), none⟩])
  (.seq (.draw [⟨0, ⟨(some 24), .mov (.tmp 0), none⟩, []⟩,
  ⟨1, ⟨(some 25), .nilCheck (.tmp 24), none⟩, []⟩,
  ⟨2, ⟨(some 26), .fieldAddr 0 (.tmp 25), none⟩, []⟩,
  ⟨3, ⟨(some 27), .load1 (.tmp 26), none⟩, []⟩,
  ⟨4, ⟨(some 28), .mov (.tmp 1), none⟩, []⟩,
  ⟨5, ⟨(some 29), .loadN 3 (.tmp 5), none⟩, []⟩,
  ⟨6, ⟨(some 30), .indexAddrSl 3 (.tmp 27) (.tmp 28), none⟩, []⟩,
  ⟨7, ⟨none, .store 3 (.tmp 30) (.tmp 29), none⟩, []⟩])
  (.seq (.ops [⟨(some 31), .loadN 3 (.tmp 9), none⟩,
  ⟨(some 32), .mov (.tmp 8), none⟩,
  ⟨none, .store 3 (.tmp 6) (.tmp 31), none⟩,
  ⟨(some 7), .mov (.tmp 32), none⟩])
  .ret)))))) }
theorem c114 : compFunc Tryz.prog mts Tryz.f114 = some a114 := by kernel_rfl
def a117 : AFunc := { ntmps := 15, results := [.cellN 1 5, .cellN 2 3, .tmp 3], body := (.seq (.ops [⟨(some 1), .alloc 27 [(.int .i64 0), (.bool false), (.string ⟨#[]⟩), (.string ⟨#[]⟩), (.int .i64 0)], none⟩,
  ⟨(some 2), .alloc 83 [(.slice none 0 0), (.int .i64 0), (.slice none 0 0)], none⟩,
  ⟨(some 3), .mov (.const (.bool false)), none⟩])
  (.seq (.ops [⟨(some 7), .load1 (.tmp 0), none⟩,
  ⟨(some 8), .call (.func 118) [(.tmp 7)], none⟩,
  ⟨(some 6), .mov (.tmp 8), none⟩,
  ⟨(some 9), .extract (.tmp 6) 0, none⟩,
  ⟨(some 10), .extract (.tmp 6) 1, none⟩,
  ⟨(some 4), .mov (.tmp 9), none⟩,
  ⟨(some 5), .mov (.tmp 10), none⟩])
  (.seq (.ops [⟨(some 11), .mov (.tmp 5), none⟩,
  ⟨(some 12), .mov (.tmp 4), none⟩,
  ⟨(some 13), .build [(.int .i64 0), (.bool false), (.string ⟨#[]⟩), (.string ⟨#[]⟩), (.int .i64 0)] [(1, 1, (.tmp 11)), (3, 1, (.tmp 12))], none⟩,
  ⟨(some 14), .build [(.slice none 0 0), (.int .i64 0), (.slice none 0 0)] [], none⟩,
  ⟨none, .store 5 (.tmp 1) (.tmp 13), none⟩,
  ⟨none, .store 3 (.tmp 2) (.tmp 14), none⟩,
  ⟨(some 3), .mov (.const (.bool false)), none⟩])
  .ret))) }
theorem c117 : compFunc Tryz.prog mts Tryz.f117 = some a117 := by kernel_rfl
def a118 : AFunc := { ntmps := 21, results := [.tmp 2, .tmp 3], body := (.seq (.ops [⟨(some 2), .mov (.const (.string ⟨#[]⟩)), none⟩,
  ⟨(some 3), .mov (.const (.bool false)), none⟩])
  (.seq (.seq (.ops [⟨(some 4), .mov (.tmp 0), none⟩,
  ⟨(some 5), .bin .eql .ptr (.tmp 4) (.const (.pointer none)), none⟩,
  ⟨(some 6), .mov (.tmp 5), none⟩,
  ⟨(some 7), .mov (.tmp 0), (some (6, false))⟩,
  ⟨(some 8), .nilCheck (.tmp 7), (some (6, false))⟩,
  ⟨(some 9), .fieldAddr 4 (.tmp 8), (some (6, false))⟩,
  ⟨(some 10), .load1 (.tmp 9), (some (6, false))⟩,
  ⟨(some 11), .bin .neq (.prim .int) (.tmp 10) (.const (.int .i64 0)), (some (6, false))⟩,
  ⟨(some 12), .pick (.tmp 6) (.const (.bool true)) (.tmp 11), none⟩])
  (.cond (.tmp 12) (.seq (.ops [⟨(some 2), .mov (.const (.string ⟨#[]⟩)), none⟩,
  ⟨(some 3), .mov (.const (.bool false)), none⟩])
  .ret)
  .skip))
  (.seq (.draw [⟨0, ⟨(some 13), .mov (.tmp 0), none⟩, []⟩,
  ⟨1, ⟨(some 14), .nilCheck (.tmp 13), none⟩, []⟩,
  ⟨2, ⟨(some 15), .fieldAddr 5 (.tmp 14), none⟩, []⟩,
  ⟨3, ⟨(some 16), .load1 (.tmp 15), none⟩, []⟩,
  ⟨4, ⟨(some 17), .mov (.tmp 0), none⟩, []⟩,
  ⟨5, ⟨(some 18), .nilCheck (.tmp 17), none⟩, []⟩,
  ⟨6, ⟨(some 19), .fieldAddr 6 (.tmp 18), none⟩, []⟩,
  ⟨7, ⟨(some 20), .load1 (.tmp 19), none⟩, []⟩,
  ⟨8, ⟨(some 2), .mov (.tmp 16), none⟩, []⟩,
  ⟨9, ⟨(some 3), .mov (.tmp 20), none⟩, []⟩])
  .ret))) }
theorem c118 : compFunc Tryz.prog mts Tryz.f118 = some a118 := by kernel_rfl
def a119 : AFunc := { ntmps := 24, results := [.tmp 4], body := (.seq (.ops [⟨(some 4), .mov (.const (.int .u64 0)), none⟩])
  (.seq (.ops [⟨(some 5), .mov (.const (.int .u64 14695981039346656037)), none⟩])
  (.seq (.seq (.ops [⟨(some 7), .mov (.tmp 0), none⟩,
  ⟨(some 8), .lenStr (.tmp 7), none⟩,
  ⟨(some 9), .mov (.const (.int .i64 0)), none⟩])
  (.block 0 (.loop (.seq (.ops [⟨(some 10), .bin .lss (.prim .int) (.tmp 9) (.tmp 8), none⟩])
  (.seq (.cond (.tmp 10) .skip
  (.exit 0))
  (.seq (.block 1 (.seq (.ops [⟨(some 11), .mov (.tmp 9), none⟩,
  ⟨(some 6), .mov (.tmp 11), none⟩])
  (.seq (.ops [⟨(some 12), .mov (.tmp 5), none⟩,
  ⟨(some 13), .mov (.tmp 0), none⟩,
  ⟨(some 14), .mov (.tmp 6), none⟩,
  ⟨(some 15), .indexStr (.tmp 13) (.tmp 14), none⟩,
  ⟨(some 16), .convInt .u64 (.tmp 15), none⟩,
  ⟨(some 17), .bin .xor (.prim .int) (.tmp 12) (.tmp 16), none⟩,
  ⟨(some 5), .mov (.tmp 17), none⟩])
  (.ops [⟨(some 18), .mov (.tmp 5), none⟩,
  ⟨(some 19), .bin .mul (.prim .int) (.tmp 18) (.const (.int .u64 1099511628211)), none⟩,
  ⟨(some 5), .mov (.tmp 19), none⟩]))))
  (.ops [⟨(some 20), .bin .add (.prim .int) (.tmp 9) (.const (.int .i64 1)), none⟩,
  ⟨(some 9), .mov (.tmp 20), none⟩])))))))
  (.seq (.ops [⟨(some 21), .mov (.tmp 5), none⟩,
  ⟨(some 22), .mov (.tmp 1), none⟩,
  ⟨(some 23), .call (.func 153) [(.tmp 21), (.tmp 22)], none⟩,
  ⟨(some 4), .mov (.tmp 23), none⟩])
  .ret)))) }
theorem c119 : compFunc Tryz.prog mts Tryz.f119 = some a119 := by kernel_rfl
def a120 : AFunc := { ntmps := 23, results := [.cellN 1 5, .cellN 2 3, .tmp 3], body := (.seq (.ops [⟨(some 1), .alloc 27 [(.int .i64 0), (.bool false), (.string ⟨#[]⟩), (.string ⟨#[]⟩), (.int .i64 0)], none⟩,
  ⟨(some 2), .alloc 83 [(.slice none 0 0), (.int .i64 0), (.slice none 0 0)], none⟩,
  ⟨(some 3), .mov (.const (.bool false)), none⟩])
  (.seq (.ops [⟨(some 9), .load1 (.tmp 0), none⟩,
  ⟨(some 10), .invoke (.tmp 9) [(128, 116), (131, 118), (134, 376), (136, 388), (138, 397), (140, 409), (359, 262), (362, 280)] [], none⟩,
  ⟨(some 8), .mov (.tmp 10), none⟩,
  ⟨(some 11), .extract (.tmp 8) 0, none⟩,
  ⟨(some 12), .extract (.tmp 8) 1, none⟩,
  ⟨(some 4), .mov (.tmp 11), none⟩,
  ⟨(some 5), .mov (.tmp 12), none⟩])
  (.seq (.ops [⟨(some 14), .load1 (.tmp 0), none⟩,
  ⟨(some 15), .invoke (.tmp 14) [(134, 378), (136, 390), (138, 399), (140, 411)] [], none⟩,
  ⟨(some 13), .mov (.tmp 15), none⟩,
  ⟨(some 16), .extract (.tmp 13) 0, none⟩,
  ⟨(some 17), .extract (.tmp 13) 1, none⟩,
  ⟨(some 6), .alloc 83 [(.slice none 0 0), (.int .i64 0), (.slice none 0 0)], none⟩,
  ⟨none, .store 3 (.tmp 6) (.tmp 16), none⟩,
  ⟨(some 7), .mov (.tmp 17), none⟩])
  (.seq (.draw [⟨0, ⟨(some 18), .mov (.tmp 5), none⟩, []⟩,
  ⟨1, ⟨(some 19), .mov (.tmp 4), none⟩, []⟩,
  ⟨2, ⟨(some 20), .build [(.int .i64 0), (.bool false), (.string ⟨#[]⟩), (.string ⟨#[]⟩), (.int .i64 0)] [(1, 1, (.tmp 18)), (3, 1, (.tmp 19))], none⟩, []⟩,
  ⟨3, ⟨(some 21), .loadN 3 (.tmp 6), none⟩, []⟩,
  ⟨4, ⟨(some 22), .mov (.tmp 7), none⟩, []⟩,
  ⟨5, ⟨none, .store 5 (.tmp 1) (.tmp 20), none⟩, [⟨(some 21), .loadN 3 (.tmp 6), none⟩]⟩,
  ⟨6, ⟨none, .store 3 (.tmp 2) (.tmp 21), none⟩, []⟩,
  ⟨7, ⟨(some 3), .mov (.tmp 22), none⟩, []⟩])
  .ret)))) }
theorem c120 : compFunc Tryz.prog mts Tryz.f120 = some a120 := by kernel_rfl
def a121 : AFunc := { ntmps := 24, results := [.cellN 4 9, .tmp 5], body := (.seq (.ops [⟨(some 4), .alloc 146 [(.int .i64 0), (.string ⟨#[]⟩), (.string ⟨#[]⟩), (.int .u32 0), (.slice none 0 0), (.int .i64 0), (.slice none 0 0), (.int .i64 0), (.int .i64 0)], none⟩,
  ⟨(some 5), .mov (.const (.int .i64 0)), none⟩])
  (.seq (.ops [⟨(some 10), .mov (.tmp 0), none⟩,
  ⟨(some 11), .mov (.tmp 1), none⟩,
  ⟨(some 12), .call (.func 154) [(.tmp 10), (.tmp 11)], none⟩,
  ⟨(some 9), .mov (.tmp 12), none⟩,
  ⟨(some 13), .extract (.tmp 9) 0, none⟩,
  ⟨(some 14), .extract (.tmp 9) 1, none⟩,
  ⟨(some 6), .mov (.tmp 13), none⟩,
  ⟨(some 7), .mov (.tmp 14), none⟩])
  (.seq (.seq (.ops [⟨(some 15), .mov (.tmp 7), none⟩,
  ⟨(some 16), .bin .neq (.prim .int) (.tmp 15) (.const (.int .i64 0)), none⟩])
  (.cond (.tmp 16) (.seq (.ops [⟨(some 8), .alloc 146 [(.int .i64 0), (.string ⟨#[]⟩), (.string ⟨#[]⟩), (.int .u32 0), (.slice none 0 0), (.int .i64 0), (.slice none 0 0), (.int .i64 0), (.int .i64 0)], none⟩])
  (.seq (.ops [⟨(some 17), .loadN 9 (.tmp 8), none⟩,
  ⟨(some 18), .mov (.tmp 7), none⟩,
  ⟨none, .store 9 (.tmp 4) (.tmp 17), none⟩,
  ⟨(some 5), .mov (.tmp 18), none⟩])
  .ret))
  .skip))
  (.seq (.ops [⟨(some 19), .mov (.tmp 6), none⟩,
  ⟨(some 20), .nilCheck (.tmp 19), none⟩,
  ⟨(some 21), .fieldAddr 0 (.tmp 20), none⟩,
  ⟨(some 22), .loadN 9 (.tmp 21), none⟩,
  ⟨(some 23), .mov (.tmp 7), none⟩,
  ⟨none, .store 9 (.tmp 4) (.tmp 22), none⟩,
  ⟨(some 5), .mov (.tmp 23), none⟩])
  .ret)))) }
theorem c121 : compFunc Tryz.prog mts Tryz.f121 = some a121 := by kernel_rfl
def a122 : AFunc := { ntmps := 12, results := [.cellN 2 9], body := (.seq (.ops [⟨(some 1), .box 146 (.tmp 0), none⟩,
  ⟨(some 2), .alloc 146 [(.int .i64 0), (.string ⟨#[]⟩), (.string ⟨#[]⟩), (.int .u32 0), (.slice none 0 0), (.int .i64 0), (.slice none 0 0), (.int .i64 0), (.int .i64 0)], none⟩])
  (.seq (.ops [⟨(some 3), .fieldAddr 4 (.tmp 1), none⟩,
  ⟨(some 4), .load1 (.tmp 3), none⟩,
  ⟨(some 5), .call (.func 133) [(.tmp 4)], none⟩,
  ⟨(some 6), .fieldAddr 4 (.tmp 1), none⟩,
  ⟨none, .store 1 (.tmp 6) (.tmp 5), none⟩])
  (.seq (.ops [⟨(some 7), .fieldAddr 6 (.tmp 1), none⟩,
  ⟨(some 8), .load1 (.tmp 7), none⟩,
  ⟨(some 9), .call (.func 155) [(.tmp 8)], none⟩,
  ⟨(some 10), .fieldAddr 6 (.tmp 1), none⟩,
  ⟨none, .store 1 (.tmp 10) (.tmp 9), none⟩])
  (.seq (.ops [⟨(some 11), .loadN 9 (.tmp 1), none⟩,
  ⟨none, .store 9 (.tmp 2) (.tmp 11), none⟩])
  .ret)))) }
theorem c122 : compFunc Tryz.prog mts Tryz.f122 = some a122 := by kernel_rfl
def a123 : AFunc := { ntmps := 15, results := [.tmp 4], body := (.seq (.ops [⟨(some 4), .mov (.const (.int .i64 0)), none⟩])
  (.seq (.seq (.ops [⟨(some 5), .mov (.tmp 1), none⟩,
  ⟨(some 6), .bin .eql (.prim .int) (.tmp 5) (.const (.int .i64 9)), none⟩])
  (.cond (.tmp 6) (.ops [⟨(some 7), .mov (.tmp 0), none⟩,
  ⟨(some 8), .nilCheck (.tmp 7), none⟩,
  ⟨(some 9), .fieldAddr 3 (.tmp 8), none⟩,
  ⟨(some 10), .load1 (.tmp 9), none⟩,
  ⟨(some 11), .bin .add (.prim .int) (.tmp 10) (.const (.int .i64 1)), none⟩,
  ⟨(some 12), .nilCheck (.tmp 7), none⟩,
  ⟨(some 13), .fieldAddr 3 (.tmp 12), none⟩,
  ⟨none, .store 1 (.tmp 13) (.tmp 11), none⟩])
  .skip))
  (.seq (.ops [⟨(some 14), .mov (.tmp 1), none⟩,
  ⟨(some 4), .mov (.tmp 14), none⟩])
  .ret))) }
theorem c123 : compFunc Tryz.prog mts Tryz.f123 = some a123 := by kernel_rfl
def a124 : AFunc := { ntmps := 32, results := [.tmp 2], body := (.seq (.ops [⟨(some 1), .box 146 (.tmp 0), none⟩,
  ⟨(some 2), .mov (.const (.int .i64 0)), none⟩])
  (.seq (.ops [⟨(some 4), .loadN 9 (.tmp 1), none⟩,
  ⟨(some 5), .call (.func 156) [(.tmp 4)], none⟩,
  ⟨(some 3), .alloc 146 [(.int .i64 0), (.string ⟨#[]⟩), (.string ⟨#[]⟩), (.int .u32 0), (.slice none 0 0), (.int .i64 0), (.slice none 0 0), (.int .i64 0), (.int .i64 0)], none⟩,
  ⟨none, .store 9 (.tmp 3) (.tmp 5), none⟩])
  (.seq (.ops [⟨(some 6), .fieldAddr 8 (.tmp 1), none⟩,
  ⟨(some 7), .load1 (.tmp 6), none⟩,
  ⟨(some 8), .minmax true (.tmp 7) [(.const (.int .i64 0))], none⟩,
  ⟨(some 9), .fieldAddr 8 (.tmp 3), none⟩,
  ⟨none, .store 1 (.tmp 9) (.tmp 8), none⟩])
  (.seq (.block 0 (.seq (.ops [⟨(some 11), .fieldAddr 0 (.tmp 1), none⟩,
  ⟨(some 12), .load1 (.tmp 11), none⟩,
  ⟨(some 13), .bin .lss (.prim .int) (.tmp 12) (.const (.int .i64 1)), none⟩,
  ⟨(some 14), .mov (.tmp 13), none⟩,
  ⟨(some 15), .fieldAddr 0 (.tmp 1), (some (14, false))⟩,
  ⟨(some 16), .load1 (.tmp 15), (some (14, false))⟩,
  ⟨(some 17), .bin .gtr (.prim .int) (.tmp 16) (.const (.int .i64 6)), (some (14, false))⟩,
  ⟨(some 18), .pick (.tmp 14) (.const (.bool true)) (.tmp 17), none⟩,
  ⟨(some 10), .mov (.tmp 18), none⟩])
  (.cond (.tmp 10) (.seq (.ops [⟨(some 2), .mov (.const (.int .i64 11)), none⟩])
  .ret)
  (.seq (.ops [⟨(some 20), .loadN 9 (.tmp 1), none⟩,
  ⟨(some 21), .call (.func 157) [(.tmp 20)], none⟩,
  ⟨(some 19), .mov (.tmp 21), none⟩])
  (.cond (.tmp 19) (.seq (.ops [⟨(some 2), .mov (.const (.int .i64 6)), none⟩])
  .ret)
  (.seq (.ops [⟨(some 23), .loadN 9 (.tmp 1), none⟩,
  ⟨(some 24), .loadN 9 (.tmp 3), none⟩,
  ⟨(some 25), .call (.func 158) [(.tmp 23), (.tmp 24)], none⟩,
  ⟨(some 26), .un .not (.tmp 25), none⟩,
  ⟨(some 27), .mov (.tmp 26), none⟩,
  ⟨(some 28), .loadN 9 (.tmp 1), (some (27, false))⟩,
  ⟨(some 29), .call (.func 159) [(.tmp 28)], (some (27, false))⟩,
  ⟨(some 30), .un .not (.tmp 29), (some (27, false))⟩,
  ⟨(some 31), .pick (.tmp 27) (.const (.bool true)) (.tmp 30), none⟩,
  ⟨(some 22), .mov (.tmp 31), none⟩])
  (.cond (.tmp 22) (.seq (.ops [⟨(some 2), .mov (.const (.int .i64 4)), none⟩])
  .ret)
  .skip)))))))
  (.seq (.ops [⟨(some 2), .mov (.const (.int .i64 0)), none⟩])
  .ret))))) }
theorem c124 : compFunc Tryz.prog mts Tryz.f124 = some a124 := by kernel_rfl
def a125 : AFunc := { ntmps := 55, results := [.tmp 4, .tmp 5], body := (.seq (.ops [⟨(some 3), .box 146 (.tmp 1), none⟩,
  ⟨(some 4), .mov (.const (.int .i64 0)), none⟩,
  ⟨(some 5), .mov (.const (.int .i64 0)), none⟩])
  (.seq (.seq (.ops [⟨(some 9), .mov (.tmp 0), none⟩,
  ⟨(some 10), .call (.func 132) [(.tmp 9)], none⟩,
  ⟨(some 11), .un .not (.tmp 10), none⟩])
  (.cond (.tmp 11) (.seq (.ops [⟨(some 4), .mov (.const (.int .i64 0)), none⟩,
  ⟨(some 5), .mov (.const (.int .i64 4)), none⟩])
  .ret)
  .skip))
  (.seq (.ops [⟨(some 13), .mov (.tmp 0), none⟩,
  ⟨(some 14), .call (.func 160) [(.tmp 13)], none⟩,
  ⟨(some 12), .mov (.tmp 14), none⟩,
  ⟨(some 15), .extract (.tmp 12) 0, none⟩,
  ⟨(some 16), .extract (.tmp 12) 1, none⟩,
  ⟨(some 6), .mov (.tmp 15), none⟩,
  ⟨(some 7), .mov (.tmp 16), none⟩])
  (.seq (.seq (.ops [⟨(some 17), .mov (.tmp 7), none⟩,
  ⟨(some 18), .un .not (.tmp 17), none⟩])
  (.cond (.tmp 18) (.seq (.ops [⟨(some 4), .mov (.const (.int .i64 0)), none⟩,
  ⟨(some 5), .mov (.const (.int .i64 7)), none⟩])
  .ret)
  .skip))
  (.seq (.ops [⟨(some 19), .mov (.tmp 0), none⟩,
  ⟨(some 20), .nilCheck (.tmp 19), none⟩,
  ⟨(some 21), .fieldAddr 0 (.tmp 20), none⟩,
  ⟨(some 22), .load1 (.tmp 21), none⟩,
  ⟨(some 23), .mov (.tmp 6), none⟩,
  ⟨(some 24), .indexAddrSl 11 (.tmp 22) (.tmp 23), none⟩,
  ⟨(some 8), .mov (.tmp 24), none⟩])
  (.seq (.ops [⟨(some 25), .mov (.tmp 8), none⟩,
  ⟨(some 26), .mov (.tmp 8), none⟩,
  ⟨(some 27), .loadN 9 (.tmp 3), none⟩,
  ⟨(some 28), .nilCheck (.tmp 25), none⟩,
  ⟨(some 29), .fieldAddr 0 (.tmp 28), none⟩,
  ⟨none, .store 9 (.tmp 29) (.tmp 27), none⟩,
  ⟨(some 30), .nilCheck (.tmp 26), none⟩,
  ⟨(some 31), .fieldAddr 10 (.tmp 30), none⟩,
  ⟨none, .store 1 (.tmp 31) (.const (.bool true)), none⟩])
  (.seq (.ops [⟨(some 32), .mov (.tmp 8), none⟩,
  ⟨(some 33), .nilCheck (.tmp 32), none⟩,
  ⟨(some 34), .fieldAddr 9 (.tmp 33), none⟩,
  ⟨(some 35), .load1 (.tmp 34), none⟩,
  ⟨(some 36), .bin .add (.prim .int) (.tmp 35) (.const (.int .i64 1)), none⟩,
  ⟨(some 37), .nilCheck (.tmp 32), none⟩,
  ⟨(some 38), .fieldAddr 9 (.tmp 37), none⟩,
  ⟨none, .store 1 (.tmp 38) (.tmp 36), none⟩])
  (.seq (.ops [⟨(some 39), .mov (.tmp 0), none⟩,
  ⟨(some 40), .nilCheck (.tmp 39), none⟩,
  ⟨(some 41), .fieldAddr 3 (.tmp 40), none⟩,
  ⟨(some 42), .load1 (.tmp 41), none⟩,
  ⟨(some 43), .bin .add (.prim .int) (.tmp 42) (.const (.int .i64 1)), none⟩,
  ⟨(some 44), .nilCheck (.tmp 39), none⟩,
  ⟨(some 45), .fieldAddr 3 (.tmp 44), none⟩,
  ⟨none, .store 1 (.tmp 45) (.tmp 43), none⟩])
  (.seq (.ops [⟨(some 46), .mov (.tmp 6), none⟩,
  ⟨(some 47), .bin .add (.prim .int) (.tmp 46) (.const (.int .i64 1)), none⟩,
  ⟨(some 48), .mov (.tmp 8), none⟩,
  ⟨(some 49), .nilCheck (.tmp 48), none⟩,
  ⟨(some 50), .fieldAddr 9 (.tmp 49), none⟩,
  ⟨(some 51), .load1 (.tmp 50), none⟩,
  ⟨(some 52), .call (.func 161) [(.tmp 47), (.tmp 51)], none⟩,
  ⟨(some 53), .extract (.tmp 52) 0, none⟩,
  ⟨(some 54), .extract (.tmp 52) 1, none⟩,
  ⟨(some 4), .mov (.tmp 53), none⟩,
  ⟨(some 5), .mov (.tmp 54), none⟩])
  .ret))))))))) }
theorem c125 : compFunc Tryz.prog mts Tryz.f125 = some a125 := by kernel_rfl
def a126 : AFunc := { ntmps := 9, results := [.tmp 2, .tmp 3], body := (.seq (.ops [⟨(some 2), .mov (.const (.int .i64 0)), none⟩,
  ⟨(some 3), .mov (.const (.bool false)), none⟩])
  (.seq (.seq (.ops [⟨(some 4), .mov (.tmp 0), none⟩,
  ⟨(some 5), .call (.func 162) [(.tmp 4)], none⟩,
  ⟨(some 6), .bin .neq (.prim .int) (.tmp 5) (.const (.int .i64 2)), none⟩])
  (.cond (.tmp 6) (.seq (.ops [⟨(some 2), .mov (.const (.int .i64 0)), none⟩,
  ⟨(some 3), .mov (.const (.bool false)), none⟩])
  .ret)
  .skip))
  (.seq (.ops [⟨(some 7), .mov (.tmp 0), none⟩,
  ⟨(some 8), .bin .sub (.prim .int) (.const (.int .i64 (-1))) (.tmp 7), none⟩,
  ⟨(some 2), .mov (.tmp 8), none⟩,
  ⟨(some 3), .mov (.const (.bool true)), none⟩])
  .ret))) }
theorem c126 : compFunc Tryz.prog mts Tryz.f126 = some a126 := by kernel_rfl
def a127 : AFunc := { ntmps := 36, results := [.tmp 8, .tmp 9], body := (.seq (.ops [⟨(some 6), .box 75 (.tmp 2), none⟩,
  ⟨(some 7), .box 75 (.tmp 3), none⟩,
  ⟨(some 8), .mov (.const (.bool false)), none⟩,
  ⟨(some 9), .mov (.const (.int .i64 0)), none⟩])
  (.seq (.ops [⟨(some 11), .mov (.tmp 0), none⟩,
  ⟨(some 12), .mov (.tmp 1), none⟩,
  ⟨(some 13), .call (.func 112) [(.tmp 11), (.tmp 12)], none⟩,
  ⟨(some 10), .mov (.tmp 13), none⟩])
  (.seq (.seq (.draw [⟨0, ⟨(some 14), .mov (.tmp 10), none⟩, []⟩,
  ⟨1, ⟨(some 15), .bin .neq (.prim .int) (.tmp 14) (.const (.int .i64 0)), none⟩, []⟩,
  ⟨2, ⟨(some 16), .mov (.tmp 15), none⟩, []⟩,
  ⟨3, ⟨(some 17), .mov (.tmp 0), (some (16, false))⟩, []⟩,
  ⟨4, ⟨(some 18), .nilCheck (.tmp 17), (some (16, false))⟩, []⟩,
  ⟨5, ⟨(some 19), .fieldAddr 0 (.tmp 18), (some (16, false))⟩, []⟩,
  ⟨6, ⟨(some 20), .load1 (.tmp 19), (some (16, false))⟩, []⟩,
  ⟨7, ⟨(some 21), .mov (.tmp 1), (some (16, false))⟩, []⟩,
  ⟨8, ⟨(some 22), .indexAddrSl 3 (.tmp 20) (.tmp 21), (some (16, false))⟩, []⟩,
  ⟨9, ⟨(some 23), .loadN 3 (.tmp 22), (some (16, false))⟩, []⟩,
  ⟨10, ⟨(some 24), .loadN 3 (.tmp 6), (some (16, false))⟩, []⟩,
  ⟨11, ⟨(some 25), .bin .neq (.agg [.int, .int, .int]) (.tmp 23) (.tmp 24), (some (16, false))⟩, []⟩,
  ⟨12, ⟨(some 26), .pick (.tmp 16) (.const (.bool true)) (.tmp 25), none⟩, []⟩])
  (.cond (.tmp 26) (.seq (.ops [⟨(some 27), .mov (.tmp 10), none⟩,
  ⟨(some 8), .mov (.const (.bool false)), none⟩,
  ⟨(some 9), .mov (.tmp 27), none⟩])
  .ret)
  .skip))
  (.seq (.draw [⟨0, ⟨(some 28), .mov (.tmp 0), none⟩, []⟩,
  ⟨1, ⟨(some 29), .nilCheck (.tmp 28), none⟩, []⟩,
  ⟨2, ⟨(some 30), .fieldAddr 0 (.tmp 29), none⟩, []⟩,
  ⟨3, ⟨(some 31), .load1 (.tmp 30), none⟩, []⟩,
  ⟨4, ⟨(some 32), .mov (.tmp 1), none⟩, []⟩,
  ⟨5, ⟨(some 33), .loadN 3 (.tmp 7), none⟩, []⟩,
  ⟨6, ⟨(some 34), .indexAddrSl 3 (.tmp 31) (.tmp 32), none⟩, []⟩,
  ⟨7, ⟨none, .store 3 (.tmp 34) (.tmp 33), none⟩, []⟩])
  (.seq (.ops [⟨(some 35), .mov (.tmp 10), none⟩,
  ⟨(some 8), .mov (.const (.bool true)), none⟩,
  ⟨(some 9), .mov (.tmp 35), none⟩])
  .ret))))) }
theorem c127 : compFunc Tryz.prog mts Tryz.f127 = some a127 := by kernel_rfl
def a129 : AFunc := { ntmps := 34, results := [.tmp 4], body := (.seq (.ops [⟨(some 4), .mov (.const (.int .i64 0)), none⟩])
  (.seq (.block 0 (.seq (.ops [⟨(some 6), .mov (.tmp 0), none⟩,
  ⟨(some 7), .bin .eql .ptr (.tmp 6) (.const (.pointer none)), none⟩,
  ⟨(some 8), .mov (.tmp 7), none⟩,
  ⟨(some 9), .mov (.tmp 0), (some (8, false))⟩,
  ⟨(some 10), .nilCheck (.tmp 9), (some (8, false))⟩,
  ⟨(some 11), .fieldAddr 2 (.tmp 10), (some (8, false))⟩,
  ⟨(some 12), .load1 (.tmp 11), (some (8, false))⟩,
  ⟨(some 13), .un .not (.tmp 12), (some (8, false))⟩,
  ⟨(some 14), .pick (.tmp 8) (.const (.bool true)) (.tmp 13), none⟩,
  ⟨(some 5), .mov (.tmp 14), none⟩])
  (.cond (.tmp 5) (.seq (.ops [⟨(some 4), .mov (.const (.int .i64 4)), none⟩])
  .ret)
  (.seq (.ops [⟨(some 16), .mov (.tmp 1), none⟩,
  ⟨(some 17), .bin .lss (.prim .int) (.tmp 16) (.const (.int .i64 0)), none⟩,
  ⟨(some 18), .mov (.tmp 17), none⟩,
  ⟨(some 19), .mov (.tmp 1), (some (18, false))⟩,
  ⟨(some 20), .mov (.tmp 0), (some (18, false))⟩,
  ⟨(some 21), .nilCheck (.tmp 20), (some (18, false))⟩,
  ⟨(some 22), .fieldAddr 0 (.tmp 21), (some (18, false))⟩,
  ⟨(some 23), .load1 (.tmp 22), (some (18, false))⟩,
  ⟨(some 24), .lenSl (.tmp 23), (some (18, false))⟩,
  ⟨(some 25), .bin .geq (.prim .int) (.tmp 19) (.tmp 24), (some (18, false))⟩,
  ⟨(some 26), .pick (.tmp 18) (.const (.bool true)) (.tmp 25), none⟩,
  ⟨(some 15), .mov (.tmp 26), none⟩])
  (.cond (.tmp 15) (.seq (.ops [⟨(some 4), .mov (.const (.int .i64 2)), none⟩])
  .ret)
  .skip)))))
  (.seq (.ops [⟨(some 27), .mov (.tmp 0), none⟩,
  ⟨(some 28), .nilCheck (.tmp 27), none⟩,
  ⟨(some 29), .fieldAddr 1 (.tmp 28), none⟩,
  ⟨(some 30), .load1 (.tmp 29), none⟩,
  ⟨(some 31), .bin .add (.prim .int) (.tmp 30) (.const (.int .i64 1)), none⟩,
  ⟨(some 32), .nilCheck (.tmp 27), none⟩,
  ⟨(some 33), .fieldAddr 1 (.tmp 32), none⟩,
  ⟨none, .store 1 (.tmp 33) (.tmp 31), none⟩])
  (.seq (.ops [⟨(some 4), .mov (.const (.int .i64 0)), none⟩])
  .ret)))) }
theorem c129 : compFunc Tryz.prog mts Tryz.f129 = some a129 := by kernel_rfl
def a130 : AFunc := { ntmps := 26, results := [.tmp 2], body := (.seq (.ops [⟨(some 2), .mov (.const (.slice none 0 0)), none⟩])
  (.seq (.ops [⟨(some 3), .mov (.const (.slice none 0 0)), none⟩])
  (.seq (.seq (.ops [⟨(some 6), .mov (.tmp 0), none⟩,
  ⟨(some 7), .lenSl (.tmp 6), none⟩,
  ⟨(some 8), .mov (.const (.int .i64 0)), none⟩])
  (.block 0 (.loop (.seq (.ops [⟨(some 9), .bin .lss (.prim .int) (.tmp 8) (.tmp 7), none⟩])
  (.seq (.cond (.tmp 9) .skip
  (.exit 0))
  (.seq (.block 1 (.seq (.ops [⟨(some 10), .indexAddrSl 3 (.tmp 6) (.tmp 8), none⟩,
  ⟨(some 11), .loadN 3 (.tmp 10), none⟩,
  ⟨(some 5), .alloc 159 [(.int .i64 0), (.int .i64 0), (.slice none 0 0)], none⟩,
  ⟨none, .store 3 (.tmp 5) (.tmp 11), none⟩])
  (.seq (.ops [⟨(some 12), .fieldAddr 2 (.tmp 5), none⟩,
  ⟨(some 13), .load1 (.tmp 12), none⟩,
  ⟨(some 14), .lenSl (.tmp 13), none⟩,
  ⟨(some 15), .bin .gtr (.prim .int) (.tmp 14) (.const (.int .i64 0)), none⟩])
  (.cond (.tmp 15) (.seq (.ops [⟨(some 16), .fieldAddr 2 (.tmp 5), none⟩,
  ⟨(some 17), .load1 (.tmp 16), none⟩,
  ⟨(some 18), .call (.func 164) [(.tmp 17)], none⟩,
  ⟨(some 19), .fieldAddr 2 (.tmp 5), none⟩,
  ⟨none, .store 1 (.tmp 19) (.tmp 18), none⟩])
  (.ops [⟨(some 20), .mov (.tmp 3), none⟩,
  ⟨(some 21), .loadN 3 (.tmp 5), none⟩,
  ⟨(some 22), .buildSlice 159 1 [(.int .i64 0), (.int .i64 0), (.slice none 0 0)] [(0, 3, (.tmp 21))], none⟩,
  ⟨(some 23), .append 159 3 40 (.tmp 20) (.tmp 22), none⟩,
  ⟨(some 3), .mov (.tmp 23), none⟩]))
  .skip))))
  (.ops [⟨(some 24), .bin .add (.prim .int) (.tmp 8) (.const (.int .i64 1)), none⟩,
  ⟨(some 8), .mov (.tmp 24), none⟩])))))))
  (.seq (.ops [⟨(some 25), .mov (.tmp 3), none⟩,
  ⟨(some 2), .mov (.tmp 25), none⟩])
  .ret)))) }
theorem c130 : compFunc Tryz.prog mts Tryz.f130 = some a130 := by kernel_rfl
def a132 : AFunc := { ntmps := 11, results := [.tmp 2], body := (.seq (.ops [⟨(some 2), .mov (.const (.bool false)), none⟩])
  (.seq (.ops [⟨(some 3), .mov (.tmp 0), none⟩,
  ⟨(some 4), .bin .neq .ptr (.tmp 3) (.const (.pointer none)), none⟩,
  ⟨(some 5), .mov (.tmp 4), none⟩,
  ⟨(some 6), .mov (.tmp 0), (some (5, true))⟩,
  ⟨(some 7), .nilCheck (.tmp 6), (some (5, true))⟩,
  ⟨(some 8), .fieldAddr 4 (.tmp 7), (some (5, true))⟩,
  ⟨(some 9), .load1 (.tmp 8), (some (5, true))⟩,
  ⟨(some 10), .pick (.tmp 5) (.tmp 9) (.const (.bool false)), none⟩,
  ⟨(some 2), .mov (.tmp 10), none⟩])
  .ret)) }
theorem c132 : compFunc Tryz.prog mts Tryz.f132 = some a132 := by kernel_rfl
def a133 : AFunc := { ntmps := 8, results := [.tmp 2], body := (.seq (.ops [⟨(some 2), .mov (.const (.slice none 0 0)), none⟩])
  (.seq (.seq (.ops [⟨(some 3), .mov (.tmp 0), none⟩,
  ⟨(some 4), .bin .eql .slice (.tmp 3) (.const (.slice none 0 0)), none⟩])
  (.cond (.tmp 4) (.seq (.ops [⟨(some 2), .mov (.const (.slice none 0 0)), none⟩])
  .ret)
  .skip))
  (.seq (.ops [⟨(some 5), .buildSlice 73 0 [] [], none⟩,
  ⟨(some 6), .mov (.tmp 0), none⟩,
  ⟨(some 7), .append 73 1 8 (.tmp 5) (.tmp 6), none⟩,
  ⟨(some 2), .mov (.tmp 7), none⟩])
  .ret))) }
theorem c133 : compFunc Tryz.prog mts Tryz.f133 = some a133 := by kernel_rfl
def a150 : AFunc := { ntmps := 20, results := [.tmp 2], body := (.seq (.ops [⟨(some 1), .box 146 (.tmp 0), none⟩,
  ⟨(some 2), .mov (.const (.slice none 0 0)), none⟩])
  (.seq (.seq (.ops [⟨(some 3), .fieldAddr 0 (.tmp 1), none⟩,
  ⟨(some 4), .load1 (.tmp 3), none⟩])
  (.block 0 (.seq (.seq (.ops [⟨(some 6), .bin .eql (.prim .int) (.tmp 4) (.const (.int .i64 1)), none⟩,
  ⟨(some 5), .mov (.tmp 6), none⟩])
  (.cond (.tmp 5) .skip
  (.seq (.ops [⟨(some 7), .bin .eql (.prim .int) (.tmp 4) (.const (.int .i64 6)), none⟩,
  ⟨(some 5), .mov (.tmp 7), none⟩])
  (.cond (.tmp 5) .skip
  (.ops [⟨(some 8), .bin .eql (.prim .int) (.tmp 4) (.const (.int .i64 4)), none⟩,
  ⟨(some 5), .mov (.tmp 8), none⟩])))))
  (.cond (.tmp 5) (.seq (.ops [⟨(some 9), .fieldAddr 1 (.tmp 1), none⟩,
  ⟨(some 10), .load1 (.tmp 9), none⟩,
  ⟨(some 11), .fieldAddr 2 (.tmp 1), none⟩,
  ⟨(some 12), .load1 (.tmp 11), none⟩,
  ⟨(some 13), .build [(.string ⟨#[]⟩), (.string ⟨#[]⟩)] [(0, 1, (.tmp 10)), (1, 1, (.tmp 12))], none⟩,
  ⟨(some 14), .buildSlice 193 1 [(.string ⟨#[]⟩), (.string ⟨#[]⟩)] [(0, 2, (.tmp 13))], none⟩,
  ⟨(some 2), .mov (.tmp 14), none⟩])
  .ret)
  (.seq (.ops [⟨(some 16), .bin .eql (.prim .int) (.tmp 4) (.const (.int .i64 3)), none⟩,
  ⟨(some 15), .mov (.tmp 16), none⟩])
  (.cond (.tmp 15) (.seq (.ops [⟨(some 17), .fieldAddr 6 (.tmp 1), none⟩,
  ⟨(some 18), .load1 (.tmp 17), none⟩,
  ⟨(some 19), .call (.func 155) [(.tmp 18)], none⟩,
  ⟨(some 2), .mov (.tmp 19), none⟩])
  .ret)
  .skip))))))
  (.seq (.ops [⟨(some 2), .mov (.const (.slice none 0 0)), none⟩])
  .ret))) }
theorem c150 : compFunc Tryz.prog mts Tryz.f150 = some a150 := by kernel_rfl
def a152 : AFunc := { ntmps := 26, results := [.tmp 4], body := (.seq (.ops [⟨(some 4), .mov (.const (.bool false)), none⟩])
  (.seq (.ops [⟨(some 5), .mov (.tmp 0), none⟩,
  ⟨(some 6), .bin .neq .ptr (.tmp 5) (.const (.pointer none)), none⟩,
  ⟨(some 7), .mov (.tmp 6), none⟩,
  ⟨(some 8), .mov (.tmp 0), (some (7, true))⟩,
  ⟨(some 9), .nilCheck (.tmp 8), (some (7, true))⟩,
  ⟨(some 10), .fieldAddr 2 (.tmp 9), (some (7, true))⟩,
  ⟨(some 11), .load1 (.tmp 10), (some (7, true))⟩,
  ⟨(some 12), .pick (.tmp 7) (.tmp 11) (.const (.bool false)), none⟩,
  ⟨(some 13), .mov (.tmp 12), none⟩,
  ⟨(some 14), .mov (.tmp 1), (some (13, true))⟩,
  ⟨(some 15), .bin .geq (.prim .int) (.tmp 14) (.const (.int .i64 0)), (some (13, true))⟩,
  ⟨(some 16), .pick (.tmp 13) (.tmp 15) (.const (.bool false)), none⟩,
  ⟨(some 17), .mov (.tmp 16), none⟩,
  ⟨(some 18), .mov (.tmp 1), (some (17, true))⟩,
  ⟨(some 19), .mov (.tmp 0), (some (17, true))⟩,
  ⟨(some 20), .nilCheck (.tmp 19), (some (17, true))⟩,
  ⟨(some 21), .fieldAddr 0 (.tmp 20), (some (17, true))⟩,
  ⟨(some 22), .load1 (.tmp 21), (some (17, true))⟩,
  ⟨(some 23), .lenSl (.tmp 22), (some (17, true))⟩,
  ⟨(some 24), .bin .lss (.prim .int) (.tmp 18) (.tmp 23), (some (17, true))⟩,
  ⟨(some 25), .pick (.tmp 17) (.tmp 24) (.const (.bool false)), none⟩,
  ⟨(some 4), .mov (.tmp 25), none⟩])
  .ret)) }
theorem c152 : compFunc Tryz.prog mts Tryz.f152 = some a152 := by kernel_rfl
def a153 : AFunc := { ntmps := 15, results := [.tmp 4], body := (.seq (.ops [⟨(some 4), .mov (.const (.int .u64 0)), none⟩])
  (.seq (.seq (.ops [⟨(some 5), .mov (.tmp 1), none⟩,
  ⟨(some 6), .call (.func 182) [(.tmp 5)], none⟩,
  ⟨(some 7), .bin .eql (.prim .int) (.tmp 6) (.const (.int .i64 64)), none⟩])
  (.cond (.tmp 7) (.seq (.ops [⟨(some 8), .mov (.tmp 0), none⟩,
  ⟨(some 4), .mov (.tmp 8), none⟩])
  .ret)
  .skip))
  (.seq (.ops [⟨(some 9), .mov (.tmp 0), none⟩,
  ⟨(some 10), .mov (.tmp 1), none⟩,
  ⟨(some 11), .call (.func 182) [(.tmp 10)], none⟩,
  ⟨(some 12), .bin .shl (.prim .int) (.const (.int .u64 1)) (.tmp 11), none⟩,
  ⟨(some 13), .bin .sub (.prim .int) (.tmp 12) (.const (.int .u64 1)), none⟩,
  ⟨(some 14), .bin .and (.prim .int) (.tmp 9) (.tmp 13), none⟩,
  ⟨(some 4), .mov (.tmp 14), none⟩])
  .ret))) }
theorem c153 : compFunc Tryz.prog mts Tryz.f153 = some a153 := by kernel_rfl
def a154 : AFunc := { ntmps := 16, results := [.tmp 4, .tmp 5], body := (.seq (.ops [⟨(some 4), .mov (.const (.pointer none)), none⟩,
  ⟨(some 5), .mov (.const (.int .i64 0)), none⟩])
  (.seq (.seq (.ops [⟨(some 7), .mov (.tmp 0), none⟩,
  ⟨(some 8), .call (.func 132) [(.tmp 7)], none⟩,
  ⟨(some 9), .un .not (.tmp 8), none⟩])
  (.cond (.tmp 9) (.seq (.ops [⟨(some 4), .mov (.const (.pointer none)), none⟩,
  ⟨(some 5), .mov (.const (.int .i64 4)), none⟩])
  .ret)
  .skip))
  (.seq (.ops [⟨(some 10), .mov (.tmp 0), none⟩,
  ⟨(some 11), .mov (.tmp 1), none⟩,
  ⟨(some 12), .call (.func 183) [(.tmp 10), (.tmp 11)], none⟩,
  ⟨(some 6), .mov (.tmp 12), none⟩])
  (.seq (.seq (.ops [⟨(some 13), .mov (.tmp 6), none⟩,
  ⟨(some 14), .bin .eql .ptr (.tmp 13) (.const (.pointer none)), none⟩])
  (.cond (.tmp 14) (.seq (.ops [⟨(some 4), .mov (.const (.pointer none)), none⟩,
  ⟨(some 5), .mov (.const (.int .i64 9)), none⟩])
  .ret)
  .skip))
  (.seq (.ops [⟨(some 15), .mov (.tmp 6), none⟩,
  ⟨(some 4), .mov (.tmp 15), none⟩,
  ⟨(some 5), .mov (.const (.int .i64 0)), none⟩])
  .ret))))) }
theorem c154 : compFunc Tryz.prog mts Tryz.f154 = some a154 := by kernel_rfl
def a155 : AFunc := { ntmps := 8, results := [.tmp 2], body := (.seq (.ops [⟨(some 2), .mov (.const (.slice none 0 0)), none⟩])
  (.seq (.seq (.ops [⟨(some 3), .mov (.tmp 0), none⟩,
  ⟨(some 4), .bin .eql .slice (.tmp 3) (.const (.slice none 0 0)), none⟩])
  (.cond (.tmp 4) (.seq (.ops [⟨(some 2), .mov (.const (.slice none 0 0)), none⟩])
  .ret)
  .skip))
  (.seq (.ops [⟨(some 5), .buildSlice 193 0 [] [], none⟩,
  ⟨(some 6), .mov (.tmp 0), none⟩,
  ⟨(some 7), .append 193 2 32 (.tmp 5) (.tmp 6), none⟩,
  ⟨(some 2), .mov (.tmp 7), none⟩])
  .ret))) }
theorem c155 : compFunc Tryz.prog mts Tryz.f155 = some a155 := by kernel_rfl
def a156 : AFunc := { ntmps := 62, results := [.cellN 2 9], body := (.seq (.ops [⟨(some 1), .box 146 (.tmp 0), none⟩,
  ⟨(some 2), .alloc 146 [(.int .i64 0), (.string ⟨#[]⟩), (.string ⟨#[]⟩), (.int .u32 0), (.slice none 0 0), (.int .i64 0), (.slice none 0 0), (.int .i64 0), (.int .i64 0)], none⟩])
  (.seq (.seq (.ops [⟨(some 3), .fieldAddr 0 (.tmp 1), none⟩,
  ⟨(some 4), .load1 (.tmp 3), none⟩])
  (.block 0 (.seq (.ops [⟨(some 6), .bin .eql (.prim .int) (.tmp 4) (.const (.int .i64 1)), none⟩,
  ⟨(some 5), .mov (.tmp 6), none⟩])
  (.cond (.tmp 5) (.seq (.ops [⟨(some 7), .fieldAddr 1 (.tmp 1), none⟩,
  ⟨(some 8), .load1 (.tmp 7), none⟩,
  ⟨(some 9), .fieldAddr 2 (.tmp 1), none⟩,
  ⟨(some 10), .load1 (.tmp 9), none⟩,
  ⟨(some 11), .call (.func 184) [(.tmp 8), (.tmp 10)], none⟩,
  ⟨none, .store 9 (.tmp 2) (.tmp 11), none⟩])
  .ret)
  (.seq (.ops [⟨(some 13), .bin .eql (.prim .int) (.tmp 4) (.const (.int .i64 6)), none⟩,
  ⟨(some 12), .mov (.tmp 13), none⟩])
  (.cond (.tmp 12) (.seq (.ops [⟨(some 14), .fieldAddr 1 (.tmp 1), none⟩,
  ⟨(some 15), .load1 (.tmp 14), none⟩,
  ⟨(some 16), .fieldAddr 2 (.tmp 1), none⟩,
  ⟨(some 17), .load1 (.tmp 16), none⟩,
  ⟨(some 18), .call (.func 185) [(.tmp 15), (.tmp 17)], none⟩,
  ⟨none, .store 9 (.tmp 2) (.tmp 18), none⟩])
  .ret)
  (.seq (.ops [⟨(some 20), .bin .eql (.prim .int) (.tmp 4) (.const (.int .i64 2)), none⟩,
  ⟨(some 19), .mov (.tmp 20), none⟩])
  (.cond (.tmp 19) (.seq (.ops [⟨(some 21), .fieldAddr 3 (.tmp 1), none⟩,
  ⟨(some 22), .load1 (.tmp 21), none⟩,
  ⟨(some 23), .fieldAddr 4 (.tmp 1), none⟩,
  ⟨(some 24), .load1 (.tmp 23), none⟩,
  ⟨(some 25), .fieldAddr 7 (.tmp 1), none⟩,
  ⟨(some 26), .load1 (.tmp 25), none⟩,
  ⟨(some 27), .minmax true (.tmp 26) [(.const (.int .i64 0))], none⟩,
  ⟨(some 28), .call (.func 98) [(.tmp 22), (.tmp 24), (.tmp 27)], none⟩,
  ⟨none, .store 9 (.tmp 2) (.tmp 28), none⟩])
  .ret)
  (.seq (.ops [⟨(some 30), .bin .eql (.prim .int) (.tmp 4) (.const (.int .i64 3)), none⟩,
  ⟨(some 29), .mov (.tmp 30), none⟩])
  (.cond (.tmp 29) (.seq (.ops [⟨(some 31), .fieldAddr 6 (.tmp 1), none⟩,
  ⟨(some 32), .load1 (.tmp 31), none⟩,
  ⟨(some 33), .call (.func 186) [(.tmp 32)], none⟩,
  ⟨none, .store 9 (.tmp 2) (.tmp 33), none⟩])
  .ret)
  (.seq (.ops [⟨(some 35), .bin .eql (.prim .int) (.tmp 4) (.const (.int .i64 4)), none⟩,
  ⟨(some 34), .mov (.tmp 35), none⟩])
  (.cond (.tmp 34) (.seq (.ops [⟨(some 36), .fieldAddr 4 (.tmp 1), none⟩,
  ⟨(some 37), .load1 (.tmp 36), none⟩,
  ⟨(some 38), .lenSl (.tmp 37), none⟩,
  ⟨(some 39), .bin .eql (.prim .int) (.tmp 38) (.const (.int .i64 2)), none⟩])
  (.cond (.tmp 39) (.seq (.draw [⟨0, ⟨(some 40), .fieldAddr 1 (.tmp 1), none⟩, []⟩,
  ⟨1, ⟨(some 41), .load1 (.tmp 40), none⟩, []⟩,
  ⟨2, ⟨(some 42), .fieldAddr 2 (.tmp 1), none⟩, []⟩,
  ⟨3, ⟨(some 43), .load1 (.tmp 42), none⟩, []⟩,
  ⟨4, ⟨(some 44), .fieldAddr 4 (.tmp 1), none⟩, []⟩,
  ⟨5, ⟨(some 45), .load1 (.tmp 44), none⟩, []⟩,
  ⟨6, ⟨(some 46), .indexAddrSl 1 (.tmp 45) (.const (.int .i64 0)), none⟩, []⟩,
  ⟨7, ⟨(some 47), .load1 (.tmp 46), none⟩, []⟩,
  ⟨8, ⟨(some 48), .fieldAddr 4 (.tmp 1), none⟩, []⟩,
  ⟨9, ⟨(some 49), .load1 (.tmp 48), none⟩, []⟩,
  ⟨10, ⟨(some 50), .indexAddrSl 1 (.tmp 49) (.const (.int .i64 1)), none⟩, []⟩,
  ⟨11, ⟨(some 51), .load1 (.tmp 50), none⟩, []⟩,
  ⟨12, ⟨(some 52), .fieldAddr 7 (.tmp 1), none⟩, []⟩,
  ⟨13, ⟨(some 53), .load1 (.tmp 52), none⟩, []⟩,
  ⟨14, ⟨(some 54), .minmax true (.tmp 53) [(.const (.int .i64 1))], none⟩, []⟩,
  ⟨15, ⟨(some 55), .call (.func 187) [(.tmp 41), (.tmp 43), (.tmp 47), (.tmp 51), (.tmp 54)], none⟩, []⟩,
  ⟨16, ⟨none, .store 9 (.tmp 2) (.tmp 55), none⟩, []⟩])
  .ret)
  .skip))
  (.seq (.ops [⟨(some 57), .bin .eql (.prim .int) (.tmp 4) (.const (.int .i64 5)), none⟩,
  ⟨(some 56), .mov (.tmp 57), none⟩])
  (.cond (.tmp 56) (.seq (.ops [⟨(some 58), .fieldAddr 5 (.tmp 1), none⟩,
  ⟨(some 59), .load1 (.tmp 58), none⟩,
  ⟨(some 60), .call (.func 99) [(.tmp 59)], none⟩,
  ⟨none, .store 9 (.tmp 2) (.tmp 60), none⟩])
  .ret)
  .skip))))))))))))))
  (.seq (.ops [⟨(some 61), .build [(.int .i64 0), (.string ⟨#[]⟩), (.string ⟨#[]⟩), (.int .u32 0), (.slice none 0 0), (.int .i64 0), (.slice none 0 0), (.int .i64 0), (.int .i64 0)] [], none⟩,
  ⟨none, .store 9 (.tmp 2) (.tmp 61), none⟩])
  .ret))) }
theorem c156 : compFunc Tryz.prog mts Tryz.f156 = some a156 := by kernel_rfl
def a157 : AFunc := { ntmps := 17, results := [.tmp 2], body := (.seq (.ops [⟨(some 1), .box 146 (.tmp 0), none⟩,
  ⟨(some 2), .mov (.const (.bool false)), none⟩])
  (.seq (.ops [⟨(some 3), .mov (.func 188), none⟩])
  (.seq (.ops [⟨(some 4), .mov (.tmp 3), none⟩,
  ⟨(some 5), .fieldAddr 1 (.tmp 1), none⟩,
  ⟨(some 6), .load1 (.tmp 5), none⟩,
  ⟨(some 7), .fieldAddr 2 (.tmp 1), none⟩,
  ⟨(some 8), .load1 (.tmp 7), none⟩,
  ⟨(some 9), .build [(.string ⟨#[]⟩), (.string ⟨#[]⟩)] [(0, 1, (.tmp 6)), (1, 1, (.tmp 8))], none⟩,
  ⟨(some 10), .call (.tmp 4) [(.tmp 9)], none⟩,
  ⟨(some 11), .mov (.tmp 10), none⟩,
  ⟨(some 12), .fieldAddr 6 (.tmp 1), (some (11, false))⟩,
  ⟨(some 13), .load1 (.tmp 12), (some (11, false))⟩,
  ⟨(some 14), .mov (.tmp 3), (some (11, false))⟩,
  ⟨(some 15), .call (.func 189) [(.tmp 13), (.tmp 14)], (some (11, false))⟩,
  ⟨(some 16), .pick (.tmp 11) (.const (.bool true)) (.tmp 15), none⟩,
  ⟨(some 2), .mov (.tmp 16), none⟩])
  .ret))) }
theorem c157 : compFunc Tryz.prog mts Tryz.f157 = some a157 := by kernel_rfl
def a158 : AFunc := { ntmps := 68, results := [.tmp 4], body := (.seq (.ops [⟨(some 2), .box 146 (.tmp 0), none⟩,
  ⟨(some 3), .box 146 (.tmp 1), none⟩,
  ⟨(some 4), .mov (.const (.bool false)), none⟩])
  (.seq (.ops [⟨(some 6), .fieldAddr 0 (.tmp 2), none⟩,
  ⟨(some 7), .load1 (.tmp 6), none⟩,
  ⟨(some 8), .fieldAddr 0 (.tmp 3), none⟩,
  ⟨(some 9), .load1 (.tmp 8), none⟩,
  ⟨(some 10), .bin .eql (.prim .int) (.tmp 7) (.tmp 9), none⟩,
  ⟨(some 11), .mov (.tmp 10), none⟩,
  ⟨(some 12), .fieldAddr 1 (.tmp 2), (some (11, true))⟩,
  ⟨(some 13), .load1 (.tmp 12), (some (11, true))⟩,
  ⟨(some 14), .fieldAddr 1 (.tmp 3), (some (11, true))⟩,
  ⟨(some 15), .load1 (.tmp 14), (some (11, true))⟩,
  ⟨(some 16), .bin .eql (.prim .str) (.tmp 13) (.tmp 15), (some (11, true))⟩,
  ⟨(some 17), .pick (.tmp 11) (.tmp 16) (.const (.bool false)), none⟩,
  ⟨(some 18), .mov (.tmp 17), none⟩,
  ⟨(some 19), .fieldAddr 2 (.tmp 2), (some (18, true))⟩,
  ⟨(some 20), .load1 (.tmp 19), (some (18, true))⟩,
  ⟨(some 21), .fieldAddr 2 (.tmp 3), (some (18, true))⟩,
  ⟨(some 22), .load1 (.tmp 21), (some (18, true))⟩,
  ⟨(some 23), .bin .eql (.prim .str) (.tmp 20) (.tmp 22), (some (18, true))⟩,
  ⟨(some 24), .pick (.tmp 18) (.tmp 23) (.const (.bool false)), none⟩,
  ⟨(some 25), .mov (.tmp 24), none⟩,
  ⟨(some 26), .fieldAddr 3 (.tmp 2), (some (25, true))⟩,
  ⟨(some 27), .load1 (.tmp 26), (some (25, true))⟩,
  ⟨(some 28), .fieldAddr 3 (.tmp 3), (some (25, true))⟩,
  ⟨(some 29), .load1 (.tmp 28), (some (25, true))⟩,
  ⟨(some 30), .bin .eql (.prim .int) (.tmp 27) (.tmp 29), (some (25, true))⟩,
  ⟨(some 31), .pick (.tmp 25) (.tmp 30) (.const (.bool false)), none⟩,
  ⟨(some 5), .mov (.tmp 31), none⟩])
  (.seq (.ops [⟨(some 32), .mov (.tmp 5), none⟩,
  ⟨(some 33), .mov (.tmp 32), none⟩,
  ⟨(some 34), .fieldAddr 5 (.tmp 2), (some (33, true))⟩,
  ⟨(some 35), .load1 (.tmp 34), (some (33, true))⟩,
  ⟨(some 36), .fieldAddr 5 (.tmp 3), (some (33, true))⟩,
  ⟨(some 37), .load1 (.tmp 36), (some (33, true))⟩,
  ⟨(some 38), .bin .eql (.prim .int) (.tmp 35) (.tmp 37), (some (33, true))⟩,
  ⟨(some 39), .pick (.tmp 33) (.tmp 38) (.const (.bool false)), none⟩,
  ⟨(some 40), .mov (.tmp 39), none⟩,
  ⟨(some 41), .fieldAddr 7 (.tmp 2), (some (40, true))⟩,
  ⟨(some 42), .load1 (.tmp 41), (some (40, true))⟩,
  ⟨(some 43), .fieldAddr 7 (.tmp 3), (some (40, true))⟩,
  ⟨(some 44), .load1 (.tmp 43), (some (40, true))⟩,
  ⟨(some 45), .bin .eql (.prim .int) (.tmp 42) (.tmp 44), (some (40, true))⟩,
  ⟨(some 46), .pick (.tmp 40) (.tmp 45) (.const (.bool false)), none⟩,
  ⟨(some 47), .mov (.tmp 46), none⟩,
  ⟨(some 48), .fieldAddr 8 (.tmp 2), (some (47, true))⟩,
  ⟨(some 49), .load1 (.tmp 48), (some (47, true))⟩,
  ⟨(some 50), .fieldAddr 8 (.tmp 3), (some (47, true))⟩,
  ⟨(some 51), .load1 (.tmp 50), (some (47, true))⟩,
  ⟨(some 52), .bin .eql (.prim .int) (.tmp 49) (.tmp 51), (some (47, true))⟩,
  ⟨(some 53), .pick (.tmp 47) (.tmp 52) (.const (.bool false)), none⟩,
  ⟨(some 54), .mov (.tmp 53), none⟩,
  ⟨(some 55), .fieldAddr 4 (.tmp 2), (some (54, true))⟩,
  ⟨(some 56), .load1 (.tmp 55), (some (54, true))⟩,
  ⟨(some 57), .fieldAddr 4 (.tmp 3), (some (54, true))⟩,
  ⟨(some 58), .load1 (.tmp 57), (some (54, true))⟩,
  ⟨(some 59), .call (.func 190) [(.tmp 56), (.tmp 58)], (some (54, true))⟩,
  ⟨(some 60), .pick (.tmp 54) (.tmp 59) (.const (.bool false)), none⟩,
  ⟨(some 61), .mov (.tmp 60), none⟩,
  ⟨(some 62), .fieldAddr 6 (.tmp 2), (some (61, true))⟩,
  ⟨(some 63), .load1 (.tmp 62), (some (61, true))⟩,
  ⟨(some 64), .fieldAddr 6 (.tmp 3), (some (61, true))⟩,
  ⟨(some 65), .load1 (.tmp 64), (some (61, true))⟩,
  ⟨(some 66), .call (.func 191) [(.tmp 63), (.tmp 65)], (some (61, true))⟩,
  ⟨(some 67), .pick (.tmp 61) (.tmp 66) (.const (.bool false)), none⟩,
  ⟨(some 4), .mov (.tmp 67), none⟩])
  .ret))) }
theorem c158 : compFunc Tryz.prog mts Tryz.f158 = some a158 := by kernel_rfl
def a159 : AFunc := { ntmps := 36, results := [.tmp 2], body := (.seq (.ops [⟨(some 1), .box 146 (.tmp 0), none⟩,
  ⟨(some 2), .mov (.const (.bool false)), none⟩])
  (.seq (.seq (.ops [⟨(some 3), .fieldAddr 0 (.tmp 1), none⟩,
  ⟨(some 4), .load1 (.tmp 3), none⟩])
  (.block 0 (.seq (.ops [⟨(some 6), .bin .eql (.prim .int) (.tmp 4) (.const (.int .i64 2)), none⟩,
  ⟨(some 5), .mov (.tmp 6), none⟩])
  (.cond (.tmp 5) (.seq (.draw [⟨0, ⟨(some 7), .fieldAddr 4 (.tmp 1), none⟩, []⟩,
  ⟨1, ⟨(some 8), .load1 (.tmp 7), none⟩, []⟩,
  ⟨2, ⟨(some 9), .lenSl (.tmp 8), none⟩, []⟩,
  ⟨3, ⟨(some 10), .fieldAddr 3 (.tmp 1), none⟩, []⟩,
  ⟨4, ⟨(some 11), .load1 (.tmp 10), none⟩, []⟩,
  ⟨5, ⟨(some 12), .call (.func 192) [(.tmp 11)], none⟩, [⟨(some 8), .load1 (.tmp 7), none⟩]⟩,
  ⟨6, ⟨(some 13), .bin .eql (.prim .int) (.tmp 9) (.tmp 12), none⟩, []⟩,
  ⟨7, ⟨(some 14), .mov (.tmp 13), none⟩, []⟩,
  ⟨8, ⟨(some 15), .fieldAddr 4 (.tmp 1), (some (14, true))⟩, []⟩,
  ⟨9, ⟨(some 16), .load1 (.tmp 15), (some (14, true))⟩, []⟩,
  ⟨10, ⟨(some 17), .call (.func 193) [(.tmp 16), (.const (.int .i64 0))], (some (14, true))⟩, []⟩,
  ⟨11, ⟨(some 18), .un .not (.tmp 17), (some (14, true))⟩, []⟩,
  ⟨12, ⟨(some 19), .pick (.tmp 14) (.tmp 18) (.const (.bool false)), none⟩, []⟩,
  ⟨13, ⟨(some 2), .mov (.tmp 19), none⟩, []⟩])
  .ret)
  (.seq (.ops [⟨(some 21), .bin .eql (.prim .int) (.tmp 4) (.const (.int .i64 3)), none⟩,
  ⟨(some 20), .mov (.tmp 21), none⟩])
  (.cond (.tmp 20) (.seq (.ops [⟨(some 22), .fieldAddr 6 (.tmp 1), none⟩,
  ⟨(some 23), .load1 (.tmp 22), none⟩,
  ⟨(some 24), .lenSl (.tmp 23), none⟩,
  ⟨(some 25), .bin .geq (.prim .int) (.tmp 24) (.const (.int .i64 2)), none⟩,
  ⟨(some 26), .mov (.tmp 25), none⟩,
  ⟨(some 27), .fieldAddr 6 (.tmp 1), (some (26, true))⟩,
  ⟨(some 28), .load1 (.tmp 27), (some (26, true))⟩,
  ⟨(some 29), .call (.func 194) [(.tmp 28)], (some (26, true))⟩,
  ⟨(some 30), .pick (.tmp 26) (.tmp 29) (.const (.bool false)), none⟩,
  ⟨(some 2), .mov (.tmp 30), none⟩])
  .ret)
  (.seq (.ops [⟨(some 32), .bin .eql (.prim .int) (.tmp 4) (.const (.int .i64 5)), none⟩,
  ⟨(some 31), .mov (.tmp 32), none⟩])
  (.cond (.tmp 31) (.seq (.ops [⟨(some 33), .fieldAddr 5 (.tmp 1), none⟩,
  ⟨(some 34), .load1 (.tmp 33), none⟩,
  ⟨(some 35), .bin .neq (.prim .int) (.tmp 34) (.const (.int .i64 0)), none⟩,
  ⟨(some 2), .mov (.tmp 35), none⟩])
  .ret)
  .skip))))))))
  (.seq (.ops [⟨(some 2), .mov (.const (.bool true)), none⟩])
  .ret))) }
theorem c159 : compFunc Tryz.prog mts Tryz.f159 = some a159 := by kernel_rfl
def a160 : AFunc := { ntmps := 54, results := [.tmp 2, .tmp 3], body := (.seq (.ops [⟨(some 2), .mov (.const (.int .i64 0)), none⟩,
  ⟨(some 3), .mov (.const (.bool false)), none⟩])
  (.seq (.seq (.ops [⟨(some 6), .mov (.tmp 0), none⟩,
  ⟨(some 7), .nilCheck (.tmp 6), none⟩,
  ⟨(some 8), .fieldAddr 1 (.tmp 7), none⟩,
  ⟨(some 9), .load1 (.tmp 8), none⟩,
  ⟨(some 10), .lenSl (.tmp 9), none⟩,
  ⟨(some 4), .mov (.tmp 10), none⟩])
  (.seq (.ops [⟨(some 11), .mov (.tmp 4), none⟩,
  ⟨(some 12), .bin .gtr (.prim .int) (.tmp 11) (.const (.int .i64 0)), none⟩])
  (.cond (.tmp 12) (.seq (.ops [⟨(some 13), .mov (.tmp 0), none⟩,
  ⟨(some 14), .nilCheck (.tmp 13), none⟩,
  ⟨(some 15), .fieldAddr 1 (.tmp 14), none⟩,
  ⟨(some 16), .load1 (.tmp 15), none⟩,
  ⟨(some 17), .mov (.tmp 4), none⟩,
  ⟨(some 18), .bin .sub (.prim .int) (.tmp 17) (.const (.int .i64 1)), none⟩,
  ⟨(some 19), .indexAddrSl 1 (.tmp 16) (.tmp 18), none⟩,
  ⟨(some 20), .load1 (.tmp 19), none⟩,
  ⟨(some 5), .mov (.tmp 20), none⟩])
  (.seq (.ops [⟨(some 21), .mov (.tmp 0), none⟩,
  ⟨(some 22), .mov (.tmp 0), none⟩,
  ⟨(some 23), .nilCheck (.tmp 22), none⟩,
  ⟨(some 24), .fieldAddr 1 (.tmp 23), none⟩,
  ⟨(some 25), .load1 (.tmp 24), none⟩,
  ⟨(some 26), .mov (.tmp 4), none⟩,
  ⟨(some 27), .bin .sub (.prim .int) (.tmp 26) (.const (.int .i64 1)), none⟩,
  ⟨(some 28), .slice (.sl 1) (.tmp 25) none (some (.tmp 27)) none, none⟩,
  ⟨(some 29), .nilCheck (.tmp 21), none⟩,
  ⟨(some 30), .fieldAddr 1 (.tmp 29), none⟩,
  ⟨none, .store 1 (.tmp 30) (.tmp 28), none⟩])
  (.seq (.ops [⟨(some 31), .mov (.tmp 5), none⟩,
  ⟨(some 2), .mov (.tmp 31), none⟩,
  ⟨(some 3), .mov (.const (.bool true)), none⟩])
  .ret)))
  .skip)))
  (.seq (.seq (.draw [⟨0, ⟨(some 32), .mov (.tmp 0), none⟩, []⟩,
  ⟨1, ⟨(some 33), .nilCheck (.tmp 32), none⟩, []⟩,
  ⟨2, ⟨(some 34), .fieldAddr 2 (.tmp 33), none⟩, []⟩,
  ⟨3, ⟨(some 35), .load1 (.tmp 34), none⟩, []⟩,
  ⟨4, ⟨(some 36), .mov (.tmp 0), none⟩, []⟩,
  ⟨5, ⟨(some 37), .nilCheck (.tmp 36), none⟩, []⟩,
  ⟨6, ⟨(some 38), .fieldAddr 0 (.tmp 37), none⟩, []⟩,
  ⟨7, ⟨(some 39), .load1 (.tmp 38), none⟩, []⟩,
  ⟨8, ⟨(some 40), .lenSl (.tmp 39), none⟩, []⟩,
  ⟨9, ⟨(some 41), .bin .eql (.prim .int) (.tmp 35) (.tmp 40), none⟩, []⟩])
  (.cond (.tmp 41) (.seq (.ops [⟨(some 2), .mov (.const (.int .i64 0)), none⟩,
  ⟨(some 3), .mov (.const (.bool false)), none⟩])
  .ret)
  .skip))
  (.seq (.ops [⟨(some 42), .mov (.tmp 0), none⟩,
  ⟨(some 43), .nilCheck (.tmp 42), none⟩,
  ⟨(some 44), .fieldAddr 2 (.tmp 43), none⟩,
  ⟨(some 45), .load1 (.tmp 44), none⟩,
  ⟨(some 46), .bin .add (.prim .int) (.tmp 45) (.const (.int .i64 1)), none⟩,
  ⟨(some 47), .nilCheck (.tmp 42), none⟩,
  ⟨(some 48), .fieldAddr 2 (.tmp 47), none⟩,
  ⟨none, .store 1 (.tmp 48) (.tmp 46), none⟩])
  (.seq (.ops [⟨(some 49), .mov (.tmp 0), none⟩,
  ⟨(some 50), .nilCheck (.tmp 49), none⟩,
  ⟨(some 51), .fieldAddr 2 (.tmp 50), none⟩,
  ⟨(some 52), .load1 (.tmp 51), none⟩,
  ⟨(some 53), .bin .sub (.prim .int) (.tmp 52) (.const (.int .i64 1)), none⟩,
  ⟨(some 2), .mov (.tmp 53), none⟩,
  ⟨(some 3), .mov (.const (.bool true)), none⟩])
  .ret))))) }
theorem c160 : compFunc Tryz.prog mts Tryz.f160 = some a160 := by kernel_rfl
def a161 : AFunc := { ntmps := 24, results := [.tmp 4, .tmp 5], body := (.seq (.ops [⟨(some 4), .mov (.const (.int .i64 0)), none⟩,
  ⟨(some 5), .mov (.const (.int .i64 0)), none⟩])
  (.seq (.block 0 (.seq (.ops [⟨(some 7), .mov (.tmp 0), none⟩,
  ⟨(some 8), .bin .lss (.prim .int) (.tmp 7) (.const (.int .i64 1)), none⟩,
  ⟨(some 9), .mov (.tmp 8), none⟩,
  ⟨(some 10), .mov (.tmp 0), (some (9, false))⟩,
  ⟨(some 11), .bin .gtr (.prim .int) (.tmp 10) (.const (.int .i64 1000)), (some (9, false))⟩,
  ⟨(some 12), .pick (.tmp 9) (.const (.bool true)) (.tmp 11), none⟩,
  ⟨(some 6), .mov (.tmp 12), none⟩])
  (.cond (.tmp 6) (.seq (.ops [⟨(some 4), .mov (.const (.int .i64 0)), none⟩,
  ⟨(some 5), .mov (.const (.int .i64 2)), none⟩])
  .ret)
  (.seq (.ops [⟨(some 14), .mov (.tmp 1), none⟩,
  ⟨(some 15), .bin .lss (.prim .int) (.tmp 14) (.const (.int .i64 1)), none⟩,
  ⟨(some 16), .mov (.tmp 15), none⟩,
  ⟨(some 17), .mov (.tmp 1), (some (16, false))⟩,
  ⟨(some 18), .bin .gtr (.prim .int) (.tmp 17) (.const (.int .i64 4503599627370496)), (some (16, false))⟩,
  ⟨(some 19), .pick (.tmp 16) (.const (.bool true)) (.tmp 18), none⟩,
  ⟨(some 13), .mov (.tmp 19), none⟩])
  (.cond (.tmp 13) (.seq (.ops [⟨(some 4), .mov (.const (.int .i64 0)), none⟩,
  ⟨(some 5), .mov (.const (.int .i64 8)), none⟩])
  .ret)
  .skip)))))
  (.seq (.ops [⟨(some 20), .mov (.tmp 1), none⟩,
  ⟨(some 21), .bin .mul (.prim .int) (.tmp 20) (.const (.int .i64 1024)), none⟩,
  ⟨(some 22), .mov (.tmp 0), none⟩,
  ⟨(some 23), .bin .add (.prim .int) (.tmp 21) (.tmp 22), none⟩,
  ⟨(some 4), .mov (.tmp 23), none⟩,
  ⟨(some 5), .mov (.const (.int .i64 0)), none⟩])
  .ret))) }
theorem c161 : compFunc Tryz.prog mts Tryz.f161 = some a161 := by kernel_rfl
def a162 : AFunc := { ntmps := 21, results := [.tmp 2], body := (.seq (.ops [⟨(some 2), .mov (.const (.int .i64 0)), none⟩])
  (.seq (.block 0 (.seq (.ops [⟨(some 6), .mov (.tmp 0), none⟩,
  ⟨(some 7), .bin .eql (.prim .int) (.tmp 6) (.const (.int .i64 0)), none⟩,
  ⟨(some 5), .mov (.tmp 7), none⟩])
  (.cond (.tmp 5) (.seq (.ops [⟨(some 2), .mov (.const (.int .i64 0)), none⟩])
  .ret)
  (.seq (.ops [⟨(some 9), .mov (.tmp 0), none⟩,
  ⟨(some 10), .bin .lss (.prim .int) (.tmp 9) (.const (.int .i64 0)), none⟩,
  ⟨(some 8), .mov (.tmp 10), none⟩])
  (.cond (.tmp 8) (.seq (.ops [⟨(some 2), .mov (.const (.int .i64 2)), none⟩])
  .ret)
  .skip)))))
  (.seq (.seq (.ops [⟨(some 12), .mov (.tmp 0), none⟩,
  ⟨(some 13), .bin .rem (.prim .int) (.tmp 12) (.const (.int .i64 1024)), none⟩,
  ⟨(some 14), .mov (.tmp 0), none⟩,
  ⟨(some 15), .bin .quo (.prim .int) (.tmp 14) (.const (.int .i64 1024)), none⟩,
  ⟨(some 16), .call (.func 161) [(.tmp 13), (.tmp 15)], none⟩,
  ⟨(some 11), .mov (.tmp 16), none⟩,
  ⟨(some 17), .extract (.tmp 11) 0, none⟩,
  ⟨(some 18), .extract (.tmp 11) 1, none⟩,
  ⟨(some 3), .mov (.tmp 17), none⟩,
  ⟨(some 4), .mov (.tmp 18), none⟩])
  (.seq (.ops [⟨(some 19), .mov (.tmp 4), none⟩,
  ⟨(some 20), .bin .neq (.prim .int) (.tmp 19) (.const (.int .i64 0)), none⟩])
  (.cond (.tmp 20) (.seq (.ops [⟨(some 2), .mov (.const (.int .i64 3)), none⟩])
  .ret)
  .skip)))
  (.seq (.ops [⟨(some 2), .mov (.const (.int .i64 1)), none⟩])
  .ret)))) }
theorem c162 : compFunc Tryz.prog mts Tryz.f162 = some a162 := by kernel_rfl
def a163 : AFunc := { ntmps := 8, results := [.tmp 2], body := (.seq (.ops [⟨(some 2), .mov (.const (.int .i64 0)), none⟩])
  (.seq (.seq (.ops [⟨(some 3), .mov (.tmp 0), none⟩,
  ⟨(some 4), .call (.func 162) [(.tmp 3)], none⟩,
  ⟨(some 5), .bin .neq (.prim .int) (.tmp 4) (.const (.int .i64 1)), none⟩])
  (.cond (.tmp 5) (.seq (.ops [⟨(some 2), .mov (.const (.int .i64 0)), none⟩])
  .ret)
  .skip))
  (.seq (.ops [⟨(some 6), .mov (.tmp 0), none⟩,
  ⟨(some 7), .bin .rem (.prim .int) (.tmp 6) (.const (.int .i64 1024)), none⟩,
  ⟨(some 2), .mov (.tmp 7), none⟩])
  .ret))) }
theorem c163 : compFunc Tryz.prog mts Tryz.f163 = some a163 := by kernel_rfl
def a182 : AFunc := { ntmps := 6, results := [.tmp 2], body := (.seq (.ops [⟨(some 2), .mov (.const (.int .i64 0)), none⟩])
  (.seq (.ops [⟨(some 3), .mov (.tmp 0), none⟩,
  ⟨(some 4), .minmax true (.tmp 3) [(.const (.int .i64 0))], none⟩,
  ⟨(some 5), .minmax false (.tmp 4) [(.const (.int .i64 64))], none⟩,
  ⟨(some 2), .mov (.tmp 5), none⟩])
  .ret)) }
theorem c182 : compFunc Tryz.prog mts Tryz.f182 = some a182 := by kernel_rfl
def a183 : AFunc := { ntmps := 47, results := [.tmp 4], body := (.seq (.ops [⟨(some 4), .mov (.const (.pointer none)), none⟩])
  (.seq (.ops [⟨(some 7), .mov (.tmp 1), none⟩,
  ⟨(some 8), .call (.func 163) [(.tmp 7)], none⟩,
  ⟨(some 9), .bin .sub (.prim .int) (.tmp 8) (.const (.int .i64 1)), none⟩,
  ⟨(some 5), .mov (.tmp 9), none⟩])
  (.seq (.seq (.ops [⟨(some 10), .mov (.tmp 0), none⟩,
  ⟨(some 11), .call (.func 132) [(.tmp 10)], none⟩,
  ⟨(some 12), .un .not (.tmp 11), none⟩,
  ⟨(some 13), .mov (.tmp 12), none⟩,
  ⟨(some 14), .mov (.tmp 5), (some (13, false))⟩,
  ⟨(some 15), .bin .lss (.prim .int) (.tmp 14) (.const (.int .i64 0)), (some (13, false))⟩,
  ⟨(some 16), .pick (.tmp 13) (.const (.bool true)) (.tmp 15), none⟩,
  ⟨(some 17), .mov (.tmp 16), none⟩,
  ⟨(some 18), .mov (.tmp 5), (some (17, false))⟩,
  ⟨(some 19), .mov (.tmp 0), (some (17, false))⟩,
  ⟨(some 20), .nilCheck (.tmp 19), (some (17, false))⟩,
  ⟨(some 21), .fieldAddr 0 (.tmp 20), (some (17, false))⟩,
  ⟨(some 22), .load1 (.tmp 21), (some (17, false))⟩,
  ⟨(some 23), .lenSl (.tmp 22), (some (17, false))⟩,
  ⟨(some 24), .bin .geq (.prim .int) (.tmp 18) (.tmp 23), (some (17, false))⟩,
  ⟨(some 25), .pick (.tmp 17) (.const (.bool true)) (.tmp 24), none⟩])
  (.cond (.tmp 25) (.seq (.ops [⟨(some 4), .mov (.const (.pointer none)), none⟩])
  .ret)
  .skip))
  (.seq (.ops [⟨(some 26), .mov (.tmp 0), none⟩,
  ⟨(some 27), .nilCheck (.tmp 26), none⟩,
  ⟨(some 28), .fieldAddr 0 (.tmp 27), none⟩,
  ⟨(some 29), .load1 (.tmp 28), none⟩,
  ⟨(some 30), .mov (.tmp 5), none⟩,
  ⟨(some 31), .indexAddrSl 11 (.tmp 29) (.tmp 30), none⟩,
  ⟨(some 6), .mov (.tmp 31), none⟩])
  (.seq (.seq (.draw [⟨0, ⟨(some 32), .mov (.tmp 6), none⟩, []⟩,
  ⟨1, ⟨(some 33), .nilCheck (.tmp 32), none⟩, []⟩,
  ⟨2, ⟨(some 34), .fieldAddr 10 (.tmp 33), none⟩, []⟩,
  ⟨3, ⟨(some 35), .load1 (.tmp 34), none⟩, []⟩,
  ⟨4, ⟨(some 36), .un .not (.tmp 35), none⟩, []⟩,
  ⟨5, ⟨(some 37), .mov (.tmp 36), none⟩, []⟩,
  ⟨6, ⟨(some 38), .mov (.tmp 6), (some (37, false))⟩, []⟩,
  ⟨7, ⟨(some 39), .nilCheck (.tmp 38), (some (37, false))⟩, []⟩,
  ⟨8, ⟨(some 40), .fieldAddr 9 (.tmp 39), (some (37, false))⟩, []⟩,
  ⟨9, ⟨(some 41), .load1 (.tmp 40), (some (37, false))⟩, []⟩,
  ⟨10, ⟨(some 42), .mov (.tmp 1), (some (37, false))⟩, []⟩,
  ⟨11, ⟨(some 43), .call (.func 217) [(.tmp 42)], (some (37, false))⟩, [⟨(some 41), .load1 (.tmp 40), (some (37, false))⟩]⟩,
  ⟨12, ⟨(some 44), .bin .neq (.prim .int) (.tmp 41) (.tmp 43), (some (37, false))⟩, []⟩,
  ⟨13, ⟨(some 45), .pick (.tmp 37) (.const (.bool true)) (.tmp 44), none⟩, []⟩])
  (.cond (.tmp 45) (.seq (.ops [⟨(some 4), .mov (.const (.pointer none)), none⟩])
  .ret)
  .skip))
  (.seq (.ops [⟨(some 46), .mov (.tmp 6), none⟩,
  ⟨(some 4), .mov (.tmp 46), none⟩])
  .ret)))))) }
theorem c183 : compFunc Tryz.prog mts Tryz.f183 = some a183 := by kernel_rfl
def a184 : AFunc := { ntmps := 8, results := [.cellN 4 9], body := (.seq (.ops [⟨(some 4), .alloc 146 [(.int .i64 0), (.string ⟨#[]⟩), (.string ⟨#[]⟩), (.int .u32 0), (.slice none 0 0), (.int .i64 0), (.slice none 0 0), (.int .i64 0), (.int .i64 0)], none⟩])
  (.seq (.ops [⟨(some 5), .mov (.tmp 0), none⟩,
  ⟨(some 6), .mov (.tmp 1), none⟩,
  ⟨(some 7), .build [(.int .i64 0), (.string ⟨#[]⟩), (.string ⟨#[]⟩), (.int .u32 0), (.slice none 0 0), (.int .i64 0), (.slice none 0 0), (.int .i64 0), (.int .i64 0)] [(0, 1, (.const (.int .i64 1))), (1, 1, (.tmp 5)), (2, 1, (.tmp 6)), (7, 1, (.const (.int .i64 1)))], none⟩,
  ⟨none, .store 9 (.tmp 4) (.tmp 7), none⟩])
  .ret)) }
theorem c184 : compFunc Tryz.prog mts Tryz.f184 = some a184 := by kernel_rfl
def a188 : AFunc := { ntmps := 13, results := [.tmp 2], body := (.seq (.ops [⟨(some 1), .box 193 (.tmp 0), none⟩,
  ⟨(some 2), .mov (.const (.bool false)), none⟩])
  (.seq (.ops [⟨(some 3), .fieldAddr 0 (.tmp 1), none⟩,
  ⟨(some 4), .load1 (.tmp 3), none⟩,
  ⟨(some 5), .lenStr (.tmp 4), none⟩,
  ⟨(some 6), .bin .gtr (.prim .int) (.tmp 5) (.const (.int .i64 16)), none⟩,
  ⟨(some 7), .mov (.tmp 6), none⟩,
  ⟨(some 8), .fieldAddr 1 (.tmp 1), (some (7, false))⟩,
  ⟨(some 9), .load1 (.tmp 8), (some (7, false))⟩,
  ⟨(some 10), .lenStr (.tmp 9), (some (7, false))⟩,
  ⟨(some 11), .bin .gtr (.prim .int) (.tmp 10) (.const (.int .i64 16)), (some (7, false))⟩,
  ⟨(some 12), .pick (.tmp 7) (.const (.bool true)) (.tmp 11), none⟩,
  ⟨(some 2), .mov (.tmp 12), none⟩])
  .ret)) }
theorem c188 : compFunc Tryz.prog mts Tryz.f188 = some a188 := by kernel_rfl
def a189 : AFunc := { ntmps := 9, results := [.tmp 4], body := (.seq (.ops [⟨(some 4), .mov (.const (.bool false)), none⟩])
  (.seq (.ops [⟨(some 5), .mov (.tmp 0), none⟩,
  ⟨(some 6), .mov (.tmp 1), none⟩,
  ⟨(some 7), .call (.func 218) [(.tmp 5), (.tmp 6)], none⟩,
  ⟨(some 8), .bin .geq (.prim .int) (.tmp 7) (.const (.int .i64 0)), none⟩,
  ⟨(some 4), .mov (.tmp 8), none⟩])
  .ret)) }
theorem c189 : compFunc Tryz.prog mts Tryz.f189 = some a189 := by kernel_rfl
def a190 : AFunc := { ntmps := 26, results := [.tmp 4], body := (.seq (.ops [⟨(some 4), .mov (.const (.bool false)), none⟩])
  (.seq (.seq (.ops [⟨(some 6), .mov (.tmp 0), none⟩,
  ⟨(some 7), .lenSl (.tmp 6), none⟩,
  ⟨(some 8), .mov (.tmp 1), none⟩,
  ⟨(some 9), .lenSl (.tmp 8), none⟩,
  ⟨(some 10), .bin .neq (.prim .int) (.tmp 7) (.tmp 9), none⟩])
  (.cond (.tmp 10) (.seq (.ops [⟨(some 4), .mov (.const (.bool false)), none⟩])
  .ret)
  .skip))
  (.seq (.seq (.ops [⟨(some 11), .mov (.tmp 0), none⟩,
  ⟨(some 12), .lenSl (.tmp 11), none⟩,
  ⟨(some 13), .mov (.const (.int .i64 0)), none⟩])
  (.block 0 (.loop (.seq (.ops [⟨(some 14), .bin .lss (.prim .int) (.tmp 13) (.tmp 12), none⟩])
  (.seq (.cond (.tmp 14) .skip
  (.exit 0))
  (.seq (.block 1 (.seq (.ops [⟨(some 15), .mov (.tmp 13), none⟩,
  ⟨(some 5), .mov (.tmp 15), none⟩])
  (.seq (.draw [⟨0, ⟨(some 16), .mov (.tmp 0), none⟩, []⟩,
  ⟨1, ⟨(some 17), .mov (.tmp 5), none⟩, []⟩,
  ⟨2, ⟨(some 18), .indexAddrSl 1 (.tmp 16) (.tmp 17), none⟩, []⟩,
  ⟨3, ⟨(some 19), .load1 (.tmp 18), none⟩, []⟩,
  ⟨4, ⟨(some 20), .mov (.tmp 1), none⟩, []⟩,
  ⟨5, ⟨(some 21), .mov (.tmp 5), none⟩, []⟩,
  ⟨6, ⟨(some 22), .indexAddrSl 1 (.tmp 20) (.tmp 21), none⟩, []⟩,
  ⟨7, ⟨(some 23), .load1 (.tmp 22), none⟩, []⟩,
  ⟨8, ⟨(some 24), .bin .neq (.prim .int) (.tmp 19) (.tmp 23), none⟩, []⟩])
  (.cond (.tmp 24) (.seq (.ops [⟨(some 4), .mov (.const (.bool false)), none⟩])
  .ret)
  .skip))))
  (.ops [⟨(some 25), .bin .add (.prim .int) (.tmp 13) (.const (.int .i64 1)), none⟩,
  ⟨(some 13), .mov (.tmp 25), none⟩])))))))
  (.seq (.ops [⟨(some 4), .mov (.const (.bool true)), none⟩])
  .ret)))) }
theorem c190 : compFunc Tryz.prog mts Tryz.f190 = some a190 := by kernel_rfl
def a191 : AFunc := { ntmps := 26, results := [.tmp 4], body := (.seq (.ops [⟨(some 4), .mov (.const (.bool false)), none⟩])
  (.seq (.seq (.ops [⟨(some 6), .mov (.tmp 0), none⟩,
  ⟨(some 7), .lenSl (.tmp 6), none⟩,
  ⟨(some 8), .mov (.tmp 1), none⟩,
  ⟨(some 9), .lenSl (.tmp 8), none⟩,
  ⟨(some 10), .bin .neq (.prim .int) (.tmp 7) (.tmp 9), none⟩])
  (.cond (.tmp 10) (.seq (.ops [⟨(some 4), .mov (.const (.bool false)), none⟩])
  .ret)
  .skip))
  (.seq (.seq (.ops [⟨(some 11), .mov (.tmp 0), none⟩,
  ⟨(some 12), .lenSl (.tmp 11), none⟩,
  ⟨(some 13), .mov (.const (.int .i64 0)), none⟩])
  (.block 0 (.loop (.seq (.ops [⟨(some 14), .bin .lss (.prim .int) (.tmp 13) (.tmp 12), none⟩])
  (.seq (.cond (.tmp 14) .skip
  (.exit 0))
  (.seq (.block 1 (.seq (.ops [⟨(some 15), .mov (.tmp 13), none⟩,
  ⟨(some 5), .mov (.tmp 15), none⟩])
  (.seq (.draw [⟨0, ⟨(some 16), .mov (.tmp 0), none⟩, []⟩,
  ⟨1, ⟨(some 17), .mov (.tmp 5), none⟩, []⟩,
  ⟨2, ⟨(some 18), .indexAddrSl 2 (.tmp 16) (.tmp 17), none⟩, []⟩,
  ⟨3, ⟨(some 19), .loadN 2 (.tmp 18), none⟩, []⟩,
  ⟨4, ⟨(some 20), .mov (.tmp 1), none⟩, []⟩,
  ⟨5, ⟨(some 21), .mov (.tmp 5), none⟩, []⟩,
  ⟨6, ⟨(some 22), .indexAddrSl 2 (.tmp 20) (.tmp 21), none⟩, []⟩,
  ⟨7, ⟨(some 23), .loadN 2 (.tmp 22), none⟩, []⟩,
  ⟨8, ⟨(some 24), .bin .neq (.agg [.str, .str]) (.tmp 19) (.tmp 23), none⟩, []⟩])
  (.cond (.tmp 24) (.seq (.ops [⟨(some 4), .mov (.const (.bool false)), none⟩])
  .ret)
  .skip))))
  (.ops [⟨(some 25), .bin .add (.prim .int) (.tmp 13) (.const (.int .i64 1)), none⟩,
  ⟨(some 13), .mov (.tmp 25), none⟩])))))))
  (.seq (.ops [⟨(some 4), .mov (.const (.bool true)), none⟩])
  .ret)))) }
theorem c191 : compFunc Tryz.prog mts Tryz.f191 = some a191 := by kernel_rfl
def a194 : AFunc := { ntmps := 27, results := [.tmp 2], body := (.seq (.ops [⟨(some 2), .mov (.const (.bool false)), none⟩])
  (.seq (.seq (.ops [⟨(some 4), .mov (.tmp 0), none⟩,
  ⟨(some 5), .lenSl (.tmp 4), none⟩,
  ⟨(some 6), .mov (.const (.int .i64 0)), none⟩])
  (.block 0 (.loop (.seq (.ops [⟨(some 7), .bin .lss (.prim .int) (.tmp 6) (.tmp 5), none⟩])
  (.seq (.cond (.tmp 7) .skip
  (.exit 0))
  (.seq (.block 1 (.seq (.ops [⟨(some 8), .mov (.tmp 6), none⟩,
  ⟨(some 3), .mov (.tmp 8), none⟩])
  (.seq (.draw [⟨0, ⟨(some 9), .mov (.tmp 3), none⟩, []⟩,
  ⟨1, ⟨(some 10), .bin .gtr (.prim .int) (.tmp 9) (.const (.int .i64 0)), none⟩, []⟩,
  ⟨2, ⟨(some 11), .mov (.tmp 10), none⟩, []⟩,
  ⟨3, ⟨(some 12), .mov (.tmp 0), (some (11, true))⟩, []⟩,
  ⟨4, ⟨(some 13), .mov (.tmp 3), (some (11, true))⟩, []⟩,
  ⟨5, ⟨(some 14), .bin .sub (.prim .int) (.tmp 13) (.const (.int .i64 1)), (some (11, true))⟩, []⟩,
  ⟨6, ⟨(some 15), .indexAddrSl 2 (.tmp 12) (.tmp 14), (some (11, true))⟩, []⟩,
  ⟨7, ⟨(some 16), .fieldAddr 0 (.tmp 15), (some (11, true))⟩, []⟩,
  ⟨8, ⟨(some 17), .load1 (.tmp 16), (some (11, true))⟩, []⟩,
  ⟨9, ⟨(some 18), .mov (.tmp 0), (some (11, true))⟩, []⟩,
  ⟨10, ⟨(some 19), .mov (.tmp 3), (some (11, true))⟩, []⟩,
  ⟨11, ⟨(some 20), .indexAddrSl 2 (.tmp 18) (.tmp 19), (some (11, true))⟩, []⟩,
  ⟨12, ⟨(some 21), .fieldAddr 0 (.tmp 20), (some (11, true))⟩, []⟩,
  ⟨13, ⟨(some 22), .load1 (.tmp 21), (some (11, true))⟩, []⟩,
  ⟨14, ⟨(some 23), .call (.func 221) [(.tmp 17), (.tmp 22)], (some (11, true))⟩, []⟩,
  ⟨15, ⟨(some 24), .bin .geq (.prim .int) (.tmp 23) (.const (.int .i64 0)), (some (11, true))⟩, []⟩,
  ⟨16, ⟨(some 25), .pick (.tmp 11) (.tmp 24) (.const (.bool false)), none⟩, []⟩])
  (.cond (.tmp 25) (.seq (.ops [⟨(some 2), .mov (.const (.bool false)), none⟩])
  .ret)
  .skip))))
  (.ops [⟨(some 26), .bin .add (.prim .int) (.tmp 6) (.const (.int .i64 1)), none⟩,
  ⟨(some 6), .mov (.tmp 26), none⟩])))))))
  (.seq (.ops [⟨(some 2), .mov (.const (.bool true)), none⟩])
  .ret))) }
theorem c194 : compFunc Tryz.prog mts Tryz.f194 = some a194 := by kernel_rfl
def a215 : AFunc := { ntmps := 11, results := [.tmp 4, .tmp 5], body := (.seq (.ops [⟨(some 4), .mov (.const (.int .i64 0)), none⟩,
  ⟨(some 5), .mov (.const (.bool false)), none⟩])
  (.seq (.ops [⟨(some 6), .mov (.tmp 0), none⟩,
  ⟨(some 7), .mov (.tmp 1), none⟩,
  ⟨(some 8), .call (.func 237) [(.tmp 6), (.tmp 7), (.func 238)], none⟩,
  ⟨(some 9), .extract (.tmp 8) 0, none⟩,
  ⟨(some 10), .extract (.tmp 8) 1, none⟩,
  ⟨(some 4), .mov (.tmp 9), none⟩,
  ⟨(some 5), .mov (.tmp 10), none⟩])
  .ret)) }
theorem c215 : compFunc Tryz.prog mts Tryz.f215 = some a215 := by kernel_rfl
def a217 : AFunc := { ntmps := 8, results := [.tmp 2], body := (.seq (.ops [⟨(some 2), .mov (.const (.int .i64 0)), none⟩])
  (.seq (.seq (.ops [⟨(some 3), .mov (.tmp 0), none⟩,
  ⟨(some 4), .call (.func 162) [(.tmp 3)], none⟩,
  ⟨(some 5), .bin .neq (.prim .int) (.tmp 4) (.const (.int .i64 1)), none⟩])
  (.cond (.tmp 5) (.seq (.ops [⟨(some 2), .mov (.const (.int .i64 0)), none⟩])
  .ret)
  .skip))
  (.seq (.ops [⟨(some 6), .mov (.tmp 0), none⟩,
  ⟨(some 7), .bin .quo (.prim .int) (.tmp 6) (.const (.int .i64 1024)), none⟩,
  ⟨(some 2), .mov (.tmp 7), none⟩])
  .ret))) }
theorem c217 : compFunc Tryz.prog mts Tryz.f217 = some a217 := by kernel_rfl
def a218 : AFunc := { ntmps := 19, results := [.tmp 4], body := (.seq (.ops [⟨(some 4), .mov (.const (.int .i64 0)), none⟩])
  (.seq (.seq (.ops [⟨(some 6), .mov (.tmp 0), none⟩,
  ⟨(some 7), .lenSl (.tmp 6), none⟩,
  ⟨(some 8), .mov (.const (.int .i64 0)), none⟩])
  (.block 0 (.loop (.seq (.ops [⟨(some 9), .bin .lss (.prim .int) (.tmp 8) (.tmp 7), none⟩])
  (.seq (.cond (.tmp 9) .skip
  (.exit 0))
  (.seq (.block 1 (.seq (.ops [⟨(some 10), .mov (.tmp 8), none⟩,
  ⟨(some 5), .mov (.tmp 10), none⟩])
  (.seq (.ops [⟨(some 11), .mov (.tmp 1), none⟩,
  ⟨(some 12), .mov (.tmp 0), none⟩,
  ⟨(some 13), .mov (.tmp 5), none⟩,
  ⟨(some 14), .indexAddrSl 2 (.tmp 12) (.tmp 13), none⟩,
  ⟨(some 15), .loadN 2 (.tmp 14), none⟩,
  ⟨(some 16), .call (.tmp 11) [(.tmp 15)], none⟩])
  (.cond (.tmp 16) (.seq (.ops [⟨(some 17), .mov (.tmp 5), none⟩,
  ⟨(some 4), .mov (.tmp 17), none⟩])
  .ret)
  .skip))))
  (.ops [⟨(some 18), .bin .add (.prim .int) (.tmp 8) (.const (.int .i64 1)), none⟩,
  ⟨(some 8), .mov (.tmp 18), none⟩])))))))
  (.seq (.ops [⟨(some 4), .mov (.const (.int .i64 (-1))), none⟩])
  .ret))) }
theorem c218 : compFunc Tryz.prog mts Tryz.f218 = some a218 := by kernel_rfl
def a221 : AFunc := { ntmps := 39, results := [.tmp 4], body := (.seq (.ops [⟨(some 4), .mov (.const (.int .i64 0)), none⟩])
  (.seq (.ops [⟨(some 6), .mov (.tmp 0), none⟩,
  ⟨(some 7), .mov (.tmp 1), none⟩,
  ⟨(some 8), .call (.func 241) [(.tmp 6), (.tmp 7)], none⟩,
  ⟨(some 5), .mov (.tmp 8), none⟩])
  (.seq (.block 0 (.seq (.ops [⟨(some 10), .mov (.tmp 5), none⟩,
  ⟨(some 11), .mov (.tmp 0), none⟩,
  ⟨(some 12), .lenStr (.tmp 11), none⟩,
  ⟨(some 13), .bin .eql (.prim .int) (.tmp 10) (.tmp 12), none⟩,
  ⟨(some 14), .mov (.tmp 13), none⟩,
  ⟨(some 15), .mov (.tmp 5), (some (14, true))⟩,
  ⟨(some 16), .mov (.tmp 1), (some (14, true))⟩,
  ⟨(some 17), .lenStr (.tmp 16), (some (14, true))⟩,
  ⟨(some 18), .bin .eql (.prim .int) (.tmp 15) (.tmp 17), (some (14, true))⟩,
  ⟨(some 19), .pick (.tmp 14) (.tmp 18) (.const (.bool false)), none⟩,
  ⟨(some 9), .mov (.tmp 19), none⟩])
  (.cond (.tmp 9) (.seq (.ops [⟨(some 4), .mov (.const (.int .i64 0)), none⟩])
  .ret)
  (.seq (.ops [⟨(some 21), .mov (.tmp 5), none⟩,
  ⟨(some 22), .mov (.tmp 0), none⟩,
  ⟨(some 23), .lenStr (.tmp 22), none⟩,
  ⟨(some 24), .bin .eql (.prim .int) (.tmp 21) (.tmp 23), none⟩,
  ⟨(some 20), .mov (.tmp 24), none⟩])
  (.cond (.tmp 20) (.seq (.ops [⟨(some 4), .mov (.const (.int .i64 (-1))), none⟩])
  .ret)
  (.seq (.draw [⟨0, ⟨(some 26), .mov (.tmp 5), none⟩, []⟩,
  ⟨1, ⟨(some 27), .mov (.tmp 1), none⟩, []⟩,
  ⟨2, ⟨(some 28), .lenStr (.tmp 27), none⟩, []⟩,
  ⟨3, ⟨(some 29), .bin .eql (.prim .int) (.tmp 26) (.tmp 28), none⟩, []⟩,
  ⟨4, ⟨(some 30), .mov (.tmp 29), none⟩, []⟩,
  ⟨5, ⟨(some 31), .mov (.tmp 0), (some (30, false))⟩, []⟩,
  ⟨6, ⟨(some 32), .mov (.tmp 5), (some (30, false))⟩, []⟩,
  ⟨7, ⟨(some 33), .indexStr (.tmp 31) (.tmp 32), (some (30, false))⟩, []⟩,
  ⟨8, ⟨(some 34), .mov (.tmp 1), (some (30, false))⟩, []⟩,
  ⟨9, ⟨(some 35), .mov (.tmp 5), (some (30, false))⟩, []⟩,
  ⟨10, ⟨(some 36), .indexStr (.tmp 34) (.tmp 35), (some (30, false))⟩, []⟩,
  ⟨11, ⟨(some 37), .bin .gtr (.prim .int) (.tmp 33) (.tmp 36), (some (30, false))⟩, []⟩,
  ⟨12, ⟨(some 38), .pick (.tmp 30) (.const (.bool true)) (.tmp 37), none⟩, []⟩,
  ⟨13, ⟨(some 25), .mov (.tmp 38), none⟩, []⟩])
  (.cond (.tmp 25) (.seq (.ops [⟨(some 4), .mov (.const (.int .i64 1)), none⟩])
  .ret)
  .skip)))))))
  (.seq (.ops [⟨(some 4), .mov (.const (.int .i64 (-1))), none⟩])
  .ret)))) }
theorem c221 : compFunc Tryz.prog mts Tryz.f221 = some a221 := by kernel_rfl
def a237 : AFunc := { ntmps := 49, results := [.tmp 6, .tmp 7], body := (.seq (.ops [⟨(some 6), .mov (.const (.int .i64 0)), none⟩,
  ⟨(some 7), .mov (.const (.bool false)), none⟩])
  (.seq (.ops [⟨(some 12), .mov (.tmp 0), none⟩,
  ⟨(some 13), .lenSl (.tmp 12), none⟩,
  ⟨(some 8), .mov (.tmp 13), none⟩])
  (.seq (.ops [⟨(some 14), .mov (.tmp 8), none⟩,
  ⟨(some 9), .mov (.const (.int .i64 0)), none⟩,
  ⟨(some 10), .mov (.tmp 14), none⟩])
  (.seq (.block 0 (.loop (.seq (.seq (.ops [⟨(some 15), .mov (.tmp 9), none⟩,
  ⟨(some 16), .mov (.tmp 10), none⟩,
  ⟨(some 17), .bin .lss (.prim .int) (.tmp 15) (.tmp 16), none⟩])
  (.cond (.tmp 17) .skip
  (.exit 0)))
  (.block 1 (.seq (.ops [⟨(some 18), .mov (.tmp 9), none⟩,
  ⟨(some 19), .mov (.tmp 10), none⟩,
  ⟨(some 20), .bin .add (.prim .int) (.tmp 18) (.tmp 19), none⟩,
  ⟨(some 21), .convInt .u64 (.tmp 20), none⟩,
  ⟨(some 22), .bin .shr (.prim .int) (.tmp 21) (.const (.int .u64 1)), none⟩,
  ⟨(some 23), .convInt .i64 (.tmp 22), none⟩,
  ⟨(some 11), .mov (.tmp 23), none⟩])
  (.seq (.ops [⟨(some 24), .mov (.tmp 2), none⟩,
  ⟨(some 25), .mov (.tmp 0), none⟩,
  ⟨(some 26), .mov (.tmp 11), none⟩,
  ⟨(some 27), .indexAddrSl 2 (.tmp 25) (.tmp 26), none⟩,
  ⟨(some 28), .loadN 2 (.tmp 27), none⟩,
  ⟨(some 29), .mov (.tmp 1), none⟩,
  ⟨(some 30), .call (.tmp 24) [(.tmp 28), (.tmp 29)], none⟩,
  ⟨(some 31), .bin .lss (.prim .int) (.tmp 30) (.const (.int .i64 0)), none⟩])
  (.cond (.tmp 31) (.ops [⟨(some 32), .mov (.tmp 11), none⟩,
  ⟨(some 33), .bin .add (.prim .int) (.tmp 32) (.const (.int .i64 1)), none⟩,
  ⟨(some 9), .mov (.tmp 33), none⟩])
  (.ops [⟨(some 34), .mov (.tmp 11), none⟩,
  ⟨(some 10), .mov (.tmp 34), none⟩]))))))))
  (.seq (.ops [⟨(some 35), .mov (.tmp 9), none⟩,
  ⟨(some 36), .mov (.tmp 9), none⟩,
  ⟨(some 37), .mov (.tmp 8), none⟩,
  ⟨(some 38), .bin .lss (.prim .int) (.tmp 36) (.tmp 37), none⟩,
  ⟨(some 39), .mov (.tmp 38), none⟩,
  ⟨(some 40), .mov (.tmp 2), (some (39, true))⟩,
  ⟨(some 41), .mov (.tmp 0), (some (39, true))⟩,
  ⟨(some 42), .mov (.tmp 9), (some (39, true))⟩,
  ⟨(some 43), .indexAddrSl 2 (.tmp 41) (.tmp 42), (some (39, true))⟩,
  ⟨(some 44), .loadN 2 (.tmp 43), (some (39, true))⟩,
  ⟨(some 45), .mov (.tmp 1), (some (39, true))⟩,
  ⟨(some 46), .call (.tmp 40) [(.tmp 44), (.tmp 45)], (some (39, true))⟩,
  ⟨(some 47), .bin .eql (.prim .int) (.tmp 46) (.const (.int .i64 0)), (some (39, true))⟩,
  ⟨(some 48), .pick (.tmp 39) (.tmp 47) (.const (.bool false)), none⟩,
  ⟨(some 6), .mov (.tmp 35), none⟩,
  ⟨(some 7), .mov (.tmp 48), none⟩])
  .ret))))) }
theorem c237 : compFunc Tryz.prog mts Tryz.f237 = some a237 := by kernel_rfl
def a238 : AFunc := { ntmps := 9, results := [.tmp 4], body := (.seq (.ops [⟨(some 2), .box 193 (.tmp 0), none⟩,
  ⟨(some 4), .mov (.const (.int .i64 0)), none⟩])
  (.seq (.ops [⟨(some 5), .fieldAddr 0 (.tmp 2), none⟩,
  ⟨(some 6), .load1 (.tmp 5), none⟩,
  ⟨(some 7), .mov (.tmp 1), none⟩,
  ⟨(some 8), .call (.func 221) [(.tmp 6), (.tmp 7)], none⟩,
  ⟨(some 4), .mov (.tmp 8), none⟩])
  .ret)) }
theorem c238 : compFunc Tryz.prog mts Tryz.f238 = some a238 := by kernel_rfl
def a241 : AFunc := { ntmps := 26, results := [.tmp 4], body := (.seq (.ops [⟨(some 4), .mov (.const (.int .i64 0)), none⟩])
  (.seq (.ops [⟨(some 7), .mov (.tmp 0), none⟩,
  ⟨(some 8), .lenStr (.tmp 7), none⟩,
  ⟨(some 9), .mov (.tmp 1), none⟩,
  ⟨(some 10), .lenStr (.tmp 9), none⟩,
  ⟨(some 11), .minmax false (.tmp 8) [(.tmp 10)], none⟩,
  ⟨(some 5), .mov (.tmp 11), none⟩])
  (.seq (.seq (.ops [⟨(some 12), .mov (.tmp 5), none⟩,
  ⟨(some 13), .mov (.const (.int .i64 0)), none⟩])
  (.block 0 (.loop (.seq (.ops [⟨(some 14), .bin .lss (.prim .int) (.tmp 13) (.tmp 12), none⟩])
  (.seq (.cond (.tmp 14) .skip
  (.exit 0))
  (.seq (.block 1 (.seq (.ops [⟨(some 15), .mov (.tmp 13), none⟩,
  ⟨(some 6), .mov (.tmp 15), none⟩])
  (.seq (.draw [⟨0, ⟨(some 16), .mov (.tmp 0), none⟩, []⟩,
  ⟨1, ⟨(some 17), .mov (.tmp 6), none⟩, []⟩,
  ⟨2, ⟨(some 18), .indexStr (.tmp 16) (.tmp 17), none⟩, []⟩,
  ⟨3, ⟨(some 19), .mov (.tmp 1), none⟩, []⟩,
  ⟨4, ⟨(some 20), .mov (.tmp 6), none⟩, []⟩,
  ⟨5, ⟨(some 21), .indexStr (.tmp 19) (.tmp 20), none⟩, []⟩,
  ⟨6, ⟨(some 22), .bin .neq (.prim .int) (.tmp 18) (.tmp 21), none⟩, []⟩])
  (.cond (.tmp 22) (.seq (.ops [⟨(some 23), .mov (.tmp 6), none⟩,
  ⟨(some 4), .mov (.tmp 23), none⟩])
  .ret)
  .skip))))
  (.ops [⟨(some 24), .bin .add (.prim .int) (.tmp 13) (.const (.int .i64 1)), none⟩,
  ⟨(some 13), .mov (.tmp 24), none⟩])))))))
  (.seq (.ops [⟨(some 25), .mov (.tmp 5), none⟩,
  ⟨(some 4), .mov (.tmp 25), none⟩])
  .ret)))) }
theorem c241 : compFunc Tryz.prog mts Tryz.f241 = some a241 := by kernel_rfl
def a272 : AFunc := { ntmps := 68, results := [], body := (.seq (.ops [⟨(some 3), .box 146 (.tmp 1), none⟩])
  (.seq (.seq (.ops [⟨(some 4), .mov (.tmp 0), none⟩,
  ⟨(some 5), .call (.func 273) [(.tmp 4)], none⟩,
  ⟨(some 6), .bin .eql (.prim .int) (.tmp 5) (.const (.int .i64 0)), none⟩])
  (.cond (.tmp 6) .ret
  .skip))
  (.seq (.ops [⟨(some 7), .mov (.tmp 0), none⟩,
  ⟨(some 8), .nilCheck (.tmp 7), none⟩,
  ⟨(some 9), .fieldAddr 4 (.tmp 8), none⟩,
  ⟨none, .store 1 (.tmp 9) (.const (.int .i64 0)), none⟩])
  (.seq (.ops [⟨(some 10), .fieldAddr 0 (.tmp 3), none⟩,
  ⟨(some 11), .load1 (.tmp 10), none⟩])
  (.block 0 (.seq (.block 5 (.block 4 (.block 3 (.seq (.block 2 (.seq (.block 1 (.seq (.seq (.seq (.ops [⟨(some 13), .bin .eql (.prim .int) (.tmp 11) (.const (.int .i64 5)), none⟩,
  ⟨(some 12), .mov (.tmp 13), none⟩])
  (.cond (.tmp 12) (.exit 1)
  .skip))
  (.seq (.seq (.ops [⟨(some 15), .bin .eql (.prim .int) (.tmp 11) (.const (.int .i64 2)), none⟩,
  ⟨(some 14), .mov (.tmp 15), none⟩])
  (.cond (.tmp 14) (.exit 2)
  .skip))
  (.seq (.seq (.ops [⟨(some 17), .bin .eql (.prim .int) (.tmp 11) (.const (.int .i64 1)), none⟩,
  ⟨(some 16), .mov (.tmp 17), none⟩])
  (.cond (.tmp 16) (.exit 3)
  .skip))
  (.seq (.seq (.ops [⟨(some 19), .bin .eql (.prim .int) (.tmp 11) (.const (.int .i64 6)), none⟩,
  ⟨(some 18), .mov (.tmp 19), none⟩])
  (.cond (.tmp 18) (.exit 4)
  .skip))
  (.seq (.ops [⟨(some 21), .bin .eql (.prim .int) (.tmp 11) (.const (.int .i64 3)), none⟩,
  ⟨(some 20), .mov (.tmp 21), none⟩])
  (.cond (.tmp 20) (.exit 5)
  .skip))))))
  (.exit 0)))
  (.seq (.ops [⟨(some 22), .mov (.tmp 0), none⟩,
  ⟨(some 23), .fieldAddr 5 (.tmp 3), none⟩,
  ⟨(some 24), .load1 (.tmp 23), none⟩,
  ⟨(some 25), .nilCheck (.tmp 22), none⟩,
  ⟨(some 26), .fieldAddr 4 (.tmp 25), none⟩,
  ⟨none, .store 1 (.tmp 26) (.tmp 24), none⟩])
  (.exit 0))))
  (.seq (.seq (.draw [⟨0, ⟨(some 27), .mov (.tmp 0), none⟩, []⟩,
  ⟨1, ⟨(some 28), .loadN 9 (.tmp 3), none⟩, []⟩,
  ⟨2, ⟨(some 29), .mov (.tmp 0), none⟩, []⟩,
  ⟨3, ⟨(some 30), .nilCheck (.tmp 29), none⟩, []⟩,
  ⟨4, ⟨(some 31), .fieldAddr 2 (.tmp 30), none⟩, []⟩,
  ⟨5, ⟨(some 32), .load1 (.tmp 31), none⟩, []⟩,
  ⟨6, ⟨(some 33), .mov (.tmp 0), none⟩, []⟩,
  ⟨7, ⟨(some 34), .nilCheck (.tmp 33), none⟩, []⟩,
  ⟨8, ⟨(some 35), .fieldAddr 3 (.tmp 34), none⟩, []⟩,
  ⟨9, ⟨(some 36), .load1 (.tmp 35), none⟩, []⟩,
  ⟨10, ⟨(some 37), .mov (.tmp 0), none⟩, []⟩,
  ⟨11, ⟨(some 38), .nilCheck (.tmp 37), none⟩, []⟩,
  ⟨12, ⟨(some 39), .fieldAddr 1 (.tmp 38), none⟩, []⟩,
  ⟨13, ⟨(some 40), .load1 (.tmp 39), none⟩, []⟩,
  ⟨14, ⟨(some 41), .call (.func 285) [(.tmp 32), (.tmp 36), (.tmp 40)], none⟩, [⟨(some 28), .loadN 9 (.tmp 3), none⟩]⟩,
  ⟨15, ⟨(some 42), .call (.func 284) [(.tmp 28), (.tmp 41)], none⟩, []⟩,
  ⟨16, ⟨(some 43), .nilCheck (.tmp 27), none⟩, []⟩,
  ⟨17, ⟨(some 44), .fieldAddr 4 (.tmp 43), none⟩, []⟩,
  ⟨18, ⟨none, .store 1 (.tmp 44) (.tmp 42), none⟩, []⟩])
  (.ops [⟨(some 45), .mov (.tmp 0), none⟩,
  ⟨(some 46), .nilCheck (.tmp 45), none⟩,
  ⟨(some 47), .fieldAddr 3 (.tmp 46), none⟩,
  ⟨(some 48), .load1 (.tmp 47), none⟩,
  ⟨(some 49), .bin .add (.prim .int) (.tmp 48) (.const (.int .i64 1)), none⟩,
  ⟨(some 50), .nilCheck (.tmp 45), none⟩,
  ⟨(some 51), .fieldAddr 3 (.tmp 50), none⟩,
  ⟨none, .store 1 (.tmp 51) (.tmp 49), none⟩]))
  (.exit 0))))))
  (.seq (.draw [⟨0, ⟨(some 53), .mov (.tmp 0), none⟩, []⟩,
  ⟨1, ⟨(some 54), .mov (.tmp 0), none⟩, []⟩,
  ⟨2, ⟨(some 55), .loadN 9 (.tmp 3), none⟩, []⟩,
  ⟨4, ⟨(some 57), .mov (.tmp 0), none⟩, []⟩,
  ⟨5, ⟨(some 58), .nilCheck (.tmp 57), none⟩, []⟩,
  ⟨6, ⟨(some 59), .fieldAddr 0 (.tmp 58), none⟩, []⟩,
  ⟨7, ⟨(some 60), .load1 (.tmp 59), none⟩, []⟩,
  ⟨3, ⟨(some 56), .call (.func 150) [(.tmp 55)], none⟩, [⟨(some 60), .load1 (.tmp 59), none⟩]⟩,
  ⟨8, ⟨(some 61), .call (.func 286) [(.tmp 56), (.tmp 60)], none⟩, []⟩,
  ⟨9, ⟨(some 52), .mov (.tmp 61), none⟩, []⟩,
  ⟨10, ⟨(some 62), .extract (.tmp 52) 0, none⟩, []⟩,
  ⟨11, ⟨(some 63), .extract (.tmp 52) 1, none⟩, []⟩,
  ⟨12, ⟨(some 64), .nilCheck (.tmp 53), none⟩, []⟩,
  ⟨13, ⟨(some 65), .fieldAddr 5 (.tmp 64), none⟩, []⟩,
  ⟨14, ⟨none, .store 1 (.tmp 65) (.tmp 62), none⟩, []⟩,
  ⟨15, ⟨(some 66), .nilCheck (.tmp 54), none⟩, []⟩,
  ⟨16, ⟨(some 67), .fieldAddr 6 (.tmp 66), none⟩, []⟩,
  ⟨17, ⟨none, .store 1 (.tmp 67) (.tmp 63), none⟩, []⟩])
  (.exit 0)))))))) }
theorem c272 : compFunc Tryz.prog mts Tryz.f272 = some a272 := by kernel_rfl
def a273 : AFunc := { ntmps := 9, results := [.tmp 2], body := (.seq (.ops [⟨(some 2), .mov (.const (.int .i64 0)), none⟩])
  (.seq (.seq (.ops [⟨(some 3), .mov (.tmp 0), none⟩,
  ⟨(some 4), .bin .eql .ptr (.tmp 3) (.const (.pointer none)), none⟩])
  (.cond (.tmp 4) (.seq (.ops [⟨(some 2), .mov (.const (.int .i64 0)), none⟩])
  .ret)
  .skip))
  (.seq (.ops [⟨(some 5), .mov (.tmp 0), none⟩,
  ⟨(some 6), .nilCheck (.tmp 5), none⟩,
  ⟨(some 7), .fieldAddr 4 (.tmp 6), none⟩,
  ⟨(some 8), .load1 (.tmp 7), none⟩,
  ⟨(some 2), .mov (.tmp 8), none⟩])
  .ret))) }
theorem c273 : compFunc Tryz.prog mts Tryz.f273 = some a273 := by kernel_rfl
def a286 : AFunc := { ntmps := 23, results := [.tmp 4, .tmp 5], body := (.seq (.ops [⟨(some 4), .mov (.const (.string ⟨#[]⟩)), none⟩,
  ⟨(some 5), .mov (.const (.bool false)), none⟩])
  (.seq (.ops [⟨(some 8), .mov (.tmp 0), none⟩,
  ⟨(some 9), .call (.func 295) [(.tmp 8)], none⟩,
  ⟨(some 0), .mov (.tmp 9), none⟩])
  (.seq (.ops [⟨(some 11), .mov (.tmp 0), none⟩,
  ⟨(some 12), .mov (.tmp 1), none⟩,
  ⟨(some 13), .call (.func 215) [(.tmp 11), (.tmp 12)], none⟩,
  ⟨(some 10), .mov (.tmp 13), none⟩,
  ⟨(some 14), .extract (.tmp 10) 0, none⟩,
  ⟨(some 15), .extract (.tmp 10) 1, none⟩,
  ⟨(some 6), .mov (.tmp 14), none⟩,
  ⟨(some 7), .mov (.tmp 15), none⟩])
  (.seq (.seq (.ops [⟨(some 16), .mov (.tmp 7), none⟩,
  ⟨(some 17), .un .not (.tmp 16), none⟩])
  (.cond (.tmp 17) (.seq (.ops [⟨(some 4), .mov (.const (.string ⟨#[]⟩)), none⟩,
  ⟨(some 5), .mov (.const (.bool false)), none⟩])
  .ret)
  .skip))
  (.seq (.ops [⟨(some 18), .mov (.tmp 0), none⟩,
  ⟨(some 19), .mov (.tmp 6), none⟩,
  ⟨(some 20), .indexAddrSl 2 (.tmp 18) (.tmp 19), none⟩,
  ⟨(some 21), .fieldAddr 1 (.tmp 20), none⟩,
  ⟨(some 22), .load1 (.tmp 21), none⟩,
  ⟨(some 4), .mov (.tmp 22), none⟩,
  ⟨(some 5), .mov (.const (.bool true)), none⟩])
  .ret))))) }
theorem c286 : compFunc Tryz.prog mts Tryz.f286 = some a286 := by kernel_rfl
def a295 : AFunc := { ntmps := 8, results := [.tmp 2], body := (.seq (.ops [⟨(some 2), .mov (.const (.slice none 0 0)), none⟩])
  (.seq (.seq (.ops [⟨(some 3), .mov (.tmp 0), none⟩,
  ⟨(some 4), .call (.func 194) [(.tmp 3)], none⟩])
  (.cond (.tmp 4) (.seq (.ops [⟨(some 5), .mov (.tmp 0), none⟩,
  ⟨(some 2), .mov (.tmp 5), none⟩])
  .ret)
  .skip))
  (.seq (.ops [⟨(some 6), .mov (.tmp 0), none⟩,
  ⟨(some 7), .call (.func 151) [(.tmp 6)], none⟩,
  ⟨(some 2), .mov (.tmp 7), none⟩])
  .ret))) }
theorem c295 : compFunc Tryz.prog mts Tryz.f295 = some a295 := by kernel_rfl
def a311 : AFunc := { ntmps := 20, results := [.cellN 4 3, .tmp 5], body := (.seq (.ops [⟨(some 2), .box 83 (.tmp 0), none⟩,
  ⟨(some 3), .box 146 (.tmp 1), none⟩,
  ⟨(some 4), .alloc 83 [(.slice none 0 0), (.int .i64 0), (.slice none 0 0)], none⟩,
  ⟨(some 5), .mov (.const (.int .i64 0)), none⟩])
  (.seq (.draw [⟨0, ⟨(some 6), .fieldAddr 0 (.tmp 2), none⟩, []⟩,
  ⟨1, ⟨(some 7), .load1 (.tmp 6), none⟩, []⟩,
  ⟨3, ⟨(some 9), .loadN 9 (.tmp 3), none⟩, []⟩,
  ⟨2, ⟨(some 8), .call (.func 328) [(.tmp 7)], none⟩, [⟨(some 9), .loadN 9 (.tmp 3), none⟩]⟩,
  ⟨4, ⟨(some 10), .call (.func 122) [(.tmp 9)], none⟩, []⟩,
  ⟨5, ⟨(some 11), .buildSlice 146 1 [(.int .i64 0), (.string ⟨#[]⟩), (.string ⟨#[]⟩), (.int .u32 0), (.slice none 0 0), (.int .i64 0), (.slice none 0 0), (.int .i64 0), (.int .i64 0)] [(0, 9, (.tmp 10))], none⟩, []⟩,
  ⟨6, ⟨(some 12), .append 146 9 120 (.tmp 8) (.tmp 11), none⟩, []⟩,
  ⟨7, ⟨(some 13), .fieldAddr 0 (.tmp 2), none⟩, []⟩,
  ⟨8, ⟨none, .store 1 (.tmp 13) (.tmp 12), none⟩, []⟩])
  (.seq (.draw [⟨0, ⟨(some 14), .loadN 3 (.tmp 2), none⟩, []⟩,
  ⟨1, ⟨(some 15), .fieldAddr 0 (.tmp 2), none⟩, []⟩,
  ⟨2, ⟨(some 16), .load1 (.tmp 15), none⟩, []⟩,
  ⟨3, ⟨(some 17), .lenSl (.tmp 16), none⟩, []⟩,
  ⟨4, ⟨(some 18), .bin .sub (.prim .int) (.tmp 17) (.const (.int .i64 1)), none⟩, []⟩,
  ⟨5, ⟨(some 19), .call (.func 329) [(.tmp 18)], none⟩, [⟨(some 14), .loadN 3 (.tmp 2), none⟩]⟩,
  ⟨6, ⟨none, .store 3 (.tmp 4) (.tmp 14), none⟩, []⟩,
  ⟨7, ⟨(some 5), .mov (.tmp 19), none⟩, []⟩])
  .ret))) }
theorem c311 : compFunc Tryz.prog mts Tryz.f311 = some a311 := by kernel_rfl
def a328 : AFunc := { ntmps := 8, results := [.tmp 2], body := (.seq (.ops [⟨(some 2), .mov (.const (.slice none 0 0)), none⟩])
  (.seq (.seq (.ops [⟨(some 3), .mov (.tmp 0), none⟩,
  ⟨(some 4), .bin .eql .slice (.tmp 3) (.const (.slice none 0 0)), none⟩])
  (.cond (.tmp 4) (.seq (.ops [⟨(some 2), .mov (.const (.slice none 0 0)), none⟩])
  .ret)
  .skip))
  (.seq (.ops [⟨(some 5), .buildSlice 146 0 [] [], none⟩,
  ⟨(some 6), .mov (.tmp 0), none⟩,
  ⟨(some 7), .append 146 9 120 (.tmp 5) (.tmp 6), none⟩,
  ⟨(some 2), .mov (.tmp 7), none⟩])
  .ret))) }
theorem c328 : compFunc Tryz.prog mts Tryz.f328 = some a328 := by kernel_rfl
def a329 : AFunc := { ntmps := 7, results := [.tmp 2], body := (.seq (.ops [⟨(some 2), .mov (.const (.int .i64 0)), none⟩])
  (.seq (.seq (.ops [⟨(some 3), .mov (.tmp 0), none⟩,
  ⟨(some 4), .bin .lss (.prim .int) (.tmp 3) (.const (.int .i64 0)), none⟩])
  (.cond (.tmp 4) (.seq (.ops [⟨(some 2), .mov (.const (.int .i64 0)), none⟩])
  .ret)
  .skip))
  (.seq (.ops [⟨(some 5), .mov (.tmp 0), none⟩,
  ⟨(some 6), .bin .sub (.prim .int) (.const (.int .i64 (-1))) (.tmp 5), none⟩,
  ⟨(some 2), .mov (.tmp 6), none⟩])
  .ret))) }
theorem c329 : compFunc Tryz.prog mts Tryz.f329 = some a329 := by kernel_rfl
def a409 : AFunc := { ntmps := 8, results := [.tmp 2, .tmp 3], body := (.seq (.ops [⟨(some 2), .mov (.const (.string ⟨#[]⟩)), none⟩,
  ⟨(some 3), .mov (.const (.bool false)), none⟩])
  (.seq (.ops [⟨(some 4), .mov (.tmp 0), none⟩,
  ⟨(some 5), .call (.func 414) [(.tmp 4)], none⟩,
  ⟨(some 6), .extract (.tmp 5) 0, none⟩,
  ⟨(some 7), .extract (.tmp 5) 1, none⟩,
  ⟨(some 2), .mov (.tmp 6), none⟩,
  ⟨(some 3), .mov (.tmp 7), none⟩])
  .ret)) }
theorem c409 : compFunc Tryz.prog mts Tryz.f409 = some a409 := by kernel_rfl
def a411 : AFunc := { ntmps := 61, results := [.cellN 2 3, .tmp 3], body := (.seq (.ops [⟨(some 2), .alloc 83 [(.slice none 0 0), (.int .i64 0), (.slice none 0 0)], none⟩,
  ⟨(some 3), .mov (.const (.bool false)), none⟩])
  (.seq (.seq (.ops [⟨(some 11), .mov (.tmp 0), none⟩,
  ⟨(some 12), .call (.func 413) [(.tmp 11)], none⟩,
  ⟨(some 13), .un .not (.tmp 12), none⟩])
  (.cond (.tmp 13) (.seq (.ops [⟨(some 14), .build [(.slice none 0 0), (.int .i64 0), (.slice none 0 0)] [], none⟩,
  ⟨none, .store 3 (.tmp 2) (.tmp 14), none⟩,
  ⟨(some 3), .mov (.const (.bool false)), none⟩])
  .ret)
  .skip))
  (.seq (.ops [⟨(some 16), .mov (.tmp 0), none⟩,
  ⟨(some 17), .call (.func 414) [(.tmp 16)], none⟩,
  ⟨(some 15), .mov (.tmp 17), none⟩,
  ⟨(some 18), .extract (.tmp 15) 0, none⟩,
  ⟨(some 19), .extract (.tmp 15) 1, none⟩,
  ⟨(some 4), .mov (.tmp 18), none⟩,
  ⟨(some 5), .mov (.tmp 19), none⟩])
  (.seq (.ops [⟨(some 6), .alloc 3 [(.int .i64 0)], none⟩,
  ⟨none, .store 1 (.tmp 6) (.const (.int .i64 1)), none⟩])
  (.seq (.seq (.ops [⟨(some 20), .mov (.tmp 5), none⟩])
  (.cond (.tmp 20) (.ops [⟨none, .store 1 (.tmp 6) (.const (.int .i64 0)), none⟩])
  .skip))
  (.seq (.ops [⟨(some 22), .mov (.tmp 0), none⟩,
  ⟨(some 23), .build [(.slice none 0 0), (.int .i64 0), (.slice none 0 0)] [], none⟩,
  ⟨(some 24), .call (.func 415) [(.tmp 22), (.tmp 23)], none⟩,
  ⟨(some 21), .mov (.tmp 24), none⟩,
  ⟨(some 25), .extract (.tmp 21) 0, none⟩,
  ⟨(some 26), .extract (.tmp 21) 1, none⟩,
  ⟨(some 7), .alloc 83 [(.slice none 0 0), (.int .i64 0), (.slice none 0 0)], none⟩,
  ⟨(some 8), .alloc 73 [(.int .i64 0)], none⟩,
  ⟨none, .store 3 (.tmp 7) (.tmp 25), none⟩,
  ⟨none, .store 1 (.tmp 8) (.tmp 26), none⟩])
  (.seq (.seq (.ops [⟨(some 27), .mov (.tmp 0), none⟩,
  ⟨(some 28), .nilCheck (.tmp 27), none⟩,
  ⟨(some 29), .fieldAddr 7 (.tmp 28), none⟩,
  ⟨(some 30), .load1 (.tmp 29), none⟩,
  ⟨(some 31), .call (.func 416) [(.tmp 30)], none⟩])
  (.block 0 (.rangeFunc (.tmp 31) [32, 33] (.ops [⟨(some 10), .alloc 459 [(.int .i64 0), (.int .i64 0), (.string ⟨#[]⟩), (.string ⟨#[]⟩), (.int .u32 0), (.slice none 0 0), (.int .i64 0), (.slice none 0 0), (.int .i64 0), (.int .i64 0), (.int .i64 0)], none⟩,
  ⟨none, .store 11 (.tmp 10) (.tmp 33), none⟩]) (.block 1 (.seq (.ops [⟨(some 34), .fieldAddr 2 (.tmp 7), none⟩,
  ⟨(some 35), .load1 (.tmp 34), none⟩,
  ⟨(some 36), .fieldAddr 0 (.tmp 10), none⟩,
  ⟨(some 37), .load1 (.tmp 36), none⟩,
  ⟨(some 38), .buildSlice 73 1 [(.int .i64 0)] [(0, 1, (.tmp 37))], none⟩,
  ⟨(some 39), .append 73 1 8 (.tmp 35) (.tmp 38), none⟩,
  ⟨(some 40), .fieldAddr 2 (.tmp 7), none⟩,
  ⟨none, .store 1 (.tmp 40) (.tmp 39), none⟩])
  (.draw [⟨0, ⟨(some 42), .loadN 3 (.tmp 7), none⟩, []⟩,
  ⟨1, ⟨(some 43), .fieldAddr 1 (.tmp 10), none⟩, []⟩,
  ⟨2, ⟨(some 44), .loadN 9 (.tmp 43), none⟩, []⟩,
  ⟨3, ⟨(some 45), .fieldAddr 10 (.tmp 10), none⟩, []⟩,
  ⟨4, ⟨(some 46), .load1 (.tmp 45), none⟩, []⟩,
  ⟨5, ⟨(some 47), .load1 (.tmp 8), none⟩, []⟩,
  ⟨7, ⟨(some 49), .fieldAddr 1 (.tmp 10), none⟩, []⟩,
  ⟨8, ⟨(some 50), .fieldAddr 7 (.tmp 49), none⟩, []⟩,
  ⟨9, ⟨(some 51), .load1 (.tmp 50), none⟩, []⟩,
  ⟨10, ⟨(some 52), .load1 (.tmp 6), none⟩, []⟩,
  ⟨11, ⟨(some 53), .bin .add (.prim .int) (.tmp 51) (.tmp 52), none⟩, []⟩,
  ⟨6, ⟨(some 48), .call (.func 315) [(.tmp 44), (.tmp 46), (.tmp 47)], none⟩, [⟨(some 42), .loadN 3 (.tmp 7), none⟩, ⟨(some 51), .load1 (.tmp 50), none⟩, ⟨(some 52), .load1 (.tmp 6), none⟩]⟩,
  ⟨12, ⟨(some 54), .call (.func 334) [(.tmp 48), (.tmp 53)], none⟩, [⟨(some 42), .loadN 3 (.tmp 7), none⟩]⟩,
  ⟨13, ⟨(some 55), .call (.func 311) [(.tmp 42), (.tmp 54)], none⟩, []⟩,
  ⟨14, ⟨(some 41), .mov (.tmp 55), none⟩, []⟩,
  ⟨15, ⟨(some 56), .extract (.tmp 41) 0, none⟩, []⟩,
  ⟨16, ⟨(some 57), .extract (.tmp 41) 1, none⟩, []⟩,
  ⟨17, ⟨none, .store 3 (.tmp 7) (.tmp 56), none⟩, []⟩,
  ⟨18, ⟨none, .store 1 (.tmp 8) (.tmp 57), none⟩, []⟩]))))))
  (.seq (.ops [⟨(some 58), .load1 (.tmp 8), none⟩,
  ⟨(some 59), .fieldAddr 1 (.tmp 7), none⟩,
  ⟨none, .store 1 (.tmp 59) (.tmp 58), none⟩])
  (.seq (.ops [⟨(some 60), .loadN 3 (.tmp 7), none⟩,
  ⟨none, .store 3 (.tmp 2) (.tmp 60), none⟩,
  ⟨(some 3), .mov (.const (.bool true)), none⟩])
  .ret))))))))) }
theorem c411 : compFunc Tryz.prog mts Tryz.f411 = some a411 := by kernel_rfl
def a412 : AFunc := { ntmps := 9, results := [.tmp 2], body := (.seq (.ops [⟨(some 2), .mov (.const (.int .i64 0)), none⟩])
  (.seq (.seq (.ops [⟨(some 3), .mov (.tmp 0), none⟩,
  ⟨(some 4), .bin .eql .ptr (.tmp 3) (.const (.pointer none)), none⟩])
  (.cond (.tmp 4) (.seq (.ops [⟨(some 2), .mov (.const (.int .i64 0)), none⟩])
  .ret)
  .skip))
  (.seq (.ops [⟨(some 5), .mov (.tmp 0), none⟩,
  ⟨(some 6), .nilCheck (.tmp 5), none⟩,
  ⟨(some 7), .fieldAddr 6 (.tmp 6), none⟩,
  ⟨(some 8), .load1 (.tmp 7), none⟩,
  ⟨(some 2), .mov (.tmp 8), none⟩])
  .ret))) }
theorem c412 : compFunc Tryz.prog mts Tryz.f412 = some a412 := by kernel_rfl
def a413 : AFunc := { ntmps := 45, results := [.tmp 2], body := (.seq (.ops [⟨(some 2), .mov (.const (.bool false)), none⟩])
  (.seq (.seq (.ops [⟨(some 5), .mov (.tmp 0), none⟩,
  ⟨(some 6), .bin .eql .ptr (.tmp 5) (.const (.pointer none)), none⟩,
  ⟨(some 7), .mov (.tmp 6), none⟩,
  ⟨(some 8), .mov (.tmp 0), (some (7, false))⟩,
  ⟨(some 9), .nilCheck (.tmp 8), (some (7, false))⟩,
  ⟨(some 10), .fieldAddr 6 (.tmp 9), (some (7, false))⟩,
  ⟨(some 11), .load1 (.tmp 10), (some (7, false))⟩,
  ⟨(some 12), .bin .neq (.prim .int) (.tmp 11) (.const (.int .i64 0)), (some (7, false))⟩,
  ⟨(some 13), .pick (.tmp 7) (.const (.bool true)) (.tmp 12), none⟩])
  (.cond (.tmp 13) (.seq (.ops [⟨(some 2), .mov (.const (.bool false)), none⟩])
  .ret)
  .skip))
  (.seq (.ops [⟨(some 15), .mov (.tmp 0), none⟩,
  ⟨(some 16), .call (.func 414) [(.tmp 15)], none⟩,
  ⟨(some 14), .mov (.tmp 16), none⟩,
  ⟨(some 17), .extract (.tmp 14) 0, none⟩,
  ⟨(some 18), .extract (.tmp 14) 1, none⟩,
  ⟨(some 3), .mov (.tmp 17), none⟩,
  ⟨(some 4), .mov (.tmp 18), none⟩])
  (.seq (.seq (.ops [⟨(some 19), .mov (.tmp 0), none⟩,
  ⟨(some 20), .nilCheck (.tmp 19), none⟩,
  ⟨(some 21), .fieldAddr 0 (.tmp 20), none⟩,
  ⟨(some 22), .load1 (.tmp 21), none⟩])
  (.block 0 (.seq (.ops [⟨(some 24), .bin .eql (.prim .int) (.tmp 22) (.const (.int .i64 1)), none⟩,
  ⟨(some 23), .mov (.tmp 24), none⟩])
  (.cond (.tmp 23) (.seq (.ops [⟨(some 2), .mov (.const (.bool true)), none⟩])
  .ret)
  (.seq (.ops [⟨(some 26), .bin .eql (.prim .int) (.tmp 22) (.const (.int .i64 2)), none⟩,
  ⟨(some 25), .mov (.tmp 26), none⟩])
  (.cond (.tmp 25) (.seq (.ops [⟨(some 27), .mov (.tmp 4), none⟩,
  ⟨(some 28), .un .not (.tmp 27), none⟩,
  ⟨(some 2), .mov (.tmp 28), none⟩])
  .ret)
  .skip))))))
  (.seq (.ops [⟨(some 29), .mov (.tmp 0), none⟩,
  ⟨(some 30), .nilCheck (.tmp 29), none⟩,
  ⟨(some 31), .fieldAddr 0 (.tmp 30), none⟩,
  ⟨(some 32), .load1 (.tmp 31), none⟩,
  ⟨(some 33), .bin .eql (.prim .int) (.tmp 32) (.const (.int .i64 3)), none⟩,
  ⟨(some 34), .mov (.tmp 33), none⟩,
  ⟨(some 35), .mov (.tmp 4), (some (34, true))⟩,
  ⟨(some 36), .pick (.tmp 34) (.tmp 35) (.const (.bool false)), none⟩,
  ⟨(some 37), .mov (.tmp 36), none⟩,
  ⟨(some 38), .mov (.tmp 3), (some (37, true))⟩,
  ⟨(some 39), .mov (.tmp 0), (some (37, true))⟩,
  ⟨(some 40), .nilCheck (.tmp 39), (some (37, true))⟩,
  ⟨(some 41), .fieldAddr 3 (.tmp 40), (some (37, true))⟩,
  ⟨(some 42), .load1 (.tmp 41), (some (37, true))⟩,
  ⟨(some 43), .bin .eql (.prim .str) (.tmp 38) (.tmp 42), (some (37, true))⟩,
  ⟨(some 44), .pick (.tmp 37) (.tmp 43) (.const (.bool false)), none⟩,
  ⟨(some 2), .mov (.tmp 44), none⟩])
  .ret))))) }
theorem c413 : compFunc Tryz.prog mts Tryz.f413 = some a413 := by kernel_rfl
def a414 : AFunc := { ntmps := 41, results := [.tmp 2, .tmp 3], body := (.seq (.ops [⟨(some 2), .mov (.const (.string ⟨#[]⟩)), none⟩,
  ⟨(some 3), .mov (.const (.bool false)), none⟩])
  (.seq (.seq (.ops [⟨(some 4), .mov (.tmp 0), none⟩,
  ⟨(some 5), .bin .eql .ptr (.tmp 4) (.const (.pointer none)), none⟩,
  ⟨(some 6), .mov (.tmp 5), none⟩,
  ⟨(some 7), .mov (.tmp 0), (some (6, false))⟩,
  ⟨(some 8), .nilCheck (.tmp 7), (some (6, false))⟩,
  ⟨(some 9), .fieldAddr 6 (.tmp 8), (some (6, false))⟩,
  ⟨(some 10), .load1 (.tmp 9), (some (6, false))⟩,
  ⟨(some 11), .bin .neq (.prim .int) (.tmp 10) (.const (.int .i64 0)), (some (6, false))⟩,
  ⟨(some 12), .pick (.tmp 6) (.const (.bool true)) (.tmp 11), none⟩,
  ⟨(some 13), .mov (.tmp 12), none⟩,
  ⟨(some 14), .mov (.tmp 0), (some (13, false))⟩,
  ⟨(some 15), .nilCheck (.tmp 14), (some (13, false))⟩,
  ⟨(some 16), .fieldAddr 9 (.tmp 15), (some (13, false))⟩,
  ⟨(some 17), .fieldAddr 0 (.tmp 16), (some (13, false))⟩,
  ⟨(some 18), .load1 (.tmp 17), (some (13, false))⟩,
  ⟨(some 19), .bin .neq (.prim .int) (.tmp 18) (.const (.int .i64 1)), (some (13, false))⟩,
  ⟨(some 20), .mov (.tmp 19), (some (13, false))⟩,
  ⟨(some 21), .mov (.tmp 0), (some (20, true))⟩,
  ⟨(some 22), .nilCheck (.tmp 21), (some (20, true))⟩,
  ⟨(some 23), .fieldAddr 9 (.tmp 22), (some (20, true))⟩,
  ⟨(some 24), .fieldAddr 0 (.tmp 23), (some (20, true))⟩,
  ⟨(some 25), .load1 (.tmp 24), (some (20, true))⟩,
  ⟨(some 26), .bin .neq (.prim .int) (.tmp 25) (.const (.int .i64 3)), (some (20, true))⟩,
  ⟨(some 27), .pick (.tmp 20) (.tmp 26) (.const (.bool false)), (some (13, false))⟩,
  ⟨(some 28), .pick (.tmp 13) (.const (.bool true)) (.tmp 27), none⟩])
  (.cond (.tmp 28) (.seq (.ops [⟨(some 2), .mov (.const (.string ⟨#[]⟩)), none⟩,
  ⟨(some 3), .mov (.const (.bool false)), none⟩])
  .ret)
  .skip))
  (.seq (.draw [⟨0, ⟨(some 29), .mov (.tmp 0), none⟩, []⟩,
  ⟨1, ⟨(some 30), .nilCheck (.tmp 29), none⟩, []⟩,
  ⟨2, ⟨(some 31), .fieldAddr 9 (.tmp 30), none⟩, []⟩,
  ⟨3, ⟨(some 32), .loadN 9 (.tmp 31), none⟩, []⟩,
  ⟨5, ⟨(some 34), .mov (.tmp 0), none⟩, []⟩,
  ⟨6, ⟨(some 35), .nilCheck (.tmp 34), none⟩, []⟩,
  ⟨7, ⟨(some 36), .fieldAddr 1 (.tmp 35), none⟩, []⟩,
  ⟨8, ⟨(some 37), .load1 (.tmp 36), none⟩, []⟩,
  ⟨4, ⟨(some 33), .call (.func 150) [(.tmp 32)], none⟩, [⟨(some 37), .load1 (.tmp 36), none⟩]⟩,
  ⟨9, ⟨(some 38), .call (.func 286) [(.tmp 33), (.tmp 37)], none⟩, []⟩,
  ⟨10, ⟨(some 39), .extract (.tmp 38) 0, none⟩, []⟩,
  ⟨11, ⟨(some 40), .extract (.tmp 38) 1, none⟩, []⟩,
  ⟨12, ⟨(some 2), .mov (.tmp 39), none⟩, []⟩,
  ⟨13, ⟨(some 3), .mov (.tmp 40), none⟩, []⟩])
  .ret))) }
theorem c414 : compFunc Tryz.prog mts Tryz.f414 = some a414 := by kernel_rfl
def a415 : AFunc := { ntmps := 105, results := [.cellN 4 3, .tmp 5], body := (.seq (.ops [⟨(some 3), .box 83 (.tmp 1), none⟩,
  ⟨(some 4), .alloc 83 [(.slice none 0 0), (.int .i64 0), (.slice none 0 0)], none⟩,
  ⟨(some 5), .mov (.const (.int .i64 0)), none⟩])
  (.seq (.ops [⟨(some 11), .mov (.tmp 0), none⟩,
  ⟨(some 12), .call (.func 414) [(.tmp 11)], none⟩,
  ⟨(some 10), .mov (.tmp 12), none⟩,
  ⟨(some 13), .extract (.tmp 10) 0, none⟩,
  ⟨(some 14), .extract (.tmp 10) 1, none⟩,
  ⟨(some 6), .mov (.tmp 13), none⟩,
  ⟨(some 7), .mov (.tmp 14), none⟩])
  (.seq (.ops [⟨(some 8), .mov (.const (.bool false)), none⟩])
  (.seq (.ops [⟨(some 9), .mov (.const (.int .i64 0)), none⟩])
  (.seq (.block 0 (.seq (.ops [⟨(some 36), .mov (.tmp 0), none⟩,
  ⟨(some 37), .nilCheck (.tmp 36), none⟩,
  ⟨(some 38), .fieldAddr 8 (.tmp 37), none⟩,
  ⟨(some 39), .load1 (.tmp 38), none⟩,
  ⟨(some 40), .bin .eql (.prim .int) (.tmp 39) (.const (.int .i64 0)), none⟩,
  ⟨(some 41), .mov (.tmp 40), none⟩,
  ⟨(some 42), .mov (.tmp 0), (some (41, false))⟩,
  ⟨(some 43), .nilCheck (.tmp 42), (some (41, false))⟩,
  ⟨(some 44), .fieldAddr 9 (.tmp 43), (some (41, false))⟩,
  ⟨(some 45), .fieldAddr 0 (.tmp 44), (some (41, false))⟩,
  ⟨(some 46), .load1 (.tmp 45), (some (41, false))⟩,
  ⟨(some 47), .bin .eql (.prim .int) (.tmp 46) (.const (.int .i64 1)), (some (41, false))⟩,
  ⟨(some 48), .mov (.tmp 47), (some (41, false))⟩,
  ⟨(some 49), .mov (.tmp 7), (some (48, true))⟩,
  ⟨(some 50), .pick (.tmp 48) (.tmp 49) (.const (.bool false)), (some (41, false))⟩,
  ⟨(some 51), .pick (.tmp 41) (.const (.bool true)) (.tmp 50), none⟩,
  ⟨(some 35), .mov (.tmp 51), none⟩])
  (.cond (.tmp 35) (.draw [⟨0, ⟨(some 53), .loadN 3 (.tmp 3), none⟩, []⟩,
  ⟨1, ⟨(some 54), .mov (.tmp 0), none⟩, []⟩,
  ⟨2, ⟨(some 55), .nilCheck (.tmp 54), none⟩, []⟩,
  ⟨3, ⟨(some 56), .fieldAddr 1 (.tmp 55), none⟩, []⟩,
  ⟨4, ⟨(some 57), .load1 (.tmp 56), none⟩, []⟩,
  ⟨5, ⟨(some 58), .mov (.tmp 0), none⟩, []⟩,
  ⟨6, ⟨(some 59), .nilCheck (.tmp 58), none⟩, []⟩,
  ⟨7, ⟨(some 60), .fieldAddr 2 (.tmp 59), none⟩, []⟩,
  ⟨8, ⟨(some 61), .load1 (.tmp 60), none⟩, []⟩,
  ⟨9, ⟨(some 62), .call (.func 184) [(.tmp 57), (.tmp 61)], none⟩, [⟨(some 53), .loadN 3 (.tmp 3), none⟩]⟩,
  ⟨10, ⟨(some 63), .call (.func 311) [(.tmp 53), (.tmp 62)], none⟩, []⟩,
  ⟨11, ⟨(some 52), .mov (.tmp 63), none⟩, []⟩,
  ⟨12, ⟨(some 64), .extract (.tmp 52) 0, none⟩, []⟩,
  ⟨13, ⟨(some 65), .extract (.tmp 52) 1, none⟩, []⟩,
  ⟨14, ⟨none, .store 3 (.tmp 3) (.tmp 64), none⟩, []⟩,
  ⟨15, ⟨(some 9), .mov (.tmp 65), none⟩, []⟩])
  (.seq (.ops [⟨(some 67), .mov (.tmp 0), none⟩,
  ⟨(some 68), .nilCheck (.tmp 67), none⟩,
  ⟨(some 69), .fieldAddr 9 (.tmp 68), none⟩,
  ⟨(some 70), .fieldAddr 0 (.tmp 69), none⟩,
  ⟨(some 71), .load1 (.tmp 70), none⟩,
  ⟨(some 72), .bin .eql (.prim .int) (.tmp 71) (.const (.int .i64 1)), none⟩,
  ⟨(some 66), .mov (.tmp 72), none⟩])
  (.cond (.tmp 66) (.draw [⟨0, ⟨(some 74), .mov (.tmp 0), none⟩, []⟩,
  ⟨1, ⟨(some 75), .loadN 3 (.tmp 3), none⟩, []⟩,
  ⟨2, ⟨(some 76), .mov (.tmp 0), none⟩, []⟩,
  ⟨3, ⟨(some 77), .nilCheck (.tmp 76), none⟩, []⟩,
  ⟨4, ⟨(some 78), .fieldAddr 7 (.tmp 77), none⟩, []⟩,
  ⟨5, ⟨(some 79), .load1 (.tmp 78), none⟩, []⟩,
  ⟨6, ⟨(some 80), .lenSl (.tmp 79), none⟩, []⟩,
  ⟨7, ⟨(some 81), .call (.func 417) [(.tmp 74), (.tmp 75), (.tmp 80)], none⟩, []⟩,
  ⟨8, ⟨(some 73), .mov (.tmp 81), none⟩, []⟩,
  ⟨9, ⟨(some 82), .extract (.tmp 73) 0, none⟩, []⟩,
  ⟨10, ⟨(some 83), .extract (.tmp 73) 1, none⟩, []⟩,
  ⟨11, ⟨(some 84), .extract (.tmp 73) 2, none⟩, []⟩,
  ⟨12, ⟨none, .store 3 (.tmp 3) (.tmp 82), none⟩, []⟩,
  ⟨13, ⟨(some 9), .mov (.tmp 83), none⟩, []⟩,
  ⟨14, ⟨(some 8), .mov (.tmp 84), none⟩, []⟩])
  (.draw [⟨0, ⟨(some 16), .loadN 3 (.tmp 3), none⟩, []⟩,
  ⟨1, ⟨(some 17), .mov (.tmp 0), none⟩, []⟩,
  ⟨2, ⟨(some 18), .nilCheck (.tmp 17), none⟩, []⟩,
  ⟨3, ⟨(some 19), .fieldAddr 9 (.tmp 18), none⟩, []⟩,
  ⟨4, ⟨(some 20), .loadN 9 (.tmp 19), none⟩, []⟩,
  ⟨6, ⟨(some 22), .mov (.tmp 0), none⟩, []⟩,
  ⟨7, ⟨(some 23), .nilCheck (.tmp 22), none⟩, []⟩,
  ⟨8, ⟨(some 24), .fieldAddr 1 (.tmp 23), none⟩, []⟩,
  ⟨9, ⟨(some 25), .load1 (.tmp 24), none⟩, []⟩,
  ⟨10, ⟨(some 26), .mov (.tmp 0), none⟩, []⟩,
  ⟨11, ⟨(some 27), .nilCheck (.tmp 26), none⟩, []⟩,
  ⟨12, ⟨(some 28), .fieldAddr 2 (.tmp 27), none⟩, []⟩,
  ⟨13, ⟨(some 29), .load1 (.tmp 28), none⟩, []⟩,
  ⟨5, ⟨(some 21), .call (.func 150) [(.tmp 20)], none⟩, [⟨(some 16), .loadN 3 (.tmp 3), none⟩, ⟨(some 25), .load1 (.tmp 24), none⟩, ⟨(some 29), .load1 (.tmp 28), none⟩]⟩,
  ⟨14, ⟨(some 30), .call (.func 312) [(.tmp 21), (.tmp 25), (.tmp 29)], none⟩, [⟨(some 16), .loadN 3 (.tmp 3), none⟩]⟩,
  ⟨15, ⟨(some 31), .call (.func 186) [(.tmp 30)], none⟩, [⟨(some 16), .loadN 3 (.tmp 3), none⟩]⟩,
  ⟨16, ⟨(some 32), .call (.func 311) [(.tmp 16), (.tmp 31)], none⟩, []⟩,
  ⟨17, ⟨(some 15), .mov (.tmp 32), none⟩, []⟩,
  ⟨18, ⟨(some 33), .extract (.tmp 15) 0, none⟩, []⟩,
  ⟨19, ⟨(some 34), .extract (.tmp 15) 1, none⟩, []⟩,
  ⟨20, ⟨none, .store 3 (.tmp 3) (.tmp 33), none⟩, []⟩,
  ⟨21, ⟨(some 9), .mov (.tmp 34), none⟩, []⟩]))))))
  (.seq (.seq (.ops [⟨(some 85), .mov (.tmp 0), none⟩,
  ⟨(some 86), .nilCheck (.tmp 85), none⟩,
  ⟨(some 87), .fieldAddr 8 (.tmp 86), none⟩,
  ⟨(some 88), .load1 (.tmp 87), none⟩,
  ⟨(some 89), .bin .neq (.prim .int) (.tmp 88) (.const (.int .i64 0)), none⟩,
  ⟨(some 90), .mov (.tmp 89), none⟩,
  ⟨(some 91), .mov (.tmp 8), (some (90, true))⟩,
  ⟨(some 92), .un .not (.tmp 91), (some (90, true))⟩,
  ⟨(some 93), .pick (.tmp 90) (.tmp 92) (.const (.bool false)), none⟩])
  (.cond (.tmp 93) (.draw [⟨0, ⟨(some 94), .fieldAddr 2 (.tmp 3), none⟩, []⟩,
  ⟨1, ⟨(some 95), .load1 (.tmp 94), none⟩, []⟩,
  ⟨2, ⟨(some 96), .mov (.tmp 0), none⟩, []⟩,
  ⟨3, ⟨(some 97), .nilCheck (.tmp 96), none⟩, []⟩,
  ⟨4, ⟨(some 98), .fieldAddr 8 (.tmp 97), none⟩, []⟩,
  ⟨5, ⟨(some 99), .load1 (.tmp 98), none⟩, []⟩,
  ⟨6, ⟨(some 100), .buildSlice 73 1 [(.int .i64 0)] [(0, 1, (.tmp 99))], none⟩, []⟩,
  ⟨7, ⟨(some 101), .append 73 1 8 (.tmp 95) (.tmp 100), none⟩, []⟩,
  ⟨8, ⟨(some 102), .fieldAddr 2 (.tmp 3), none⟩, []⟩,
  ⟨9, ⟨none, .store 1 (.tmp 102) (.tmp 101), none⟩, []⟩])
  .skip))
  (.seq (.ops [⟨(some 103), .loadN 3 (.tmp 3), none⟩,
  ⟨(some 104), .mov (.tmp 9), none⟩,
  ⟨none, .store 3 (.tmp 4) (.tmp 103), none⟩,
  ⟨(some 5), .mov (.tmp 104), none⟩])
  .ret))))))) }
theorem c415 : compFunc Tryz.prog mts Tryz.f415 = some a415 := by kernel_rfl
def a416 : AFunc := { ntmps := 4, results := [.tmp 2], body := (.seq (.ops [⟨(some 1), .box 224 (.tmp 0), none⟩,
  ⟨(some 2), .mov (.const .nilFunc), none⟩])
  (.seq (.ops [⟨(some 3), .makeFunc 418 [] [(.tmp 1)], none⟩,
  ⟨(some 2), .mov (.tmp 3), none⟩])
  .ret)) }
theorem c416 : compFunc Tryz.prog mts Tryz.f416 = some a416 := by kernel_rfl
def a418 : AFunc := { ntmps := 19, results := [], body := (.seq (.ops [⟨(some 4), .load1 (.tmp 1), none⟩,
  ⟨(some 5), .lenSl (.tmp 4), none⟩,
  ⟨(some 6), .bin .sub (.prim .int) (.tmp 5) (.const (.int .i64 1)), none⟩,
  ⟨(some 3), .mov (.tmp 6), none⟩])
  (.block 0 (.loop (.seq (.seq (.ops [⟨(some 7), .mov (.tmp 3), none⟩,
  ⟨(some 8), .bin .geq (.prim .int) (.tmp 7) (.const (.int .i64 0)), none⟩])
  (.cond (.tmp 8) .skip
  (.exit 0)))
  (.seq (.block 1 (.seq (.ops [⟨(some 11), .mov (.tmp 0), none⟩,
  ⟨(some 12), .mov (.tmp 3), none⟩,
  ⟨(some 13), .load1 (.tmp 1), none⟩,
  ⟨(some 14), .mov (.tmp 3), none⟩,
  ⟨(some 15), .indexAddrSl 11 (.tmp 13) (.tmp 14), none⟩,
  ⟨(some 16), .loadN 11 (.tmp 15), none⟩,
  ⟨(some 17), .call (.tmp 11) [(.tmp 12), (.tmp 16)], none⟩,
  ⟨(some 18), .un .not (.tmp 17), none⟩])
  (.cond (.tmp 18) .ret
  .skip)))
  (.ops [⟨(some 9), .mov (.tmp 3), none⟩,
  ⟨(some 10), .bin .sub (.prim .int) (.tmp 9) (.const (.int .i64 1)), none⟩,
  ⟨(some 3), .mov (.tmp 10), none⟩])))))) }
theorem c418 : compFunc Tryz.prog mts Tryz.f418 = some a418 := by kernel_rfl
end Go.Proofs.YtcclefkkjboaeaaGreatDoor
