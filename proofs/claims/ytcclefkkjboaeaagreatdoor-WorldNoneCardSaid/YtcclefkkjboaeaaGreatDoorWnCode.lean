/- WorldNone: the compiled form of the functions that it reaches (1). -/
import Derived.Test.YtcclefkkjboaeaaGreatDoorAComp
import Derived.Test.YtcclefkkjboaeaaGreatDoorProg
import Derived.KernelRfl
namespace Go.Proofs.YtcclefkkjboaeaaGreatDoor
open Go Go.AM
set_option maxRecDepth 100000
def mts : List TypeId := [15, 16, 17, 24, 32, 35, 36, 44, 54, 123, 124, 128, 131, 134, 136, 138, 140, 244, 248, 252, 352, 356, 359, 362]
def a5 : AFunc := { ntmps := 66, results := [.tmp 2], body := (.seq (.ops [⟨(some 1), .box 53 (.tmp 0), none⟩,
  ⟨(some 2), .mov (.const (.bool false)), none⟩])
  (.seq (.ops [⟨(some 3), .mov (.const (.pointer none)), none⟩])
  (.seq (.ops [⟨(some 7), .build [(.pointer none), (.slice none 0 0), (.slice none 0 0), (.slice none 0 0), (.slice none 0 0), (.int .i64 0)] [], none⟩,
  ⟨(some 8), .box 59 (.tmp 7), none⟩,
  ⟨(some 4), .mov (.tmp 8), none⟩])
  (.seq (.draw [⟨0, ⟨(some 9), .mov (.tmp 3), none⟩, []⟩,
  ⟨1, ⟨(some 10), .loadN 6 (.tmp 1), none⟩, []⟩,
  ⟨3, ⟨(some 12), .mov (.tmp 4), none⟩, []⟩,
  ⟨4, ⟨(some 13), .loadN 6 (.tmp 1), none⟩, []⟩,
  ⟨2, ⟨(some 11), .call (.func 18) [(.tmp 9), (.tmp 10)], none⟩, [⟨(some 13), .loadN 6 (.tmp 1), none⟩]⟩,
  ⟨5, ⟨(some 14), .call (.func 18) [(.tmp 12), (.tmp 13)], none⟩, []⟩,
  ⟨6, ⟨(some 5), .mov (.tmp 11), none⟩, []⟩,
  ⟨7, ⟨(some 6), .mov (.tmp 14), none⟩, []⟩])
  (.seq (.draw [⟨0, ⟨(some 15), .mov (.tmp 5), none⟩, []⟩,
  ⟨1, ⟨(some 16), .mov (.tmp 6), none⟩, []⟩,
  ⟨2, ⟨(some 17), .bin .add (.prim .int) (.tmp 15) (.tmp 16), none⟩, []⟩,
  ⟨3, ⟨(some 18), .mov (.tmp 3), none⟩, []⟩,
  ⟨6, ⟨(some 21), .mov (.tmp 4), none⟩, []⟩,
  ⟨9, ⟨(some 24), .mov (.tmp 3), none⟩, []⟩,
  ⟨10, ⟨(some 25), .loadN 6 (.tmp 1), none⟩, []⟩,
  ⟨11, ⟨(some 26), .buildSlice 53 1 [(.int .i64 0), (.int .i64 0), (.string ⟨#[]⟩), (.string ⟨#[]⟩), (.string ⟨#[]⟩), (.int .i64 0)] [(0, 6, (.tmp 25))], none⟩, []⟩,
  ⟨15, ⟨(some 30), .mov (.tmp 4), none⟩, []⟩,
  ⟨16, ⟨(some 31), .loadN 6 (.tmp 1), none⟩, []⟩,
  ⟨17, ⟨(some 32), .buildSlice 53 1 [(.int .i64 0), (.int .i64 0), (.string ⟨#[]⟩), (.string ⟨#[]⟩), (.string ⟨#[]⟩), (.int .i64 0)] [(0, 6, (.tmp 31))], none⟩, []⟩,
  ⟨21, ⟨(some 36), .mov (.tmp 3), none⟩, []⟩,
  ⟨25, ⟨(some 40), .mov (.tmp 4), none⟩, []⟩,
  ⟨29, ⟨(some 44), .mov (.tmp 3), none⟩, []⟩,
  ⟨33, ⟨(some 48), .mov (.tmp 4), none⟩, []⟩,
  ⟨4, ⟨(some 19), .call (.func 19) [(.tmp 18)], none⟩, [⟨(some 25), .loadN 6 (.tmp 1), none⟩, ⟨(some 31), .loadN 6 (.tmp 1), none⟩]⟩,
  ⟨5, ⟨(some 20), .bin .add (.prim .int) (.tmp 17) (.tmp 19), none⟩, []⟩,
  ⟨7, ⟨(some 22), .call (.func 19) [(.tmp 21)], none⟩, [⟨(some 25), .loadN 6 (.tmp 1), none⟩, ⟨(some 31), .loadN 6 (.tmp 1), none⟩]⟩,
  ⟨8, ⟨(some 23), .bin .add (.prim .int) (.tmp 20) (.tmp 22), none⟩, []⟩,
  ⟨12, ⟨(some 27), .call (.func 20) [(.tmp 24), (.tmp 26)], none⟩, [⟨(some 31), .loadN 6 (.tmp 1), none⟩]⟩,
  ⟨13, ⟨(some 28), .lenSl (.tmp 27), none⟩, []⟩,
  ⟨14, ⟨(some 29), .bin .add (.prim .int) (.tmp 23) (.tmp 28), none⟩, []⟩,
  ⟨18, ⟨(some 33), .call (.func 20) [(.tmp 30), (.tmp 32)], none⟩, []⟩,
  ⟨19, ⟨(some 34), .lenSl (.tmp 33), none⟩, []⟩,
  ⟨20, ⟨(some 35), .bin .add (.prim .int) (.tmp 29) (.tmp 34), none⟩, []⟩,
  ⟨22, ⟨(some 37), .call (.func 21) [(.tmp 36)], none⟩, []⟩,
  ⟨23, ⟨(some 38), .lenSl (.tmp 37), none⟩, []⟩,
  ⟨24, ⟨(some 39), .bin .add (.prim .int) (.tmp 35) (.tmp 38), none⟩, []⟩,
  ⟨26, ⟨(some 41), .call (.func 21) [(.tmp 40)], none⟩, []⟩,
  ⟨27, ⟨(some 42), .lenSl (.tmp 41), none⟩, []⟩,
  ⟨28, ⟨(some 43), .bin .add (.prim .int) (.tmp 39) (.tmp 42), none⟩, []⟩,
  ⟨30, ⟨(some 45), .call (.func 22) [(.tmp 44)], none⟩, []⟩,
  ⟨31, ⟨(some 46), .lenSl (.tmp 45), none⟩, []⟩,
  ⟨32, ⟨(some 47), .bin .add (.prim .int) (.tmp 43) (.tmp 46), none⟩, []⟩,
  ⟨34, ⟨(some 49), .call (.func 23) [(.tmp 48)], none⟩, []⟩,
  ⟨35, ⟨(some 50), .lenSl (.tmp 49), none⟩, []⟩,
  ⟨36, ⟨(some 51), .bin .add (.prim .int) (.tmp 47) (.tmp 50), none⟩, []⟩,
  ⟨37, ⟨(some 52), .bin .eql (.prim .int) (.tmp 51) (.const (.int .i64 0)), none⟩, []⟩,
  ⟨38, ⟨(some 53), .mov (.tmp 52), none⟩, []⟩,
  ⟨39, ⟨(some 54), .mov (.tmp 3), (some (53, true))⟩, []⟩,
  ⟨40, ⟨(some 55), .call (.func 24) [(.tmp 54)], (some (53, true))⟩, []⟩,
  ⟨41, ⟨(some 56), .bin .eql .ptr (.tmp 55) (.const (.pointer none)), (some (53, true))⟩, []⟩,
  ⟨42, ⟨(some 57), .pick (.tmp 53) (.tmp 56) (.const (.bool false)), none⟩, []⟩,
  ⟨43, ⟨(some 58), .mov (.tmp 57), none⟩, []⟩,
  ⟨44, ⟨(some 59), .mov (.tmp 4), (some (58, true))⟩, []⟩,
  ⟨45, ⟨(some 60), .call (.func 24) [(.tmp 59)], (some (58, true))⟩, []⟩,
  ⟨46, ⟨(some 61), .bin .eql .ptr (.tmp 60) (.const (.pointer none)), (some (58, true))⟩, []⟩,
  ⟨47, ⟨(some 62), .pick (.tmp 58) (.tmp 61) (.const (.bool false)), none⟩, []⟩,
  ⟨48, ⟨(some 63), .mov (.tmp 62), none⟩, []⟩,
  ⟨49, ⟨(some 64), .call (.func 25) [], (some (63, true))⟩, []⟩,
  ⟨50, ⟨(some 65), .pick (.tmp 63) (.tmp 64) (.const (.bool false)), none⟩, []⟩,
  ⟨51, ⟨(some 2), .mov (.tmp 65), none⟩, []⟩])
  .ret))))) }
theorem c5 : compFunc Tryz.prog mts Tryz.f5 = some a5 := by kernel_rfl
def a16 : AFunc := { ntmps := 81, results := [.tmp 2, .tmp 3], body := (.seq (.ops [⟨(some 1), .box 34 (.tmp 0), none⟩,
  ⟨(some 2), .mov (.const (.pointer none)), none⟩,
  ⟨(some 3), .mov (.const (.int .i64 0)), none⟩])
  (.seq (.seq (.ops [⟨(some 13), .loadN 5 (.tmp 1), none⟩,
  ⟨(some 14), .call (.func 44) [(.tmp 13)], none⟩,
  ⟨(some 4), .mov (.tmp 14), none⟩])
  (.seq (.ops [⟨(some 15), .mov (.tmp 4), none⟩,
  ⟨(some 16), .bin .neq (.prim .int) (.tmp 15) (.const (.int .i64 0)), none⟩])
  (.cond (.tmp 16) (.seq (.ops [⟨(some 17), .mov (.tmp 4), none⟩,
  ⟨(some 2), .mov (.const (.pointer none)), none⟩,
  ⟨(some 3), .mov (.tmp 17), none⟩])
  .ret)
  .skip)))
  (.seq (.draw [⟨0, ⟨(some 19), .fieldAddr 1 (.tmp 1), none⟩, []⟩,
  ⟨1, ⟨(some 20), .load1 (.tmp 19), none⟩, []⟩,
  ⟨2, ⟨(some 21), .loadN 5 (.tmp 1), none⟩, []⟩,
  ⟨3, ⟨(some 22), .call (.func 50) [(.tmp 21)], none⟩, [⟨(some 20), .load1 (.tmp 19), none⟩]⟩,
  ⟨4, ⟨(some 23), .call (.func 49) [(.tmp 20), (.tmp 22)], none⟩, []⟩,
  ⟨5, ⟨(some 18), .mov (.tmp 23), none⟩, []⟩,
  ⟨6, ⟨(some 24), .extract (.tmp 18) 0, none⟩, []⟩,
  ⟨7, ⟨(some 25), .extract (.tmp 18) 1, none⟩, []⟩,
  ⟨8, ⟨(some 5), .mov (.tmp 24), none⟩, []⟩,
  ⟨9, ⟨(some 6), .mov (.tmp 25), none⟩, []⟩])
  (.seq (.seq (.ops [⟨(some 26), .mov (.tmp 6), none⟩,
  ⟨(some 27), .bin .neq (.prim .int) (.tmp 26) (.const (.int .i64 0)), none⟩])
  (.cond (.tmp 27) (.seq (.ops [⟨(some 28), .mov (.tmp 6), none⟩,
  ⟨(some 2), .mov (.const (.pointer none)), none⟩,
  ⟨(some 3), .mov (.tmp 28), none⟩])
  .ret)
  .skip))
  (.seq (.ops [⟨(some 30), .fieldAddr 2 (.tmp 1), none⟩,
  ⟨(some 31), .load1 (.tmp 30), none⟩,
  ⟨(some 32), .call (.func 51) [(.tmp 31)], none⟩,
  ⟨(some 29), .mov (.tmp 32), none⟩,
  ⟨(some 33), .extract (.tmp 29) 0, none⟩,
  ⟨(some 34), .extract (.tmp 29) 1, none⟩,
  ⟨(some 7), .mov (.tmp 33), none⟩,
  ⟨(some 6), .mov (.tmp 34), none⟩])
  (.seq (.seq (.ops [⟨(some 35), .mov (.tmp 6), none⟩,
  ⟨(some 36), .bin .neq (.prim .int) (.tmp 35) (.const (.int .i64 0)), none⟩])
  (.cond (.tmp 36) (.seq (.ops [⟨(some 37), .mov (.tmp 6), none⟩,
  ⟨(some 2), .mov (.const (.pointer none)), none⟩,
  ⟨(some 3), .mov (.tmp 37), none⟩])
  .ret)
  .skip))
  (.seq (.ops [⟨(some 39), .mov (.tmp 5), none⟩,
  ⟨(some 40), .fieldAddr 0 (.tmp 1), none⟩,
  ⟨(some 41), .load1 (.tmp 40), none⟩,
  ⟨(some 42), .call (.func 53) [(.tmp 39), (.tmp 41)], none⟩,
  ⟨(some 43), .call (.func 52) [(.tmp 42), (.const (.int .i64 0))], none⟩,
  ⟨(some 38), .mov (.tmp 43), none⟩,
  ⟨(some 44), .extract (.tmp 38) 0, none⟩,
  ⟨(some 45), .extract (.tmp 38) 1, none⟩,
  ⟨(some 8), .alloc 75 [(.int .i64 0), (.int .i64 0), (.int .i64 0)], none⟩,
  ⟨none, .store 3 (.tmp 8) (.tmp 44), none⟩,
  ⟨(some 9), .mov (.tmp 45), none⟩])
  (.seq (.ops [⟨(some 46), .mov (.tmp 5), none⟩,
  ⟨(some 47), .loadN 3 (.tmp 8), none⟩,
  ⟨(some 48), .call (.func 32) [(.tmp 46), (.const (.int .i64 0)), (.tmp 47)], none⟩])
  (.seq (.ops [⟨(some 49), .mov (.tmp 5), none⟩,
  ⟨(some 50), .build [(.int .i64 0), (.int .i64 0), (.int .i64 0)] [(1, 1, (.const (.int .i64 1)))], none⟩,
  ⟨(some 51), .call (.func 32) [(.tmp 49), (.const (.int .i64 1)), (.tmp 50)], none⟩])
  (.seq (.seq (.ops [⟨(some 52), .fieldAddr 3 (.tmp 1), none⟩,
  ⟨(some 53), .load1 (.tmp 52), none⟩,
  ⟨(some 54), .mov (.const (.int .i64 0)), none⟩])
  (.block 0 (.loop (.seq (.ops [⟨(some 55), .bin .lss (.prim .int) (.tmp 54) (.tmp 53), none⟩])
  (.seq (.cond (.tmp 55) .skip
  (.exit 0))
  (.seq (.block 1 (.seq (.ops [⟨(some 56), .mov (.tmp 54), none⟩,
  ⟨(some 10), .mov (.tmp 56), none⟩])
  (.seq (.ops [⟨(some 58), .mov (.tmp 10), none⟩,
  ⟨(some 59), .fieldAddr 3 (.tmp 1), none⟩,
  ⟨(some 60), .load1 (.tmp 59), none⟩,
  ⟨(some 61), .call (.func 54) [(.tmp 58), (.tmp 60)], none⟩,
  ⟨(some 57), .mov (.tmp 61), none⟩,
  ⟨(some 62), .extract (.tmp 57) 0, none⟩,
  ⟨(some 63), .extract (.tmp 57) 1, none⟩,
  ⟨(some 11), .alloc 75 [(.int .i64 0), (.int .i64 0), (.int .i64 0)], none⟩,
  ⟨none, .store 3 (.tmp 11) (.tmp 62), none⟩,
  ⟨(some 12), .mov (.tmp 63), none⟩])
  (.draw [⟨0, ⟨(some 64), .mov (.tmp 5), none⟩, []⟩,
  ⟨1, ⟨(some 65), .loadN 5 (.tmp 1), none⟩, []⟩,
  ⟨2, ⟨(some 66), .mov (.tmp 10), none⟩, []⟩,
  ⟨4, ⟨(some 68), .loadN 3 (.tmp 11), none⟩, []⟩,
  ⟨3, ⟨(some 67), .call (.func 55) [(.tmp 65), (.tmp 66)], none⟩, [⟨(some 68), .loadN 3 (.tmp 11), none⟩]⟩,
  ⟨5, ⟨(some 69), .call (.func 32) [(.tmp 64), (.tmp 67), (.tmp 68)], none⟩, []⟩]))))
  (.ops [⟨(some 70), .bin .add (.prim .int) (.tmp 54) (.const (.int .i64 1)), none⟩,
  ⟨(some 54), .mov (.tmp 70), none⟩])))))))
  (.seq (.draw [⟨0, ⟨(some 71), .loadN 5 (.tmp 1), none⟩, []⟩,
  ⟨1, ⟨(some 72), .mov (.tmp 5), none⟩, []⟩,
  ⟨2, ⟨(some 73), .mov (.tmp 7), none⟩, []⟩,
  ⟨3, ⟨(some 74), .mov (.tmp 5), none⟩, []⟩,
  ⟨5, ⟨(some 76), .mov (.tmp 7), none⟩, []⟩,
  ⟨4, ⟨(some 75), .call (.func 56) [(.tmp 74)], none⟩, [⟨(some 71), .loadN 5 (.tmp 1), none⟩]⟩,
  ⟨6, ⟨(some 77), .call (.func 57) [(.tmp 76)], none⟩, [⟨(some 71), .loadN 5 (.tmp 1), none⟩]⟩,
  ⟨7, ⟨(some 78), .bin .add (.prim .int) (.tmp 75) (.tmp 77), none⟩, []⟩,
  ⟨8, ⟨(some 79), .build [(.int .i64 0), (.int .i64 0), (.int .i64 0), (.int .i64 0), (.int .i64 0), (.pointer none), (.pointer none), (.int .i64 0)] [(0, 5, (.tmp 71)), (5, 1, (.tmp 72)), (6, 1, (.tmp 73)), (7, 1, (.tmp 78))], none⟩, []⟩,
  ⟨9, ⟨(some 80), .box 38 (.tmp 79), none⟩, []⟩,
  ⟨10, ⟨(some 2), .mov (.tmp 80), none⟩, []⟩,
  ⟨11, ⟨(some 3), .mov (.const (.int .i64 0)), none⟩, []⟩])
  .ret))))))))))) }
theorem c16 : compFunc Tryz.prog mts Tryz.f16 = some a16 := by kernel_rfl
def a18 : AFunc := { ntmps := 44, results := [.tmp 4], body := (.seq (.ops [⟨(some 3), .box 53 (.tmp 1), none⟩,
  ⟨(some 4), .mov (.const (.int .i64 0)), none⟩])
  (.seq (.block 0 (.seq (.draw [⟨0, ⟨(some 6), .mov (.tmp 0), none⟩, []⟩,
  ⟨1, ⟨(some 7), .call (.func 58) [(.tmp 6)], none⟩, []⟩,
  ⟨2, ⟨(some 8), .un .not (.tmp 7), none⟩, []⟩,
  ⟨3, ⟨(some 9), .mov (.tmp 8), none⟩, []⟩,
  ⟨4, ⟨(some 10), .fieldAddr 0 (.tmp 3), (some (9, false))⟩, []⟩,
  ⟨5, ⟨(some 11), .load1 (.tmp 10), (some (9, false))⟩, []⟩,
  ⟨6, ⟨(some 12), .bin .lss (.prim .int) (.tmp 11) (.const (.int .i64 0)), (some (9, false))⟩, []⟩,
  ⟨7, ⟨(some 13), .pick (.tmp 9) (.const (.bool true)) (.tmp 12), none⟩, []⟩,
  ⟨8, ⟨(some 14), .mov (.tmp 13), none⟩, []⟩,
  ⟨9, ⟨(some 15), .fieldAddr 0 (.tmp 3), (some (14, false))⟩, []⟩,
  ⟨10, ⟨(some 16), .load1 (.tmp 15), (some (14, false))⟩, []⟩,
  ⟨11, ⟨(some 17), .mov (.tmp 0), (some (14, false))⟩, []⟩,
  ⟨12, ⟨(some 18), .nilCheck (.tmp 17), (some (14, false))⟩, []⟩,
  ⟨13, ⟨(some 19), .fieldAddr 1 (.tmp 18), (some (14, false))⟩, []⟩,
  ⟨14, ⟨(some 20), .load1 (.tmp 19), (some (14, false))⟩, []⟩,
  ⟨15, ⟨(some 21), .lenSl (.tmp 20), (some (14, false))⟩, []⟩,
  ⟨16, ⟨(some 22), .bin .geq (.prim .int) (.tmp 16) (.tmp 21), (some (14, false))⟩, []⟩,
  ⟨17, ⟨(some 23), .pick (.tmp 14) (.const (.bool true)) (.tmp 22), none⟩, []⟩,
  ⟨18, ⟨(some 5), .mov (.tmp 23), none⟩, []⟩])
  (.cond (.tmp 5) (.seq (.ops [⟨(some 4), .mov (.const (.int .i64 0)), none⟩])
  .ret)
  (.seq (.draw [⟨0, ⟨(some 25), .mov (.tmp 0), none⟩, []⟩,
  ⟨1, ⟨(some 26), .nilCheck (.tmp 25), none⟩, []⟩,
  ⟨2, ⟨(some 27), .fieldAddr 1 (.tmp 26), none⟩, []⟩,
  ⟨3, ⟨(some 28), .load1 (.tmp 27), none⟩, []⟩,
  ⟨4, ⟨(some 29), .fieldAddr 0 (.tmp 3), none⟩, []⟩,
  ⟨5, ⟨(some 30), .load1 (.tmp 29), none⟩, []⟩,
  ⟨6, ⟨(some 31), .indexAddrSl 1 (.tmp 28) (.tmp 30), none⟩, []⟩,
  ⟨7, ⟨(some 32), .load1 (.tmp 31), none⟩, []⟩,
  ⟨8, ⟨(some 33), .bin .eql .iface (.tmp 32) (.const .nilIface), none⟩, []⟩,
  ⟨9, ⟨(some 24), .mov (.tmp 33), none⟩, []⟩])
  (.cond (.tmp 24) (.seq (.ops [⟨(some 34), .mov (.tmp 0), none⟩,
  ⟨(some 35), .fieldAddr 0 (.tmp 3), none⟩,
  ⟨(some 36), .load1 (.tmp 35), none⟩,
  ⟨(some 37), .fieldAddr 1 (.tmp 3), none⟩,
  ⟨(some 38), .loadN 5 (.tmp 37), none⟩,
  ⟨(some 39), .call (.func 59) [(.tmp 34), (.tmp 36), (.tmp 38)], none⟩,
  ⟨(some 4), .mov (.tmp 39), none⟩])
  .ret)
  .skip)))))
  (.seq (.ops [⟨(some 40), .mov (.tmp 0), none⟩,
  ⟨(some 41), .fieldAddr 0 (.tmp 3), none⟩,
  ⟨(some 42), .load1 (.tmp 41), none⟩,
  ⟨(some 43), .call (.func 60) [(.tmp 40), (.tmp 42)], none⟩,
  ⟨(some 4), .mov (.tmp 43), none⟩])
  .ret))) }
theorem c18 : compFunc Tryz.prog mts Tryz.f18 = some a18 := by kernel_rfl
def a19 : AFunc := { ntmps := 10, results := [.tmp 2], body := (.seq (.ops [⟨(some 2), .mov (.const (.int .i64 0)), none⟩])
  (.seq (.seq (.ops [⟨(some 3), .mov (.tmp 0), none⟩,
  ⟨(some 4), .call (.func 58) [(.tmp 3)], none⟩,
  ⟨(some 5), .un .not (.tmp 4), none⟩])
  (.cond (.tmp 5) (.seq (.ops [⟨(some 2), .mov (.const (.int .i64 0)), none⟩])
  .ret)
  .skip))
  (.seq (.ops [⟨(some 6), .mov (.tmp 0), none⟩,
  ⟨(some 7), .nilCheck (.tmp 6), none⟩,
  ⟨(some 8), .fieldAddr 5 (.tmp 7), none⟩,
  ⟨(some 9), .load1 (.tmp 8), none⟩,
  ⟨(some 2), .mov (.tmp 9), none⟩])
  .ret))) }
theorem c19 : compFunc Tryz.prog mts Tryz.f19 = some a19 := by kernel_rfl
def a20 : AFunc := { ntmps := 25, results := [.tmp 4], body := (.seq (.ops [⟨(some 4), .mov (.const (.slice none 0 0)), none⟩])
  (.seq (.seq (.ops [⟨(some 8), .mov (.tmp 0), none⟩,
  ⟨(some 9), .call (.func 58) [(.tmp 8)], none⟩,
  ⟨(some 10), .un .not (.tmp 9), none⟩])
  (.cond (.tmp 10) (.seq (.ops [⟨(some 4), .mov (.const (.slice none 0 0)), none⟩])
  .ret)
  .skip))
  (.seq (.ops [⟨(some 5), .mov (.const (.slice none 0 0)), none⟩])
  (.seq (.seq (.ops [⟨(some 11), .mov (.tmp 1), none⟩,
  ⟨(some 12), .lenSl (.tmp 11), none⟩,
  ⟨(some 13), .mov (.const (.int .i64 0)), none⟩])
  (.block 0 (.loop (.seq (.ops [⟨(some 14), .bin .lss (.prim .int) (.tmp 13) (.tmp 12), none⟩])
  (.seq (.cond (.tmp 14) .skip
  (.exit 0))
  (.seq (.block 1 (.seq (.ops [⟨(some 15), .indexAddrSl 6 (.tmp 11) (.tmp 13), none⟩,
  ⟨(some 16), .loadN 6 (.tmp 15), none⟩,
  ⟨(some 7), .alloc 53 [(.int .i64 0), (.int .i64 0), (.string ⟨#[]⟩), (.string ⟨#[]⟩), (.string ⟨#[]⟩), (.int .i64 0)], none⟩,
  ⟨none, .store 6 (.tmp 7) (.tmp 16), none⟩])
  (.ops [⟨(some 17), .mov (.tmp 5), none⟩,
  ⟨(some 18), .mov (.tmp 0), none⟩,
  ⟨(some 19), .loadN 6 (.tmp 7), none⟩,
  ⟨(some 20), .call (.func 18) [(.tmp 18), (.tmp 19)], none⟩,
  ⟨(some 21), .buildSlice 3 1 [(.int .i64 0)] [(0, 1, (.tmp 20))], none⟩,
  ⟨(some 22), .append 3 1 8 (.tmp 17) (.tmp 21), none⟩,
  ⟨(some 5), .mov (.tmp 22), none⟩])))
  (.ops [⟨(some 23), .bin .add (.prim .int) (.tmp 13) (.const (.int .i64 1)), none⟩,
  ⟨(some 13), .mov (.tmp 23), none⟩])))))))
  (.seq (.ops [⟨(some 24), .mov (.tmp 5), none⟩,
  ⟨(some 4), .mov (.tmp 24), none⟩])
  .ret))))) }
theorem c20 : compFunc Tryz.prog mts Tryz.f20 = some a20 := by kernel_rfl
def a21 : AFunc := { ntmps := 11, results := [.tmp 2], body := (.seq (.ops [⟨(some 2), .mov (.const (.slice none 0 0)), none⟩])
  (.seq (.seq (.ops [⟨(some 3), .mov (.tmp 0), none⟩,
  ⟨(some 4), .call (.func 58) [(.tmp 3)], none⟩,
  ⟨(some 5), .un .not (.tmp 4), none⟩])
  (.cond (.tmp 5) (.seq (.ops [⟨(some 2), .mov (.const (.slice none 0 0)), none⟩])
  .ret)
  .skip))
  (.seq (.ops [⟨(some 6), .mov (.tmp 0), none⟩,
  ⟨(some 7), .nilCheck (.tmp 6), none⟩,
  ⟨(some 8), .fieldAddr 3 (.tmp 7), none⟩,
  ⟨(some 9), .load1 (.tmp 8), none⟩,
  ⟨(some 10), .call (.func 61) [(.tmp 9)], none⟩,
  ⟨(some 2), .mov (.tmp 10), none⟩])
  .ret))) }
theorem c21 : compFunc Tryz.prog mts Tryz.f21 = some a21 := by kernel_rfl
def a22 : AFunc := { ntmps := 27, results := [.tmp 2], body := (.seq (.ops [⟨(some 2), .mov (.const (.slice none 0 0)), none⟩])
  (.seq (.seq (.ops [⟨(some 6), .mov (.tmp 0), none⟩,
  ⟨(some 7), .call (.func 58) [(.tmp 6)], none⟩,
  ⟨(some 8), .un .not (.tmp 7), none⟩])
  (.cond (.tmp 8) (.seq (.ops [⟨(some 2), .mov (.const (.slice none 0 0)), none⟩])
  .ret)
  .skip))
  (.seq (.ops [⟨(some 3), .mov (.const (.slice none 0 0)), none⟩])
  (.seq (.seq (.ops [⟨(some 9), .mov (.tmp 0), none⟩,
  ⟨(some 10), .nilCheck (.tmp 9), none⟩,
  ⟨(some 11), .fieldAddr 1 (.tmp 10), none⟩,
  ⟨(some 12), .load1 (.tmp 11), none⟩,
  ⟨(some 13), .lenSl (.tmp 12), none⟩,
  ⟨(some 14), .mov (.const (.int .i64 0)), none⟩])
  (.block 0 (.loop (.seq (.ops [⟨(some 15), .bin .lss (.prim .int) (.tmp 14) (.tmp 13), none⟩])
  (.seq (.cond (.tmp 15) .skip
  (.exit 0))
  (.seq (.block 1 (.seq (.ops [⟨(some 16), .mov (.tmp 14), none⟩,
  ⟨(some 17), .indexAddrSl 1 (.tmp 12) (.tmp 14), none⟩,
  ⟨(some 18), .load1 (.tmp 17), none⟩,
  ⟨(some 4), .mov (.tmp 16), none⟩,
  ⟨(some 5), .mov (.tmp 18), none⟩])
  (.seq (.ops [⟨(some 19), .mov (.tmp 5), none⟩,
  ⟨(some 20), .bin .neq .iface (.tmp 19) (.const .nilIface), none⟩])
  (.cond (.tmp 20) (.ops [⟨(some 21), .mov (.tmp 3), none⟩,
  ⟨(some 22), .mov (.tmp 4), none⟩,
  ⟨(some 23), .buildSlice 3 1 [(.int .i64 0)] [(0, 1, (.tmp 22))], none⟩,
  ⟨(some 24), .append 3 1 8 (.tmp 21) (.tmp 23), none⟩,
  ⟨(some 3), .mov (.tmp 24), none⟩])
  .skip))))
  (.ops [⟨(some 25), .bin .add (.prim .int) (.tmp 14) (.const (.int .i64 1)), none⟩,
  ⟨(some 14), .mov (.tmp 25), none⟩])))))))
  (.seq (.ops [⟨(some 26), .mov (.tmp 3), none⟩,
  ⟨(some 2), .mov (.tmp 26), none⟩])
  .ret))))) }
theorem c22 : compFunc Tryz.prog mts Tryz.f22 = some a22 := by kernel_rfl
def a23 : AFunc := { ntmps := 11, results := [.tmp 2], body := (.seq (.ops [⟨(some 2), .mov (.const (.slice none 0 0)), none⟩])
  (.seq (.seq (.ops [⟨(some 3), .mov (.tmp 0), none⟩,
  ⟨(some 4), .call (.func 58) [(.tmp 3)], none⟩,
  ⟨(some 5), .un .not (.tmp 4), none⟩])
  (.cond (.tmp 5) (.seq (.ops [⟨(some 2), .mov (.const (.slice none 0 0)), none⟩])
  .ret)
  .skip))
  (.seq (.ops [⟨(some 6), .mov (.tmp 0), none⟩,
  ⟨(some 7), .nilCheck (.tmp 6), none⟩,
  ⟨(some 8), .fieldAddr 4 (.tmp 7), none⟩,
  ⟨(some 9), .load1 (.tmp 8), none⟩,
  ⟨(some 10), .call (.func 62) [(.tmp 9)], none⟩,
  ⟨(some 2), .mov (.tmp 10), none⟩])
  .ret))) }
theorem c23 : compFunc Tryz.prog mts Tryz.f23 = some a23 := by kernel_rfl
def a24 : AFunc := { ntmps := 10, results := [.tmp 2], body := (.seq (.ops [⟨(some 2), .mov (.const (.pointer none)), none⟩])
  (.seq (.seq (.ops [⟨(some 3), .mov (.tmp 0), none⟩,
  ⟨(some 4), .call (.func 58) [(.tmp 3)], none⟩,
  ⟨(some 5), .un .not (.tmp 4), none⟩])
  (.cond (.tmp 5) (.seq (.ops [⟨(some 2), .mov (.const (.pointer none)), none⟩])
  .ret)
  .skip))
  (.seq (.ops [⟨(some 6), .mov (.tmp 0), none⟩,
  ⟨(some 7), .nilCheck (.tmp 6), none⟩,
  ⟨(some 8), .fieldAddr 0 (.tmp 7), none⟩,
  ⟨(some 9), .load1 (.tmp 8), none⟩,
  ⟨(some 2), .mov (.tmp 9), none⟩])
  .ret))) }
theorem c24 : compFunc Tryz.prog mts Tryz.f24 = some a24 := by kernel_rfl
def a25 : AFunc := { ntmps := 43, results := [.tmp 0], body := (.seq (.ops [⟨(some 0), .mov (.const (.bool false)), none⟩])
  (.seq (.ops [⟨(some 6), .build [(.int .i64 0), (.int .i64 0), (.int .i64 0), (.int .i64 0), (.int .i64 0)] [(0, 1, (.const (.int .i64 2))), (1, 1, (.const (.int .i64 9))), (2, 1, (.const (.int .i64 1))), (3, 1, (.const (.int .i64 1))), (4, 1, (.const (.int .i64 4)))], none⟩,
  ⟨(some 7), .call (.func 63) [(.tmp 6)], none⟩,
  ⟨(some 5), .mov (.tmp 7), none⟩,
  ⟨(some 8), .extract (.tmp 5) 0, none⟩,
  ⟨(some 9), .extract (.tmp 5) 1, none⟩,
  ⟨(some 1), .mov (.tmp 8), none⟩,
  ⟨(some 2), .mov (.tmp 9), none⟩])
  (.seq (.ops [⟨(some 10), .build [(.int .i64 0), (.string ⟨#[]⟩), (.string ⟨#[]⟩), (.string ⟨#[]⟩), (.int .i64 0)] [(0, 1, (.const (.int .i64 7)))], none⟩,
  ⟨(some 11), .build [(.int .i64 0), (.int .i64 0), (.string ⟨#[]⟩), (.string ⟨#[]⟩), (.string ⟨#[]⟩), (.int .i64 0)] [(1, 5, (.tmp 10))], none⟩,
  ⟨(some 3), .alloc 53 [(.int .i64 0), (.int .i64 0), (.string ⟨#[]⟩), (.string ⟨#[]⟩), (.string ⟨#[]⟩), (.int .i64 0)], none⟩,
  ⟨none, .store 6 (.tmp 3) (.tmp 11), none⟩])
  (.seq (.ops [⟨(some 12), .mov (.tmp 1), none⟩,
  ⟨(some 13), .loadN 6 (.tmp 3), none⟩,
  ⟨(some 14), .loadN 6 (.tmp 3), none⟩,
  ⟨(some 15), .loadN 6 (.tmp 3), none⟩,
  ⟨(some 16), .loadN 6 (.tmp 3), none⟩,
  ⟨(some 17), .loadN 6 (.tmp 3), none⟩,
  ⟨(some 18), .loadN 6 (.tmp 3), none⟩,
  ⟨(some 19), .loadN 6 (.tmp 3), none⟩,
  ⟨(some 20), .buildSlice 53 7 [(.int .i64 0), (.int .i64 0), (.string ⟨#[]⟩), (.string ⟨#[]⟩), (.string ⟨#[]⟩), (.int .i64 0), (.int .i64 0), (.int .i64 0), (.string ⟨#[]⟩), (.string ⟨#[]⟩), (.string ⟨#[]⟩), (.int .i64 0), (.int .i64 0), (.int .i64 0), (.string ⟨#[]⟩), (.string ⟨#[]⟩), (.string ⟨#[]⟩), (.int .i64 0), (.int .i64 0), (.int .i64 0), (.string ⟨#[]⟩), (.string ⟨#[]⟩), (.string ⟨#[]⟩), (.int .i64 0), (.int .i64 0), (.int .i64 0), (.string ⟨#[]⟩), (.string ⟨#[]⟩), (.string ⟨#[]⟩), (.int .i64 0), (.int .i64 0), (.int .i64 0), (.string ⟨#[]⟩), (.string ⟨#[]⟩), (.string ⟨#[]⟩), (.int .i64 0), (.int .i64 0), (.int .i64 0), (.string ⟨#[]⟩), (.string ⟨#[]⟩), (.string ⟨#[]⟩), (.int .i64 0)] [(0, 6, (.tmp 13)), (6, 6, (.tmp 14)), (12, 6, (.tmp 15)), (18, 6, (.tmp 16)), (24, 6, (.tmp 17)), (30, 6, (.tmp 18)), (36, 6, (.tmp 19))], none⟩,
  ⟨(some 21), .call (.func 20) [(.tmp 12), (.tmp 20)], none⟩,
  ⟨(some 4), .mov (.tmp 21), none⟩])
  (.seq (.ops [⟨(some 22), .mov (.tmp 2), none⟩,
  ⟨(some 23), .bin .eql (.prim .int) (.tmp 22) (.const (.int .i64 0)), none⟩,
  ⟨(some 24), .mov (.tmp 23), none⟩,
  ⟨(some 25), .mov (.tmp 4), (some (24, true))⟩,
  ⟨(some 26), .buildSlice 3 7 [(.int .i64 0), (.int .i64 0), (.int .i64 0), (.int .i64 0), (.int .i64 0), (.int .i64 0), (.int .i64 0)] [(0, 1, (.const (.int .i64 1))), (1, 1, (.const (.int .i64 2))), (2, 1, (.const (.int .i64 2))), (3, 1, (.const (.int .i64 2))), (4, 1, (.const (.int .i64 2))), (5, 1, (.const (.int .i64 2))), (6, 1, (.const (.int .i64 3)))], (some (24, true))⟩,
  ⟨(some 27), .call (.func 64) [(.tmp 25), (.tmp 26)], (some (24, true))⟩,
  ⟨(some 28), .pick (.tmp 24) (.tmp 27) (.const (.bool false)), none⟩,
  ⟨(some 29), .mov (.tmp 28), none⟩,
  ⟨(some 30), .mov (.tmp 1), (some (29, true))⟩,
  ⟨(some 31), .call (.func 23) [(.tmp 30)], (some (29, true))⟩,
  ⟨(some 32), .buildSlice 3 1 [(.int .i64 0)] [(0, 1, (.const (.int .i64 0)))], (some (29, true))⟩,
  ⟨(some 33), .call (.func 64) [(.tmp 31), (.tmp 32)], (some (29, true))⟩,
  ⟨(some 34), .pick (.tmp 29) (.tmp 33) (.const (.bool false)), none⟩,
  ⟨(some 35), .mov (.tmp 34), none⟩,
  ⟨(some 36), .mov (.tmp 1), (some (35, true))⟩,
  ⟨(some 37), .call (.func 21) [(.tmp 36)], (some (35, true))⟩,
  ⟨(some 38), .lenSl (.tmp 37), (some (35, true))⟩,
  ⟨(some 39), .bin .eql (.prim .int) (.tmp 38) (.const (.int .i64 2)), (some (35, true))⟩,
  ⟨(some 40), .pick (.tmp 35) (.tmp 39) (.const (.bool false)), none⟩,
  ⟨(some 41), .mov (.tmp 40), none⟩,
  ⟨(some 42), .pick (.tmp 41) (.const (.bool true)) (.const (.bool false)), none⟩,
  ⟨(some 0), .mov (.tmp 42), none⟩])
  .ret))))) }
theorem c25 : compFunc Tryz.prog mts Tryz.f25 = some a25 := by kernel_rfl
def a30 : AFunc := { ntmps := 21, results := [.cellN 4 3, .tmp 5], body := (.seq (.ops [⟨(some 4), .alloc 75 [(.int .i64 0), (.int .i64 0), (.int .i64 0)], none⟩,
  ⟨(some 5), .mov (.const (.int .i64 0)), none⟩])
  (.seq (.seq (.ops [⟨(some 7), .mov (.tmp 0), none⟩,
  ⟨(some 8), .call (.func 68) [(.tmp 7)], none⟩,
  ⟨(some 6), .mov (.tmp 8), none⟩])
  (.seq (.ops [⟨(some 9), .mov (.tmp 6), none⟩,
  ⟨(some 10), .bin .neq (.prim .int) (.tmp 9) (.const (.int .i64 0)), none⟩])
  (.cond (.tmp 10) (.seq (.ops [⟨(some 11), .build [(.int .i64 0), (.int .i64 0), (.int .i64 0)] [], none⟩,
  ⟨(some 12), .mov (.tmp 6), none⟩,
  ⟨none, .store 3 (.tmp 4) (.tmp 11), none⟩,
  ⟨(some 5), .mov (.tmp 12), none⟩])
  .ret)
  .skip)))
  (.seq (.ops [⟨(some 13), .mov (.tmp 0), none⟩,
  ⟨(some 14), .nilCheck (.tmp 13), none⟩,
  ⟨(some 15), .fieldAddr 0 (.tmp 14), none⟩,
  ⟨(some 16), .load1 (.tmp 15), none⟩,
  ⟨(some 17), .mov (.tmp 1), none⟩,
  ⟨(some 18), .call (.func 69) [(.tmp 16), (.tmp 17)], none⟩,
  ⟨(some 19), .extract (.tmp 18) 0, none⟩,
  ⟨(some 20), .extract (.tmp 18) 1, none⟩,
  ⟨none, .store 3 (.tmp 4) (.tmp 19), none⟩,
  ⟨(some 5), .mov (.tmp 20), none⟩])
  .ret))) }
theorem c30 : compFunc Tryz.prog mts Tryz.f30 = some a30 := by kernel_rfl
def a31 : AFunc := { ntmps := 21, results := [.cellN 4 3, .tmp 5], body := (.seq (.ops [⟨(some 4), .alloc 75 [(.int .i64 0), (.int .i64 0), (.int .i64 0)], none⟩,
  ⟨(some 5), .mov (.const (.int .i64 0)), none⟩])
  (.seq (.seq (.ops [⟨(some 6), .mov (.tmp 0), none⟩,
  ⟨(some 7), .bin .lss (.prim .int) (.tmp 6) (.const (.int .i64 0)), none⟩,
  ⟨(some 8), .mov (.tmp 7), none⟩,
  ⟨(some 9), .mov (.tmp 1), (some (8, false))⟩,
  ⟨(some 10), .bin .lss (.prim .int) (.tmp 9) (.const (.int .i64 (-1))), (some (8, false))⟩,
  ⟨(some 11), .pick (.tmp 8) (.const (.bool true)) (.tmp 10), none⟩,
  ⟨(some 12), .mov (.tmp 11), none⟩,
  ⟨(some 13), .mov (.tmp 1), (some (12, false))⟩,
  ⟨(some 14), .bin .geq (.prim .int) (.tmp 13) (.const (.int .i64 4611686018427387904)), (some (12, false))⟩,
  ⟨(some 15), .pick (.tmp 12) (.const (.bool true)) (.tmp 14), none⟩])
  (.cond (.tmp 15) (.seq (.ops [⟨(some 16), .build [(.int .i64 0), (.int .i64 0), (.int .i64 0)] [], none⟩,
  ⟨none, .store 3 (.tmp 4) (.tmp 16), none⟩,
  ⟨(some 5), .mov (.const (.int .i64 2)), none⟩])
  .ret)
  .skip))
  (.seq (.ops [⟨(some 17), .mov (.tmp 0), none⟩,
  ⟨(some 18), .mov (.tmp 1), none⟩,
  ⟨(some 19), .bin .add (.prim .int) (.tmp 18) (.const (.int .i64 1)), none⟩,
  ⟨(some 20), .build [(.int .i64 0), (.int .i64 0), (.int .i64 0)] [(1, 1, (.tmp 17)), (2, 1, (.tmp 19))], none⟩,
  ⟨none, .store 3 (.tmp 4) (.tmp 20), none⟩,
  ⟨(some 5), .mov (.const (.int .i64 0)), none⟩])
  .ret))) }
theorem c31 : compFunc Tryz.prog mts Tryz.f31 = some a31 := by kernel_rfl
def a32 : AFunc := { ntmps := 20, results := [.tmp 6], body := (.seq (.ops [⟨(some 5), .box 75 (.tmp 2), none⟩,
  ⟨(some 6), .mov (.const (.int .i64 0)), none⟩])
  (.seq (.seq (.ops [⟨(some 8), .mov (.tmp 0), none⟩,
  ⟨(some 9), .call (.func 68) [(.tmp 8)], none⟩,
  ⟨(some 7), .mov (.tmp 9), none⟩])
  (.seq (.ops [⟨(some 10), .mov (.tmp 7), none⟩,
  ⟨(some 11), .bin .neq (.prim .int) (.tmp 10) (.const (.int .i64 0)), none⟩])
  (.cond (.tmp 11) (.seq (.ops [⟨(some 12), .mov (.tmp 7), none⟩,
  ⟨(some 6), .mov (.tmp 12), none⟩])
  .ret)
  .skip)))
  (.seq (.draw [⟨0, ⟨(some 13), .mov (.tmp 0), none⟩, []⟩,
  ⟨1, ⟨(some 14), .nilCheck (.tmp 13), none⟩, []⟩,
  ⟨2, ⟨(some 15), .fieldAddr 0 (.tmp 14), none⟩, []⟩,
  ⟨3, ⟨(some 16), .load1 (.tmp 15), none⟩, []⟩,
  ⟨4, ⟨(some 17), .mov (.tmp 1), none⟩, []⟩,
  ⟨5, ⟨(some 18), .loadN 3 (.tmp 5), none⟩, []⟩,
  ⟨6, ⟨(some 19), .call (.func 70) [(.tmp 16), (.tmp 17), (.tmp 18)], none⟩, []⟩,
  ⟨7, ⟨(some 6), .mov (.tmp 19), none⟩, []⟩])
  .ret))) }
theorem c32 : compFunc Tryz.prog mts Tryz.f32 = some a32 := by kernel_rfl
def a33 : AFunc := { ntmps := 6, results := [.tmp 2], body := (.seq (.ops [⟨(some 2), .mov (.const (.int .i64 0)), none⟩])
  (.seq (.ops [⟨(some 3), .mov (.tmp 0), none⟩,
  ⟨(some 4), .call (.func 71) [(.tmp 3)], none⟩,
  ⟨(some 5), .bin .add (.prim .int) (.const (.int .i64 2)) (.tmp 4), none⟩,
  ⟨(some 2), .mov (.tmp 5), none⟩])
  .ret)) }
theorem c33 : compFunc Tryz.prog mts Tryz.f33 = some a33 := by kernel_rfl
def a42 : AFunc := { ntmps := 38, results := [.cellN 2 5], body := (.seq (.ops [⟨(some 1), .box 23 (.tmp 0), none⟩,
  ⟨(some 2), .alloc 23 [(.int .i64 0), (.string ⟨#[]⟩), (.string ⟨#[]⟩), (.string ⟨#[]⟩), (.int .i64 0)], none⟩])
  (.seq (.ops [⟨(some 5), .fieldAddr 0 (.tmp 1), none⟩,
  ⟨(some 6), .load1 (.tmp 5), none⟩,
  ⟨(some 7), .build [(.int .i64 0), (.string ⟨#[]⟩), (.string ⟨#[]⟩), (.string ⟨#[]⟩), (.int .i64 0)] [(0, 1, (.tmp 6))], none⟩,
  ⟨(some 3), .alloc 23 [(.int .i64 0), (.string ⟨#[]⟩), (.string ⟨#[]⟩), (.string ⟨#[]⟩), (.int .i64 0)], none⟩,
  ⟨none, .store 5 (.tmp 3) (.tmp 7), none⟩])
  (.seq (.seq (.ops [⟨(some 8), .fieldAddr 0 (.tmp 1), none⟩,
  ⟨(some 9), .load1 (.tmp 8), none⟩,
  ⟨(some 10), .call (.func 91) [(.tmp 9)], none⟩,
  ⟨(some 11), .un .not (.tmp 10), none⟩])
  (.cond (.tmp 11) (.seq (.ops [⟨(some 12), .loadN 5 (.tmp 3), none⟩,
  ⟨none, .store 5 (.tmp 2) (.tmp 12), none⟩])
  .ret)
  .skip))
  (.seq (.ops [⟨(some 13), .fieldAddr 0 (.tmp 1), none⟩,
  ⟨(some 14), .load1 (.tmp 13), none⟩,
  ⟨(some 15), .indexAddrArr 14 4 (.global 0) (.tmp 14), none⟩,
  ⟨(some 16), .loadN 4 (.tmp 15), none⟩,
  ⟨(some 4), .alloc 166 [(.bool false), (.bool false), (.bool false), (.bool false)], none⟩,
  ⟨none, .store 4 (.tmp 4) (.tmp 16), none⟩])
  (.seq (.seq (.ops [⟨(some 17), .fieldAddr 0 (.tmp 4), none⟩,
  ⟨(some 18), .load1 (.tmp 17), none⟩])
  (.cond (.tmp 18) (.ops [⟨(some 19), .fieldAddr 1 (.tmp 1), none⟩,
  ⟨(some 20), .load1 (.tmp 19), none⟩,
  ⟨(some 21), .fieldAddr 1 (.tmp 3), none⟩,
  ⟨none, .store 1 (.tmp 21) (.tmp 20), none⟩])
  .skip))
  (.seq (.seq (.ops [⟨(some 22), .fieldAddr 1 (.tmp 4), none⟩,
  ⟨(some 23), .load1 (.tmp 22), none⟩])
  (.cond (.tmp 23) (.ops [⟨(some 24), .fieldAddr 2 (.tmp 1), none⟩,
  ⟨(some 25), .load1 (.tmp 24), none⟩,
  ⟨(some 26), .fieldAddr 2 (.tmp 3), none⟩,
  ⟨none, .store 1 (.tmp 26) (.tmp 25), none⟩])
  .skip))
  (.seq (.seq (.ops [⟨(some 27), .fieldAddr 2 (.tmp 4), none⟩,
  ⟨(some 28), .load1 (.tmp 27), none⟩])
  (.cond (.tmp 28) (.ops [⟨(some 29), .fieldAddr 3 (.tmp 1), none⟩,
  ⟨(some 30), .load1 (.tmp 29), none⟩,
  ⟨(some 31), .fieldAddr 3 (.tmp 3), none⟩,
  ⟨none, .store 1 (.tmp 31) (.tmp 30), none⟩])
  .skip))
  (.seq (.seq (.ops [⟨(some 32), .fieldAddr 3 (.tmp 4), none⟩,
  ⟨(some 33), .load1 (.tmp 32), none⟩])
  (.cond (.tmp 33) (.ops [⟨(some 34), .fieldAddr 4 (.tmp 1), none⟩,
  ⟨(some 35), .load1 (.tmp 34), none⟩,
  ⟨(some 36), .fieldAddr 4 (.tmp 3), none⟩,
  ⟨none, .store 1 (.tmp 36) (.tmp 35), none⟩])
  .skip))
  (.seq (.ops [⟨(some 37), .loadN 5 (.tmp 3), none⟩,
  ⟨none, .store 5 (.tmp 2) (.tmp 37), none⟩])
  .ret))))))))) }
theorem c42 : compFunc Tryz.prog mts Tryz.f42 = some a42 := by kernel_rfl
def a44 : AFunc := { ntmps := 32, results := [.tmp 2], body := (.seq (.ops [⟨(some 1), .box 34 (.tmp 0), none⟩,
  ⟨(some 2), .mov (.const (.int .i64 0)), none⟩])
  (.seq (.ops [⟨(some 3), .mov (.const (.int .i64 0)), none⟩,
  ⟨(some 4), .mov (.const (.int .i64 0)), none⟩])
  (.seq (.seq (.ops [⟨(some 5), .fieldAddr 0 (.tmp 1), none⟩,
  ⟨(some 6), .load1 (.tmp 5), none⟩,
  ⟨(some 7), .bin .eql (.prim .int) (.tmp 6) (.const (.int .i64 3)), none⟩])
  (.cond (.tmp 7) (.ops [⟨(some 3), .mov (.const (.int .i64 2)), none⟩,
  ⟨(some 4), .mov (.const (.int .i64 1)), none⟩])
  .skip))
  (.seq (.block 0 (.seq (.ops [⟨(some 9), .fieldAddr 0 (.tmp 1), none⟩,
  ⟨(some 10), .load1 (.tmp 9), none⟩,
  ⟨(some 11), .call (.func 92) [(.tmp 10), (.const (.int .i64 1)), (.const (.int .i64 3))], none⟩,
  ⟨(some 12), .un .not (.tmp 11), none⟩,
  ⟨(some 8), .mov (.tmp 12), none⟩])
  (.cond (.tmp 8) (.seq (.ops [⟨(some 2), .mov (.const (.int .i64 11)), none⟩])
  .ret)
  (.seq (.seq (.ops [⟨(some 14), .fieldAddr 1 (.tmp 1), none⟩,
  ⟨(some 15), .load1 (.tmp 14), none⟩,
  ⟨(some 16), .mov (.tmp 3), none⟩,
  ⟨(some 17), .call (.func 92) [(.tmp 15), (.tmp 16), (.const (.int .i64 1000))], none⟩,
  ⟨(some 18), .un .not (.tmp 17), none⟩,
  ⟨(some 13), .mov (.tmp 18), none⟩])
  (.cond (.tmp 13) .skip
  (.seq (.ops [⟨(some 19), .fieldAddr 2 (.tmp 1), none⟩,
  ⟨(some 20), .load1 (.tmp 19), none⟩,
  ⟨(some 21), .call (.func 92) [(.tmp 20), (.const (.int .i64 1)), (.const (.int .i64 64))], none⟩,
  ⟨(some 22), .un .not (.tmp 21), none⟩,
  ⟨(some 13), .mov (.tmp 22), none⟩])
  (.cond (.tmp 13) .skip
  (.seq (.ops [⟨(some 23), .fieldAddr 3 (.tmp 1), none⟩,
  ⟨(some 24), .load1 (.tmp 23), none⟩,
  ⟨(some 25), .call (.func 92) [(.tmp 24), (.const (.int .i64 0)), (.const (.int .i64 16))], none⟩,
  ⟨(some 26), .un .not (.tmp 25), none⟩,
  ⟨(some 13), .mov (.tmp 26), none⟩])
  (.cond (.tmp 13) .skip
  (.ops [⟨(some 27), .fieldAddr 4 (.tmp 1), none⟩,
  ⟨(some 28), .load1 (.tmp 27), none⟩,
  ⟨(some 29), .mov (.tmp 4), none⟩,
  ⟨(some 30), .call (.func 92) [(.tmp 28), (.tmp 29), (.const (.int .i64 64))], none⟩,
  ⟨(some 31), .un .not (.tmp 30), none⟩,
  ⟨(some 13), .mov (.tmp 31), none⟩])))))))
  (.cond (.tmp 13) (.seq (.ops [⟨(some 2), .mov (.const (.int .i64 2)), none⟩])
  .ret)
  .skip)))))
  (.seq (.ops [⟨(some 2), .mov (.const (.int .i64 0)), none⟩])
  .ret))))) }
theorem c44 : compFunc Tryz.prog mts Tryz.f44 = some a44 := by kernel_rfl
def a49 : AFunc := { ntmps := 30, results := [.tmp 4, .tmp 5], body := (.seq (.ops [⟨(some 4), .mov (.const (.pointer none)), none⟩,
  ⟨(some 5), .mov (.const (.int .i64 0)), none⟩])
  (.seq (.ops [⟨(some 10), .mov (.tmp 0), none⟩,
  ⟨(some 11), .call (.func 96) [(.tmp 10)], none⟩,
  ⟨(some 9), .mov (.tmp 11), none⟩,
  ⟨(some 12), .extract (.tmp 9) 0, none⟩,
  ⟨(some 13), .extract (.tmp 9) 1, none⟩,
  ⟨(some 6), .mov (.tmp 12), none⟩,
  ⟨(some 7), .mov (.tmp 13), none⟩])
  (.seq (.seq (.ops [⟨(some 14), .mov (.tmp 7), none⟩,
  ⟨(some 15), .bin .neq (.prim .int) (.tmp 14) (.const (.int .i64 0)), none⟩])
  (.cond (.tmp 15) (.seq (.ops [⟨(some 16), .mov (.tmp 7), none⟩,
  ⟨(some 4), .mov (.const (.pointer none)), none⟩,
  ⟨(some 5), .mov (.tmp 16), none⟩])
  .ret)
  .skip))
  (.seq (.ops [⟨(some 18), .mov (.tmp 1), none⟩,
  ⟨(some 19), .call (.func 97) [(.tmp 18)], none⟩,
  ⟨(some 17), .mov (.tmp 19), none⟩,
  ⟨(some 20), .extract (.tmp 17) 0, none⟩,
  ⟨(some 21), .extract (.tmp 17) 1, none⟩,
  ⟨(some 8), .mov (.tmp 20), none⟩,
  ⟨(some 7), .mov (.tmp 21), none⟩])
  (.seq (.seq (.ops [⟨(some 22), .mov (.tmp 7), none⟩,
  ⟨(some 23), .bin .neq (.prim .int) (.tmp 22) (.const (.int .i64 0)), none⟩])
  (.cond (.tmp 23) (.seq (.ops [⟨(some 24), .mov (.tmp 7), none⟩,
  ⟨(some 4), .mov (.const (.pointer none)), none⟩,
  ⟨(some 5), .mov (.tmp 24), none⟩])
  .ret)
  .skip))
  (.seq (.ops [⟨(some 25), .mov (.tmp 8), none⟩,
  ⟨(some 26), .mov (.tmp 6), none⟩,
  ⟨(some 27), .build [(.pointer none), (.pointer none), (.int .i64 0), (.int .i64 0)] [(0, 1, (.tmp 25)), (1, 1, (.tmp 26))], none⟩,
  ⟨(some 28), .box 126 (.tmp 27), none⟩,
  ⟨(some 29), .mov (.tmp 7), none⟩,
  ⟨(some 4), .mov (.tmp 28), none⟩,
  ⟨(some 5), .mov (.tmp 29), none⟩])
  .ret)))))) }
theorem c49 : compFunc Tryz.prog mts Tryz.f49 = some a49 := by kernel_rfl
def a50 : AFunc := { ntmps := 12, results := [.tmp 2], body := (.seq (.ops [⟨(some 1), .box 34 (.tmp 0), none⟩,
  ⟨(some 2), .mov (.const (.int .i64 0)), none⟩])
  (.seq (.seq (.ops [⟨(some 3), .loadN 5 (.tmp 1), none⟩,
  ⟨(some 4), .call (.func 44) [(.tmp 3)], none⟩,
  ⟨(some 5), .bin .neq (.prim .int) (.tmp 4) (.const (.int .i64 0)), none⟩])
  (.cond (.tmp 5) (.seq (.ops [⟨(some 2), .mov (.const (.int .i64 0)), none⟩])
  .ret)
  .skip))
  (.seq (.ops [⟨(some 6), .fieldAddr 2 (.tmp 1), none⟩,
  ⟨(some 7), .load1 (.tmp 6), none⟩,
  ⟨(some 8), .bin .add (.prim .int) (.const (.int .i64 2)) (.tmp 7), none⟩,
  ⟨(some 9), .fieldAddr 3 (.tmp 1), none⟩,
  ⟨(some 10), .load1 (.tmp 9), none⟩,
  ⟨(some 11), .bin .add (.prim .int) (.tmp 8) (.tmp 10), none⟩,
  ⟨(some 2), .mov (.tmp 11), none⟩])
  .ret))) }
theorem c50 : compFunc Tryz.prog mts Tryz.f50 = some a50 := by kernel_rfl
def a51 : AFunc := { ntmps := 14, results := [.tmp 2, .tmp 3], body := (.seq (.ops [⟨(some 2), .mov (.const (.pointer none)), none⟩,
  ⟨(some 3), .mov (.const (.int .i64 0)), none⟩])
  (.seq (.seq (.ops [⟨(some 4), .mov (.tmp 0), none⟩,
  ⟨(some 5), .bin .lss (.prim .int) (.tmp 4) (.const (.int .i64 0)), none⟩,
  ⟨(some 6), .mov (.tmp 5), none⟩,
  ⟨(some 7), .mov (.tmp 0), (some (6, false))⟩,
  ⟨(some 8), .bin .gtr (.prim .int) (.tmp 7) (.const (.int .i64 64)), (some (6, false))⟩,
  ⟨(some 9), .pick (.tmp 6) (.const (.bool true)) (.tmp 8), none⟩])
  (.cond (.tmp 9) (.seq (.ops [⟨(some 2), .mov (.const (.pointer none)), none⟩,
  ⟨(some 3), .mov (.const (.int .i64 2)), none⟩])
  .ret)
  .skip))
  (.seq (.ops [⟨(some 10), .mov (.tmp 0), none⟩,
  ⟨(some 11), .makeSlice 93 1 24 [(.slice none 0 0)] (.tmp 10) (.tmp 10), none⟩,
  ⟨(some 12), .build [(.slice none 0 0), (.int .i64 0), (.bool false)] [(0, 1, (.tmp 11)), (2, 1, (.const (.bool true)))], none⟩,
  ⟨(some 13), .box 175 (.tmp 12), none⟩,
  ⟨(some 2), .mov (.tmp 13), none⟩,
  ⟨(some 3), .mov (.const (.int .i64 0)), none⟩])
  .ret))) }
theorem c51 : compFunc Tryz.prog mts Tryz.f51 = some a51 := by kernel_rfl
def a52 : AFunc := { ntmps := 12, results := [.cellN 4 3, .tmp 5], body := (.seq (.ops [⟨(some 4), .alloc 75 [(.int .i64 0), (.int .i64 0), (.int .i64 0)], none⟩,
  ⟨(some 5), .mov (.const (.int .i64 0)), none⟩])
  (.seq (.seq (.ops [⟨(some 6), .mov (.tmp 1), none⟩,
  ⟨(some 7), .bin .lss (.prim .int) (.tmp 6) (.const (.int .i64 0)), none⟩])
  (.cond (.tmp 7) (.seq (.ops [⟨(some 8), .build [(.int .i64 0), (.int .i64 0), (.int .i64 0)] [], none⟩,
  ⟨none, .store 3 (.tmp 4) (.tmp 8), none⟩,
  ⟨(some 5), .mov (.const (.int .i64 2)), none⟩])
  .ret)
  .skip))
  (.seq (.ops [⟨(some 9), .mov (.tmp 0), none⟩,
  ⟨(some 10), .mov (.tmp 1), none⟩,
  ⟨(some 11), .build [(.int .i64 0), (.int .i64 0), (.int .i64 0)] [(0, 1, (.tmp 9)), (1, 1, (.tmp 10))], none⟩,
  ⟨none, .store 3 (.tmp 4) (.tmp 11), none⟩,
  ⟨(some 5), .mov (.const (.int .i64 0)), none⟩])
  .ret))) }
theorem c52 : compFunc Tryz.prog mts Tryz.f52 = some a52 := by kernel_rfl
def a53 : AFunc := { ntmps := 25, results := [.tmp 4], body := (.seq (.ops [⟨(some 4), .mov (.const (.int .i64 0)), none⟩])
  (.seq (.seq (.ops [⟨(some 9), .mov (.tmp 1), none⟩,
  ⟨(some 10), .bin .neq (.prim .int) (.tmp 9) (.const (.int .i64 3)), none⟩])
  (.cond (.tmp 10) (.seq (.ops [⟨(some 4), .mov (.const (.int .i64 0)), none⟩])
  .ret)
  .skip))
  (.seq (.ops [⟨(some 12), .mov (.tmp 0), none⟩,
  ⟨(some 13), .call (.func 98) [(.const (.int .u32 0)), (.const (.slice none 0 0)), (.const (.int .i64 0))], none⟩,
  ⟨(some 14), .call (.func 84) [(.tmp 12), (.tmp 13)], none⟩,
  ⟨(some 11), .mov (.tmp 14), none⟩,
  ⟨(some 15), .extract (.tmp 11) 0, none⟩,
  ⟨(some 16), .extract (.tmp 11) 1, none⟩,
  ⟨(some 5), .mov (.tmp 15), none⟩,
  ⟨(some 6), .mov (.tmp 16), none⟩])
  (.seq (.ops [⟨(some 18), .mov (.tmp 0), none⟩,
  ⟨(some 19), .mov (.tmp 5), none⟩,
  ⟨(some 20), .call (.func 99) [(.tmp 19)], none⟩,
  ⟨(some 21), .call (.func 84) [(.tmp 18), (.tmp 20)], none⟩,
  ⟨(some 17), .mov (.tmp 21), none⟩,
  ⟨(some 22), .extract (.tmp 17) 0, none⟩,
  ⟨(some 23), .extract (.tmp 17) 1, none⟩,
  ⟨(some 7), .mov (.tmp 22), none⟩,
  ⟨(some 8), .mov (.tmp 23), none⟩])
  (.seq (.ops [⟨(some 24), .mov (.tmp 7), none⟩,
  ⟨(some 4), .mov (.tmp 24), none⟩])
  .ret))))) }
theorem c53 : compFunc Tryz.prog mts Tryz.f53 = some a53 := by kernel_rfl
def a54 : AFunc := { ntmps := 25, results := [.cellN 4 3, .tmp 5], body := (.seq (.ops [⟨(some 4), .alloc 75 [(.int .i64 0), (.int .i64 0), (.int .i64 0)], none⟩,
  ⟨(some 5), .mov (.const (.int .i64 0)), none⟩])
  (.seq (.seq (.ops [⟨(some 6), .mov (.tmp 1), none⟩,
  ⟨(some 7), .call (.func 100) [(.tmp 6)], none⟩,
  ⟨(some 8), .un .not (.tmp 7), none⟩,
  ⟨(some 9), .mov (.tmp 8), none⟩,
  ⟨(some 10), .mov (.tmp 0), (some (9, false))⟩,
  ⟨(some 11), .bin .lss (.prim .int) (.tmp 10) (.const (.int .i64 0)), (some (9, false))⟩,
  ⟨(some 12), .pick (.tmp 9) (.const (.bool true)) (.tmp 11), none⟩,
  ⟨(some 13), .mov (.tmp 12), none⟩,
  ⟨(some 14), .mov (.tmp 0), (some (13, false))⟩,
  ⟨(some 15), .mov (.tmp 1), (some (13, false))⟩,
  ⟨(some 16), .bin .geq (.prim .int) (.tmp 14) (.tmp 15), (some (13, false))⟩,
  ⟨(some 17), .pick (.tmp 13) (.const (.bool true)) (.tmp 16), none⟩])
  (.cond (.tmp 17) (.seq (.ops [⟨(some 18), .build [(.int .i64 0), (.int .i64 0), (.int .i64 0)] [], none⟩,
  ⟨none, .store 3 (.tmp 4) (.tmp 18), none⟩,
  ⟨(some 5), .mov (.const (.int .i64 2)), none⟩])
  .ret)
  .skip))
  (.seq (.ops [⟨(some 19), .mov (.tmp 0), none⟩,
  ⟨(some 20), .mov (.tmp 1), none⟩,
  ⟨(some 21), .bin .sub (.prim .int) (.tmp 19) (.tmp 20), none⟩,
  ⟨(some 22), .call (.func 101) [(.const (.int .i64 1)), (.tmp 21), (.const (.int .i64 0)), (.const (.int .i64 0))], none⟩,
  ⟨(some 23), .extract (.tmp 22) 0, none⟩,
  ⟨(some 24), .extract (.tmp 22) 1, none⟩,
  ⟨none, .store 3 (.tmp 4) (.tmp 23), none⟩,
  ⟨(some 5), .mov (.tmp 24), none⟩])
  .ret))) }
theorem c54 : compFunc Tryz.prog mts Tryz.f54 = some a54 := by kernel_rfl
def a55 : AFunc := { ntmps := 16, results := [.tmp 4], body := (.seq (.ops [⟨(some 2), .box 34 (.tmp 0), none⟩,
  ⟨(some 4), .mov (.const (.int .i64 0)), none⟩])
  (.seq (.ops [⟨(some 5), .mov (.const (.int .i64 0)), none⟩])
  (.seq (.seq (.ops [⟨(some 6), .fieldAddr 2 (.tmp 2), none⟩,
  ⟨(some 7), .load1 (.tmp 6), none⟩,
  ⟨(some 8), .call (.func 92) [(.tmp 7), (.const (.int .i64 1)), (.const (.int .i64 64))], none⟩])
  (.cond (.tmp 8) (.ops [⟨(some 9), .fieldAddr 2 (.tmp 2), none⟩,
  ⟨(some 10), .load1 (.tmp 9), none⟩,
  ⟨(some 5), .mov (.tmp 10), none⟩])
  .skip))
  (.seq (.ops [⟨(some 11), .mov (.tmp 5), none⟩,
  ⟨(some 12), .bin .add (.prim .int) (.const (.int .i64 2)) (.tmp 11), none⟩,
  ⟨(some 13), .mov (.tmp 1), none⟩,
  ⟨(some 14), .call (.func 71) [(.tmp 13)], none⟩,
  ⟨(some 15), .bin .add (.prim .int) (.tmp 12) (.tmp 14), none⟩,
  ⟨(some 4), .mov (.tmp 15), none⟩])
  .ret)))) }
theorem c55 : compFunc Tryz.prog mts Tryz.f55 = some a55 := by kernel_rfl
def a56 : AFunc := { ntmps := 10, results := [.tmp 2], body := (.seq (.ops [⟨(some 2), .mov (.const (.int .i64 0)), none⟩])
  (.seq (.seq (.ops [⟨(some 3), .mov (.tmp 0), none⟩,
  ⟨(some 4), .call (.func 94) [(.tmp 3)], none⟩,
  ⟨(some 5), .un .not (.tmp 4), none⟩])
  (.cond (.tmp 5) (.seq (.ops [⟨(some 2), .mov (.const (.int .i64 0)), none⟩])
  .ret)
  .skip))
  (.seq (.ops [⟨(some 6), .mov (.tmp 0), none⟩,
  ⟨(some 7), .nilCheck (.tmp 6), none⟩,
  ⟨(some 8), .fieldAddr 2 (.tmp 7), none⟩,
  ⟨(some 9), .load1 (.tmp 8), none⟩,
  ⟨(some 2), .mov (.tmp 9), none⟩])
  .ret))) }
theorem c56 : compFunc Tryz.prog mts Tryz.f56 = some a56 := by kernel_rfl
def a57 : AFunc := { ntmps := 9, results := [.tmp 2], body := (.seq (.ops [⟨(some 2), .mov (.const (.int .i64 0)), none⟩])
  (.seq (.seq (.ops [⟨(some 3), .mov (.tmp 0), none⟩,
  ⟨(some 4), .bin .eql .ptr (.tmp 3) (.const (.pointer none)), none⟩])
  (.cond (.tmp 4) (.seq (.ops [⟨(some 2), .mov (.const (.int .i64 0)), none⟩])
  .ret)
  .skip))
  (.seq (.ops [⟨(some 5), .mov (.tmp 0), none⟩,
  ⟨(some 6), .nilCheck (.tmp 5), none⟩,
  ⟨(some 7), .fieldAddr 1 (.tmp 6), none⟩,
  ⟨(some 8), .load1 (.tmp 7), none⟩,
  ⟨(some 2), .mov (.tmp 8), none⟩])
  .ret))) }
theorem c57 : compFunc Tryz.prog mts Tryz.f57 = some a57 := by kernel_rfl
def a58 : AFunc := { ntmps := 12, results := [.tmp 2], body := (.seq (.ops [⟨(some 2), .mov (.const (.bool false)), none⟩])
  (.seq (.ops [⟨(some 3), .mov (.tmp 0), none⟩,
  ⟨(some 4), .bin .neq .ptr (.tmp 3) (.const (.pointer none)), none⟩,
  ⟨(some 5), .mov (.tmp 4), none⟩,
  ⟨(some 6), .mov (.tmp 0), (some (5, true))⟩,
  ⟨(some 7), .nilCheck (.tmp 6), (some (5, true))⟩,
  ⟨(some 8), .fieldAddr 0 (.tmp 7), (some (5, true))⟩,
  ⟨(some 9), .load1 (.tmp 8), (some (5, true))⟩,
  ⟨(some 10), .bin .neq .ptr (.tmp 9) (.const (.pointer none)), (some (5, true))⟩,
  ⟨(some 11), .pick (.tmp 5) (.tmp 10) (.const (.bool false)), none⟩,
  ⟨(some 2), .mov (.tmp 11), none⟩])
  .ret)) }
theorem c58 : compFunc Tryz.prog mts Tryz.f58 = some a58 := by kernel_rfl
def a59 : AFunc := { ntmps := 54, results := [.tmp 6], body := (.seq (.ops [⟨(some 5), .box 23 (.tmp 2), none⟩,
  ⟨(some 6), .mov (.const (.int .i64 0)), none⟩])
  (.seq (.seq (.ops [⟨(some 10), .mov (.tmp 0), none⟩,
  ⟨(some 11), .loadN 5 (.tmp 5), none⟩,
  ⟨(some 12), .call (.func 102) [(.tmp 10), (.tmp 11)], none⟩,
  ⟨(some 13), .un .not (.tmp 12), none⟩])
  (.cond (.tmp 13) (.seq (.ops [⟨(some 6), .mov (.const (.int .i64 0)), none⟩])
  .ret)
  .skip))
  (.seq (.draw [⟨0, ⟨(some 15), .mov (.tmp 0), none⟩, []⟩,
  ⟨1, ⟨(some 16), .nilCheck (.tmp 15), none⟩, []⟩,
  ⟨2, ⟨(some 17), .fieldAddr 3 (.tmp 16), none⟩, []⟩,
  ⟨3, ⟨(some 18), .load1 (.tmp 17), none⟩, []⟩,
  ⟨4, ⟨(some 19), .mov (.tmp 1), none⟩, []⟩,
  ⟨5, ⟨(some 20), .loadN 5 (.tmp 5), none⟩, []⟩,
  ⟨6, ⟨(some 21), .call (.func 103) [(.tmp 18), (.tmp 19), (.tmp 20)], none⟩, []⟩,
  ⟨7, ⟨(some 14), .mov (.tmp 21), none⟩, []⟩,
  ⟨8, ⟨(some 22), .extract (.tmp 14) 0, none⟩, []⟩,
  ⟨9, ⟨(some 23), .extract (.tmp 14) 1, none⟩, []⟩,
  ⟨10, ⟨(some 7), .mov (.tmp 22), none⟩, []⟩,
  ⟨11, ⟨(some 8), .mov (.tmp 23), none⟩, []⟩])
  (.seq (.seq (.ops [⟨(some 24), .mov (.tmp 8), none⟩,
  ⟨(some 25), .bin .neq (.prim .int) (.tmp 24) (.const (.int .i64 0)), none⟩])
  (.cond (.tmp 25) (.seq (.ops [⟨(some 6), .mov (.const (.int .i64 0)), none⟩])
  .ret)
  .skip))
  (.seq (.ops [⟨(some 27), .mov (.tmp 0), none⟩,
  ⟨(some 28), .mov (.tmp 1), none⟩,
  ⟨(some 29), .loadN 5 (.tmp 5), none⟩,
  ⟨(some 30), .call (.func 104) [(.tmp 27), (.tmp 28), (.tmp 29)], none⟩,
  ⟨(some 26), .mov (.tmp 30), none⟩,
  ⟨(some 31), .extract (.tmp 26) 0, none⟩,
  ⟨(some 32), .extract (.tmp 26) 1, none⟩,
  ⟨(some 9), .mov (.tmp 31), none⟩,
  ⟨(some 8), .mov (.tmp 32), none⟩])
  (.seq (.seq (.ops [⟨(some 33), .mov (.tmp 8), none⟩,
  ⟨(some 34), .bin .neq (.prim .int) (.tmp 33) (.const (.int .i64 0)), none⟩])
  (.cond (.tmp 34) (.seq (.ops [⟨(some 6), .mov (.const (.int .i64 0)), none⟩])
  .ret)
  .skip))
  (.seq (.draw [⟨0, ⟨(some 35), .mov (.tmp 0), none⟩, []⟩,
  ⟨1, ⟨(some 36), .mov (.tmp 0), none⟩, []⟩,
  ⟨2, ⟨(some 37), .nilCheck (.tmp 36), none⟩, []⟩,
  ⟨3, ⟨(some 38), .fieldAddr 1 (.tmp 37), none⟩, []⟩,
  ⟨4, ⟨(some 39), .load1 (.tmp 38), none⟩, []⟩,
  ⟨5, ⟨(some 40), .mov (.tmp 1), none⟩, []⟩,
  ⟨6, ⟨(some 41), .mov (.tmp 0), none⟩, []⟩,
  ⟨7, ⟨(some 42), .nilCheck (.tmp 41), none⟩, []⟩,
  ⟨8, ⟨(some 43), .fieldAddr 2 (.tmp 42), none⟩, []⟩,
  ⟨9, ⟨(some 44), .load1 (.tmp 43), none⟩, []⟩,
  ⟨10, ⟨(some 45), .mov (.tmp 1), none⟩, []⟩,
  ⟨11, ⟨(some 46), .mov (.tmp 7), none⟩, []⟩,
  ⟨12, ⟨(some 47), .mov (.tmp 9), none⟩, []⟩,
  ⟨13, ⟨(some 48), .fieldAddr 0 (.tmp 5), none⟩, []⟩,
  ⟨14, ⟨(some 49), .load1 (.tmp 48), none⟩, []⟩,
  ⟨15, ⟨(some 50), .nilCheck (.tmp 35), none⟩, []⟩,
  ⟨16, ⟨(some 51), .fieldAddr 3 (.tmp 50), none⟩, []⟩,
  ⟨17, ⟨none, .store 1 (.tmp 51) (.tmp 46), none⟩, [⟨(some 49), .load1 (.tmp 48), none⟩]⟩,
  ⟨18, ⟨(some 52), .indexAddrSl 1 (.tmp 39) (.tmp 40), none⟩, []⟩,
  ⟨19, ⟨none, .store 1 (.tmp 52) (.tmp 47), none⟩, [⟨(some 49), .load1 (.tmp 48), none⟩]⟩,
  ⟨20, ⟨(some 53), .indexAddrSl 1 (.tmp 44) (.tmp 45), none⟩, []⟩,
  ⟨21, ⟨none, .store 1 (.tmp 53) (.tmp 49), none⟩, []⟩])
  (.seq (.ops [⟨(some 6), .mov (.const (.int .i64 1)), none⟩])
  .ret)))))))) }
theorem c59 : compFunc Tryz.prog mts Tryz.f59 = some a59 := by kernel_rfl
def a60 : AFunc := { ntmps := 84, results := [.tmp 4], body := (.seq (.ops [⟨(some 4), .mov (.const (.int .i64 0)), none⟩])
  (.seq (.ops [⟨(some 8), .mov (.tmp 0), none⟩,
  ⟨(some 9), .nilCheck (.tmp 8), none⟩,
  ⟨(some 10), .fieldAddr 0 (.tmp 9), none⟩,
  ⟨(some 11), .load1 (.tmp 10), none⟩,
  ⟨(some 12), .call (.func 105) [(.tmp 11)], none⟩,
  ⟨(some 5), .mov (.tmp 12), none⟩])
  (.seq (.ops [⟨(some 14), .mov (.tmp 0), none⟩,
  ⟨(some 15), .nilCheck (.tmp 14), none⟩,
  ⟨(some 16), .fieldAddr 1 (.tmp 15), none⟩,
  ⟨(some 17), .load1 (.tmp 16), none⟩,
  ⟨(some 18), .mov (.tmp 1), none⟩,
  ⟨(some 19), .indexAddrSl 1 (.tmp 17) (.tmp 18), none⟩,
  ⟨(some 20), .load1 (.tmp 19), none⟩,
  ⟨(some 21), .invoke (.tmp 20) [(24, 7), (44, 12), (244, 419), (248, 420)] [], none⟩,
  ⟨(some 13), .mov (.tmp 21), none⟩,
  ⟨(some 22), .extract (.tmp 13) 0, none⟩,
  ⟨(some 23), .extract (.tmp 13) 1, none⟩,
  ⟨(some 6), .alloc 27 [(.int .i64 0), (.bool false), (.string ⟨#[]⟩), (.string ⟨#[]⟩), (.int .i64 0)], none⟩,
  ⟨none, .store 5 (.tmp 6) (.tmp 22), none⟩,
  ⟨(some 7), .mov (.tmp 23), none⟩])
  (.seq (.draw [⟨0, ⟨(some 24), .mov (.tmp 0), none⟩, []⟩,
  ⟨1, ⟨(some 25), .mov (.tmp 0), none⟩, []⟩,
  ⟨2, ⟨(some 26), .nilCheck (.tmp 25), none⟩, []⟩,
  ⟨3, ⟨(some 27), .fieldAddr 5 (.tmp 26), none⟩, []⟩,
  ⟨4, ⟨(some 28), .load1 (.tmp 27), none⟩, []⟩,
  ⟨5, ⟨(some 29), .mov (.tmp 0), none⟩, []⟩,
  ⟨6, ⟨(some 30), .nilCheck (.tmp 29), none⟩, []⟩,
  ⟨7, ⟨(some 31), .fieldAddr 0 (.tmp 30), none⟩, []⟩,
  ⟨8, ⟨(some 32), .load1 (.tmp 31), none⟩, []⟩,
  ⟨10, ⟨(some 34), .mov (.tmp 5), none⟩, []⟩,
  ⟨9, ⟨(some 33), .call (.func 105) [(.tmp 32)], none⟩, [⟨(some 28), .load1 (.tmp 27), none⟩]⟩,
  ⟨11, ⟨(some 35), .bin .sub (.prim .int) (.tmp 33) (.tmp 34), none⟩, []⟩,
  ⟨12, ⟨(some 36), .minmax true (.tmp 28) [(.tmp 35)], none⟩, []⟩,
  ⟨13, ⟨(some 37), .nilCheck (.tmp 24), none⟩, []⟩,
  ⟨14, ⟨(some 38), .fieldAddr 5 (.tmp 37), none⟩, []⟩,
  ⟨15, ⟨none, .store 1 (.tmp 38) (.tmp 36), none⟩, []⟩])
  (.seq (.seq (.ops [⟨(some 39), .mov (.tmp 7), none⟩,
  ⟨(some 40), .un .not (.tmp 39), none⟩])
  (.cond (.tmp 40) (.seq (.ops [⟨(some 4), .mov (.const (.int .i64 2)), none⟩])
  .ret)
  .skip))
  (.seq (.draw [⟨0, ⟨(some 42), .mov (.tmp 0), none⟩, []⟩,
  ⟨1, ⟨(some 43), .mov (.tmp 0), none⟩, []⟩,
  ⟨2, ⟨(some 44), .nilCheck (.tmp 43), none⟩, []⟩,
  ⟨3, ⟨(some 45), .fieldAddr 3 (.tmp 44), none⟩, []⟩,
  ⟨4, ⟨(some 46), .load1 (.tmp 45), none⟩, []⟩,
  ⟨5, ⟨(some 47), .mov (.tmp 1), none⟩, []⟩,
  ⟨6, ⟨(some 48), .loadN 5 (.tmp 6), none⟩, []⟩,
  ⟨7, ⟨(some 49), .call (.func 106) [(.tmp 46), (.tmp 47), (.tmp 48)], none⟩, []⟩,
  ⟨8, ⟨(some 41), .mov (.tmp 49), none⟩, []⟩,
  ⟨9, ⟨(some 50), .extract (.tmp 41) 0, none⟩, []⟩,
  ⟨10, ⟨(some 51), .extract (.tmp 41) 1, none⟩, []⟩,
  ⟨11, ⟨(some 52), .nilCheck (.tmp 42), none⟩, []⟩,
  ⟨12, ⟨(some 53), .fieldAddr 3 (.tmp 52), none⟩, []⟩,
  ⟨13, ⟨none, .store 1 (.tmp 53) (.tmp 50), none⟩, []⟩])
  (.seq (.seq (.ops [⟨(some 54), .mov (.tmp 0), none⟩,
  ⟨(some 55), .nilCheck (.tmp 54), none⟩,
  ⟨(some 56), .fieldAddr 2 (.tmp 55), none⟩,
  ⟨(some 57), .load1 (.tmp 56), none⟩,
  ⟨(some 58), .mov (.tmp 1), none⟩,
  ⟨(some 59), .indexAddrSl 1 (.tmp 57) (.tmp 58), none⟩,
  ⟨(some 60), .load1 (.tmp 59), none⟩,
  ⟨(some 61), .bin .eql (.prim .int) (.tmp 60) (.const (.int .i64 7)), none⟩,
  ⟨(some 62), .mov (.tmp 61), none⟩,
  ⟨(some 63), .fieldAddr 0 (.tmp 6), (some (62, true))⟩,
  ⟨(some 64), .load1 (.tmp 63), (some (62, true))⟩,
  ⟨(some 65), .bin .eql (.prim .int) (.tmp 64) (.const (.int .i64 0)), (some (62, true))⟩,
  ⟨(some 66), .pick (.tmp 62) (.tmp 65) (.const (.bool false)), none⟩])
  (.cond (.tmp 66) (.draw [⟨0, ⟨(some 67), .mov (.tmp 0), none⟩, []⟩,
  ⟨1, ⟨(some 68), .mov (.tmp 0), none⟩, []⟩,
  ⟨2, ⟨(some 69), .nilCheck (.tmp 68), none⟩, []⟩,
  ⟨3, ⟨(some 70), .fieldAddr 4 (.tmp 69), none⟩, []⟩,
  ⟨4, ⟨(some 71), .load1 (.tmp 70), none⟩, []⟩,
  ⟨5, ⟨(some 72), .fieldAddr 4 (.tmp 6), none⟩, []⟩,
  ⟨6, ⟨(some 73), .load1 (.tmp 72), none⟩, []⟩,
  ⟨7, ⟨(some 74), .buildSlice 3 1 [(.int .i64 0)] [(0, 1, (.tmp 73))], none⟩, []⟩,
  ⟨8, ⟨(some 75), .append 3 1 8 (.tmp 71) (.tmp 74), none⟩, []⟩,
  ⟨9, ⟨(some 76), .nilCheck (.tmp 67), none⟩, []⟩,
  ⟨10, ⟨(some 77), .fieldAddr 4 (.tmp 76), none⟩, []⟩,
  ⟨11, ⟨none, .store 1 (.tmp 77) (.tmp 75), none⟩, []⟩])
  .skip))
  (.seq (.ops [⟨(some 78), .mov (.tmp 0), none⟩,
  ⟨(some 79), .nilCheck (.tmp 78), none⟩,
  ⟨(some 80), .fieldAddr 1 (.tmp 79), none⟩,
  ⟨(some 81), .load1 (.tmp 80), none⟩,
  ⟨(some 82), .mov (.tmp 1), none⟩,
  ⟨(some 83), .indexAddrSl 1 (.tmp 81) (.tmp 82), none⟩,
  ⟨none, .store 1 (.tmp 83) (.const .nilIface), none⟩])
  (.seq (.ops [⟨(some 4), .mov (.const (.int .i64 3)), none⟩])
  .ret))))))))) }
theorem c60 : compFunc Tryz.prog mts Tryz.f60 = some a60 := by kernel_rfl
def a61 : AFunc := { ntmps := 8, results := [.tmp 2], body := (.seq (.ops [⟨(some 2), .mov (.const (.slice none 0 0)), none⟩])
  (.seq (.seq (.ops [⟨(some 3), .mov (.tmp 0), none⟩,
  ⟨(some 4), .bin .eql .slice (.tmp 3) (.const (.slice none 0 0)), none⟩])
  (.cond (.tmp 4) (.seq (.ops [⟨(some 2), .mov (.const (.slice none 0 0)), none⟩])
  .ret)
  .skip))
  (.seq (.ops [⟨(some 5), .buildSlice 110 0 [] [], none⟩,
  ⟨(some 6), .mov (.tmp 0), none⟩,
  ⟨(some 7), .append 110 12 136 (.tmp 5) (.tmp 6), none⟩,
  ⟨(some 2), .mov (.tmp 7), none⟩])
  .ret))) }
theorem c61 : compFunc Tryz.prog mts Tryz.f61 = some a61 := by kernel_rfl
def a62 : AFunc := { ntmps := 8, results := [.tmp 2], body := (.seq (.ops [⟨(some 2), .mov (.const (.slice none 0 0)), none⟩])
  (.seq (.seq (.ops [⟨(some 3), .mov (.tmp 0), none⟩,
  ⟨(some 4), .bin .eql .slice (.tmp 3) (.const (.slice none 0 0)), none⟩])
  (.cond (.tmp 4) (.seq (.ops [⟨(some 2), .mov (.const (.slice none 0 0)), none⟩])
  .ret)
  .skip))
  (.seq (.ops [⟨(some 5), .buildSlice 3 0 [] [], none⟩,
  ⟨(some 6), .mov (.tmp 0), none⟩,
  ⟨(some 7), .append 3 1 8 (.tmp 5) (.tmp 6), none⟩,
  ⟨(some 2), .mov (.tmp 7), none⟩])
  .ret))) }
theorem c62 : compFunc Tryz.prog mts Tryz.f62 = some a62 := by kernel_rfl
def a63 : AFunc := { ntmps := 24, results := [.tmp 2, .tmp 3], body := (.seq (.ops [⟨(some 1), .box 34 (.tmp 0), none⟩,
  ⟨(some 2), .mov (.const (.pointer none)), none⟩,
  ⟨(some 3), .mov (.const (.int .i64 0)), none⟩])
  (.seq (.ops [⟨(some 7), .loadN 5 (.tmp 1), none⟩,
  ⟨(some 8), .call (.func 16) [(.tmp 7)], none⟩,
  ⟨(some 6), .mov (.tmp 8), none⟩,
  ⟨(some 9), .extract (.tmp 6) 0, none⟩,
  ⟨(some 10), .extract (.tmp 6) 1, none⟩,
  ⟨(some 4), .mov (.tmp 9), none⟩,
  ⟨(some 5), .mov (.tmp 10), none⟩])
  (.seq (.seq (.ops [⟨(some 11), .mov (.tmp 5), none⟩,
  ⟨(some 12), .bin .neq (.prim .int) (.tmp 11) (.const (.int .i64 0)), none⟩])
  (.cond (.tmp 12) (.seq (.ops [⟨(some 13), .mov (.tmp 5), none⟩,
  ⟨(some 2), .mov (.const (.pointer none)), none⟩,
  ⟨(some 3), .mov (.tmp 13), none⟩])
  .ret)
  .skip))
  (.seq (.draw [⟨0, ⟨(some 14), .mov (.tmp 4), none⟩, []⟩,
  ⟨1, ⟨(some 15), .fieldAddr 2 (.tmp 1), none⟩, []⟩,
  ⟨2, ⟨(some 16), .load1 (.tmp 15), none⟩, []⟩,
  ⟨3, ⟨(some 17), .makeSlice 106 1 16 [.nilIface] (.tmp 16) (.tmp 16), none⟩, []⟩,
  ⟨4, ⟨(some 18), .fieldAddr 2 (.tmp 1), none⟩, []⟩,
  ⟨5, ⟨(some 19), .load1 (.tmp 18), none⟩, []⟩,
  ⟨6, ⟨(some 20), .makeSlice 3 1 8 [(.int .i64 0)] (.tmp 19) (.tmp 19), none⟩, []⟩,
  ⟨7, ⟨(some 21), .build [(.pointer none), (.slice none 0 0), (.slice none 0 0), (.slice none 0 0), (.slice none 0 0), (.int .i64 0)] [(0, 1, (.tmp 14)), (1, 1, (.tmp 17)), (2, 1, (.tmp 20))], none⟩, []⟩,
  ⟨8, ⟨(some 22), .box 59 (.tmp 21), none⟩, []⟩,
  ⟨9, ⟨(some 23), .mov (.tmp 5), none⟩, []⟩,
  ⟨10, ⟨(some 2), .mov (.tmp 22), none⟩, []⟩,
  ⟨11, ⟨(some 3), .mov (.tmp 23), none⟩, []⟩])
  .ret)))) }
theorem c63 : compFunc Tryz.prog mts Tryz.f63 = some a63 := by kernel_rfl
def a64 : AFunc := { ntmps := 26, results := [.tmp 4], body := (.seq (.ops [⟨(some 4), .mov (.const (.bool false)), none⟩])
  (.seq (.seq (.ops [⟨(some 6), .mov (.tmp 0), none⟩,
  ⟨(some 7), .lenSl (.tmp 6), none⟩,
  ⟨(some 8), .mov (.tmp 1), none⟩,
  ⟨(some 9), .lenSl (.tmp 8), none⟩,
  ⟨(some 10), .bin .neq (.prim .int) (.tmp 7) (.tmp 9), none⟩])
  (.cond (.tmp 10) (.seq (.ops [⟨(some 4), .mov (.const (.bool false)), none⟩])
  .ret)
  .skip))
  (.seq (.seq (.ops [⟨(some 5), .mov (.const (.int .i64 0)), none⟩])
  (.block 0 (.loop (.seq (.seq (.ops [⟨(some 11), .mov (.tmp 5), none⟩,
  ⟨(some 12), .mov (.tmp 0), none⟩,
  ⟨(some 13), .lenSl (.tmp 12), none⟩,
  ⟨(some 14), .bin .lss (.prim .int) (.tmp 11) (.tmp 13), none⟩])
  (.cond (.tmp 14) .skip
  (.exit 0)))
  (.seq (.block 1 (.seq (.draw [⟨0, ⟨(some 17), .mov (.tmp 0), none⟩, []⟩,
  ⟨1, ⟨(some 18), .mov (.tmp 5), none⟩, []⟩,
  ⟨2, ⟨(some 19), .indexAddrSl 1 (.tmp 17) (.tmp 18), none⟩, []⟩,
  ⟨3, ⟨(some 20), .load1 (.tmp 19), none⟩, []⟩,
  ⟨4, ⟨(some 21), .mov (.tmp 1), none⟩, []⟩,
  ⟨5, ⟨(some 22), .mov (.tmp 5), none⟩, []⟩,
  ⟨6, ⟨(some 23), .indexAddrSl 1 (.tmp 21) (.tmp 22), none⟩, []⟩,
  ⟨7, ⟨(some 24), .load1 (.tmp 23), none⟩, []⟩,
  ⟨8, ⟨(some 25), .bin .neq (.prim .int) (.tmp 20) (.tmp 24), none⟩, []⟩])
  (.cond (.tmp 25) (.seq (.ops [⟨(some 4), .mov (.const (.bool false)), none⟩])
  .ret)
  .skip)))
  (.ops [⟨(some 15), .mov (.tmp 5), none⟩,
  ⟨(some 16), .bin .add (.prim .int) (.tmp 15) (.const (.int .i64 1)), none⟩,
  ⟨(some 5), .mov (.tmp 16), none⟩]))))))
  (.seq (.ops [⟨(some 4), .mov (.const (.bool true)), none⟩])
  .ret)))) }
theorem c64 : compFunc Tryz.prog mts Tryz.f64 = some a64 := by kernel_rfl
def a68 : AFunc := { ntmps := 13, results := [.tmp 2], body := (.seq (.ops [⟨(some 2), .mov (.const (.int .i64 0)), none⟩])
  (.seq (.seq (.ops [⟨(some 3), .mov (.tmp 0), none⟩,
  ⟨(some 4), .call (.func 94) [(.tmp 3)], none⟩,
  ⟨(some 5), .un .not (.tmp 4), none⟩])
  (.cond (.tmp 5) (.seq (.ops [⟨(some 2), .mov (.const (.int .i64 4)), none⟩])
  .ret)
  .skip))
  (.seq (.ops [⟨(some 6), .mov (.tmp 0), none⟩,
  ⟨(some 7), .nilCheck (.tmp 6), none⟩,
  ⟨(some 8), .fieldAddr 2 (.tmp 7), none⟩,
  ⟨(some 9), .load1 (.tmp 8), none⟩,
  ⟨(some 10), .bin .add (.prim .int) (.tmp 9) (.const (.int .i64 1)), none⟩,
  ⟨(some 11), .nilCheck (.tmp 6), none⟩,
  ⟨(some 12), .fieldAddr 2 (.tmp 11), none⟩,
  ⟨none, .store 1 (.tmp 12) (.tmp 10), none⟩])
  (.seq (.ops [⟨(some 2), .mov (.const (.int .i64 0)), none⟩])
  .ret)))) }
theorem c68 : compFunc Tryz.prog mts Tryz.f68 = some a68 := by kernel_rfl
def a69 : AFunc := { ntmps := 14, results := [.cellN 4 3, .tmp 5], body := (.seq (.ops [⟨(some 4), .alloc 75 [(.int .i64 0), (.int .i64 0), (.int .i64 0)], none⟩,
  ⟨(some 5), .mov (.const (.int .i64 0)), none⟩])
  (.seq (.ops [⟨(some 7), .mov (.tmp 0), none⟩,
  ⟨(some 8), .mov (.tmp 1), none⟩,
  ⟨(some 9), .call (.func 112) [(.tmp 7), (.tmp 8)], none⟩,
  ⟨(some 6), .mov (.tmp 9), none⟩])
  (.seq (.ops [⟨(some 10), .mov (.tmp 0), none⟩,
  ⟨(some 11), .mov (.tmp 1), none⟩,
  ⟨(some 12), .call (.func 113) [(.tmp 10), (.tmp 11)], none⟩,
  ⟨(some 13), .mov (.tmp 6), none⟩,
  ⟨none, .store 3 (.tmp 4) (.tmp 12), none⟩,
  ⟨(some 5), .mov (.tmp 13), none⟩])
  .ret))) }
theorem c69 : compFunc Tryz.prog mts Tryz.f69 = some a69 := by kernel_rfl
def a70 : AFunc := { ntmps := 17, results := [.tmp 6], body := (.seq (.ops [⟨(some 5), .box 75 (.tmp 2), none⟩,
  ⟨(some 6), .mov (.const (.int .i64 0)), none⟩])
  (.seq (.ops [⟨(some 10), .mov (.tmp 0), none⟩,
  ⟨(some 11), .mov (.tmp 1), none⟩,
  ⟨(some 12), .loadN 3 (.tmp 5), none⟩,
  ⟨(some 13), .call (.func 114) [(.tmp 10), (.tmp 11), (.tmp 12)], none⟩,
  ⟨(some 9), .mov (.tmp 13), none⟩,
  ⟨(some 14), .extract (.tmp 9) 0, none⟩,
  ⟨(some 15), .extract (.tmp 9) 1, none⟩,
  ⟨(some 7), .alloc 75 [(.int .i64 0), (.int .i64 0), (.int .i64 0)], none⟩,
  ⟨none, .store 3 (.tmp 7) (.tmp 14), none⟩,
  ⟨(some 8), .mov (.tmp 15), none⟩])
  (.seq (.ops [⟨(some 16), .mov (.tmp 8), none⟩,
  ⟨(some 6), .mov (.tmp 16), none⟩])
  .ret))) }
theorem c70 : compFunc Tryz.prog mts Tryz.f70 = some a70 := by kernel_rfl
def a71 : AFunc := { ntmps := 7, results := [.tmp 2], body := (.seq (.ops [⟨(some 2), .mov (.const (.int .i64 0)), none⟩])
  (.seq (.seq (.ops [⟨(some 3), .mov (.tmp 0), none⟩,
  ⟨(some 4), .call (.func 92) [(.tmp 3), (.const (.int .i64 0)), (.const (.int .i64 63))], none⟩,
  ⟨(some 5), .un .not (.tmp 4), none⟩])
  (.cond (.tmp 5) (.seq (.ops [⟨(some 2), .mov (.const (.int .i64 0)), none⟩])
  .ret)
  .skip))
  (.seq (.ops [⟨(some 6), .mov (.tmp 0), none⟩,
  ⟨(some 2), .mov (.tmp 6), none⟩])
  .ret))) }
theorem c71 : compFunc Tryz.prog mts Tryz.f71 = some a71 := by kernel_rfl
def a87 : AFunc := { ntmps := 26, results := [.tmp 8, .tmp 9], body := (.seq (.ops [⟨(some 6), .box 75 (.tmp 2), none⟩,
  ⟨(some 7), .box 75 (.tmp 3), none⟩,
  ⟨(some 8), .mov (.const (.bool false)), none⟩,
  ⟨(some 9), .mov (.const (.int .i64 0)), none⟩])
  (.seq (.seq (.ops [⟨(some 11), .mov (.tmp 0), none⟩,
  ⟨(some 12), .call (.func 68) [(.tmp 11)], none⟩,
  ⟨(some 10), .mov (.tmp 12), none⟩])
  (.seq (.ops [⟨(some 13), .mov (.tmp 10), none⟩,
  ⟨(some 14), .bin .neq (.prim .int) (.tmp 13) (.const (.int .i64 0)), none⟩])
  (.cond (.tmp 14) (.seq (.ops [⟨(some 15), .mov (.tmp 10), none⟩,
  ⟨(some 8), .mov (.const (.bool false)), none⟩,
  ⟨(some 9), .mov (.tmp 15), none⟩])
  .ret)
  .skip)))
  (.seq (.draw [⟨0, ⟨(some 16), .mov (.tmp 0), none⟩, []⟩,
  ⟨1, ⟨(some 17), .nilCheck (.tmp 16), none⟩, []⟩,
  ⟨2, ⟨(some 18), .fieldAddr 0 (.tmp 17), none⟩, []⟩,
  ⟨3, ⟨(some 19), .load1 (.tmp 18), none⟩, []⟩,
  ⟨4, ⟨(some 20), .mov (.tmp 1), none⟩, []⟩,
  ⟨5, ⟨(some 21), .loadN 3 (.tmp 6), none⟩, []⟩,
  ⟨6, ⟨(some 22), .loadN 3 (.tmp 7), none⟩, []⟩,
  ⟨7, ⟨(some 23), .call (.func 127) [(.tmp 19), (.tmp 20), (.tmp 21), (.tmp 22)], none⟩, []⟩,
  ⟨8, ⟨(some 24), .extract (.tmp 23) 0, none⟩, []⟩,
  ⟨9, ⟨(some 25), .extract (.tmp 23) 1, none⟩, []⟩,
  ⟨10, ⟨(some 8), .mov (.tmp 24), none⟩, []⟩,
  ⟨11, ⟨(some 9), .mov (.tmp 25), none⟩, []⟩])
  .ret))) }
theorem c87 : compFunc Tryz.prog mts Tryz.f87 = some a87 := by kernel_rfl
def a90 : AFunc := { ntmps := 43, results := [.tmp 4], body := (.seq (.ops [⟨(some 2), .box 34 (.tmp 0), none⟩,
  ⟨(some 3), .box 23 (.tmp 1), none⟩,
  ⟨(some 4), .mov (.const (.int .i64 0)), none⟩])
  (.seq (.ops [⟨(some 6), .loadN 5 (.tmp 3), none⟩,
  ⟨(some 7), .call (.func 42) [(.tmp 6)], none⟩,
  ⟨(some 5), .alloc 23 [(.int .i64 0), (.string ⟨#[]⟩), (.string ⟨#[]⟩), (.string ⟨#[]⟩), (.int .i64 0)], none⟩,
  ⟨none, .store 5 (.tmp 5) (.tmp 7), none⟩])
  (.seq (.block 0 (.seq (.ops [⟨(some 9), .fieldAddr 0 (.tmp 3), none⟩,
  ⟨(some 10), .load1 (.tmp 9), none⟩,
  ⟨(some 11), .call (.func 91) [(.tmp 10)], none⟩,
  ⟨(some 12), .un .not (.tmp 11), none⟩,
  ⟨(some 8), .mov (.tmp 12), none⟩])
  (.cond (.tmp 8) (.seq (.ops [⟨(some 4), .mov (.const (.int .i64 11)), none⟩])
  .ret)
  (.seq (.ops [⟨(some 14), .fieldAddr 0 (.tmp 3), none⟩,
  ⟨(some 15), .load1 (.tmp 14), none⟩,
  ⟨(some 16), .bin .eql (.prim .int) (.tmp 15) (.const (.int .i64 6)), none⟩,
  ⟨(some 17), .mov (.tmp 16), none⟩,
  ⟨(some 18), .fieldAddr 0 (.tmp 2), (some (17, true))⟩,
  ⟨(some 19), .load1 (.tmp 18), (some (17, true))⟩,
  ⟨(some 20), .bin .neq (.prim .int) (.tmp 19) (.const (.int .i64 2)), (some (17, true))⟩,
  ⟨(some 21), .pick (.tmp 17) (.tmp 20) (.const (.bool false)), none⟩,
  ⟨(some 13), .mov (.tmp 21), none⟩])
  (.cond (.tmp 13) (.seq (.ops [⟨(some 4), .mov (.const (.int .i64 2)), none⟩])
  .ret)
  (.seq (.ops [⟨(some 23), .fieldAddr 1 (.tmp 5), none⟩,
  ⟨(some 24), .load1 (.tmp 23), none⟩,
  ⟨(some 25), .lenStr (.tmp 24), none⟩,
  ⟨(some 26), .bin .gtr (.prim .int) (.tmp 25) (.const (.int .i64 16)), none⟩,
  ⟨(some 27), .mov (.tmp 26), none⟩,
  ⟨(some 28), .fieldAddr 2 (.tmp 5), (some (27, false))⟩,
  ⟨(some 29), .load1 (.tmp 28), (some (27, false))⟩,
  ⟨(some 30), .lenStr (.tmp 29), (some (27, false))⟩,
  ⟨(some 31), .bin .gtr (.prim .int) (.tmp 30) (.const (.int .i64 16)), (some (27, false))⟩,
  ⟨(some 32), .pick (.tmp 27) (.const (.bool true)) (.tmp 31), none⟩,
  ⟨(some 33), .mov (.tmp 32), none⟩,
  ⟨(some 34), .fieldAddr 3 (.tmp 5), (some (33, false))⟩,
  ⟨(some 35), .load1 (.tmp 34), (some (33, false))⟩,
  ⟨(some 36), .lenStr (.tmp 35), (some (33, false))⟩,
  ⟨(some 37), .bin .gtr (.prim .int) (.tmp 36) (.const (.int .i64 16)), (some (33, false))⟩,
  ⟨(some 38), .pick (.tmp 33) (.const (.bool true)) (.tmp 37), none⟩,
  ⟨(some 22), .mov (.tmp 38), none⟩])
  (.cond (.tmp 22) (.seq (.ops [⟨(some 4), .mov (.const (.int .i64 6)), none⟩])
  .ret)
  (.seq (.ops [⟨(some 40), .fieldAddr 4 (.tmp 5), none⟩,
  ⟨(some 41), .load1 (.tmp 40), none⟩,
  ⟨(some 42), .bin .lss (.prim .int) (.tmp 41) (.const (.int .i64 0)), none⟩,
  ⟨(some 39), .mov (.tmp 42), none⟩])
  (.cond (.tmp 39) (.seq (.ops [⟨(some 4), .mov (.const (.int .i64 10)), none⟩])
  .ret)
  .skip)))))))))
  (.seq (.ops [⟨(some 4), .mov (.const (.int .i64 0)), none⟩])
  .ret)))) }
theorem c90 : compFunc Tryz.prog mts Tryz.f90 = some a90 := by kernel_rfl
def a91 : AFunc := { ntmps := 9, results := [.tmp 2], body := (.seq (.ops [⟨(some 2), .mov (.const (.bool false)), none⟩])
  (.seq (.ops [⟨(some 3), .mov (.tmp 0), none⟩,
  ⟨(some 4), .bin .geq (.prim .int) (.tmp 3) (.const (.int .i64 1)), none⟩,
  ⟨(some 5), .mov (.tmp 4), none⟩,
  ⟨(some 6), .mov (.tmp 0), (some (5, true))⟩,
  ⟨(some 7), .bin .leq (.prim .int) (.tmp 6) (.const (.int .i64 13)), (some (5, true))⟩,
  ⟨(some 8), .pick (.tmp 5) (.tmp 7) (.const (.bool false)), none⟩,
  ⟨(some 2), .mov (.tmp 8), none⟩])
  .ret)) }
theorem c91 : compFunc Tryz.prog mts Tryz.f91 = some a91 := by kernel_rfl
def a92 : AFunc := { ntmps := 15, results := [.tmp 6], body := (.seq (.ops [⟨(some 6), .mov (.const (.bool false)), none⟩])
  (.seq (.ops [⟨(some 7), .mov (.tmp 0), none⟩,
  ⟨(some 8), .mov (.tmp 1), none⟩,
  ⟨(some 9), .bin .geq (.prim .int) (.tmp 7) (.tmp 8), none⟩,
  ⟨(some 10), .mov (.tmp 9), none⟩,
  ⟨(some 11), .mov (.tmp 0), (some (10, true))⟩,
  ⟨(some 12), .mov (.tmp 2), (some (10, true))⟩,
  ⟨(some 13), .bin .leq (.prim .int) (.tmp 11) (.tmp 12), (some (10, true))⟩,
  ⟨(some 14), .pick (.tmp 10) (.tmp 13) (.const (.bool false)), none⟩,
  ⟨(some 6), .mov (.tmp 14), none⟩])
  .ret)) }
theorem c92 : compFunc Tryz.prog mts Tryz.f92 = some a92 := by kernel_rfl
def a94 : AFunc := { ntmps := 12, results := [.tmp 2], body := (.seq (.ops [⟨(some 2), .mov (.const (.bool false)), none⟩])
  (.seq (.ops [⟨(some 3), .mov (.tmp 0), none⟩,
  ⟨(some 4), .bin .neq .ptr (.tmp 3) (.const (.pointer none)), none⟩,
  ⟨(some 5), .mov (.tmp 4), none⟩,
  ⟨(some 6), .mov (.tmp 0), (some (5, true))⟩,
  ⟨(some 7), .nilCheck (.tmp 6), (some (5, true))⟩,
  ⟨(some 8), .fieldAddr 1 (.tmp 7), (some (5, true))⟩,
  ⟨(some 9), .load1 (.tmp 8), (some (5, true))⟩,
  ⟨(some 10), .bin .neq .ptr (.tmp 9) (.const (.pointer none)), (some (5, true))⟩,
  ⟨(some 11), .pick (.tmp 5) (.tmp 10) (.const (.bool false)), none⟩,
  ⟨(some 2), .mov (.tmp 11), none⟩])
  .ret)) }
theorem c94 : compFunc Tryz.prog mts Tryz.f94 = some a94 := by kernel_rfl
def a96 : AFunc := { ntmps := 14, results := [.tmp 2, .tmp 3], body := (.seq (.ops [⟨(some 2), .mov (.const (.pointer none)), none⟩,
  ⟨(some 3), .mov (.const (.int .i64 0)), none⟩])
  (.seq (.seq (.ops [⟨(some 4), .mov (.tmp 0), none⟩,
  ⟨(some 5), .bin .lss (.prim .int) (.tmp 4) (.const (.int .i64 0)), none⟩,
  ⟨(some 6), .mov (.tmp 5), none⟩,
  ⟨(some 7), .mov (.tmp 0), (some (6, false))⟩,
  ⟨(some 8), .bin .gtr (.prim .int) (.tmp 7) (.const (.int .i64 1000)), (some (6, false))⟩,
  ⟨(some 9), .pick (.tmp 6) (.const (.bool true)) (.tmp 8), none⟩])
  (.cond (.tmp 9) (.seq (.ops [⟨(some 2), .mov (.const (.pointer none)), none⟩,
  ⟨(some 3), .mov (.const (.int .i64 2)), none⟩])
  .ret)
  .skip))
  (.seq (.ops [⟨(some 10), .mov (.tmp 0), none⟩,
  ⟨(some 11), .makeSlice 274 11 136 [(.int .i64 0), (.string ⟨#[]⟩), (.string ⟨#[]⟩), (.int .u32 0), (.slice none 0 0), (.int .i64 0), (.slice none 0 0), (.int .i64 0), (.int .i64 0), (.int .i64 0), (.bool false)] (.tmp 10) (.tmp 10), none⟩,
  ⟨(some 12), .build [(.slice none 0 0), (.slice none 0 0), (.int .i64 0), (.int .i64 0), (.bool false)] [(0, 1, (.tmp 11)), (4, 1, (.const (.bool true)))], none⟩,
  ⟨(some 13), .box 235 (.tmp 12), none⟩,
  ⟨(some 2), .mov (.tmp 13), none⟩,
  ⟨(some 3), .mov (.const (.int .i64 0)), none⟩])
  .ret))) }
theorem c96 : compFunc Tryz.prog mts Tryz.f96 = some a96 := by kernel_rfl
def a97 : AFunc := { ntmps := 14, results := [.tmp 2, .tmp 3], body := (.seq (.ops [⟨(some 2), .mov (.const (.pointer none)), none⟩,
  ⟨(some 3), .mov (.const (.int .i64 0)), none⟩])
  (.seq (.seq (.ops [⟨(some 4), .mov (.tmp 0), none⟩,
  ⟨(some 5), .bin .lss (.prim .int) (.tmp 4) (.const (.int .i64 0)), none⟩,
  ⟨(some 6), .mov (.tmp 5), none⟩,
  ⟨(some 7), .mov (.tmp 0), (some (6, false))⟩,
  ⟨(some 8), .bin .gtr (.prim .int) (.tmp 7) (.const (.int .i64 200)), (some (6, false))⟩,
  ⟨(some 9), .pick (.tmp 6) (.const (.bool true)) (.tmp 8), none⟩])
  (.cond (.tmp 9) (.seq (.ops [⟨(some 2), .mov (.const (.pointer none)), none⟩,
  ⟨(some 3), .mov (.const (.int .i64 2)), none⟩])
  .ret)
  .skip))
  (.seq (.ops [⟨(some 10), .mov (.tmp 0), none⟩,
  ⟨(some 11), .makeSlice 75 3 24 [(.int .i64 0), (.int .i64 0), (.int .i64 0)] (.tmp 10) (.tmp 10), none⟩,
  ⟨(some 12), .build [(.slice none 0 0), (.int .i64 0), (.bool false)] [(0, 1, (.tmp 11)), (2, 1, (.const (.bool true)))], none⟩,
  ⟨(some 13), .box 238 (.tmp 12), none⟩,
  ⟨(some 2), .mov (.tmp 13), none⟩,
  ⟨(some 3), .mov (.const (.int .i64 0)), none⟩])
  .ret))) }
theorem c97 : compFunc Tryz.prog mts Tryz.f97 = some a97 := by kernel_rfl
def a100 : AFunc := { ntmps := 9, results := [.tmp 2], body := (.seq (.ops [⟨(some 2), .mov (.const (.bool false)), none⟩])
  (.seq (.ops [⟨(some 3), .mov (.tmp 0), none⟩,
  ⟨(some 4), .bin .geq (.prim .int) (.tmp 3) (.const (.int .i64 1)), none⟩,
  ⟨(some 5), .mov (.tmp 4), none⟩,
  ⟨(some 6), .mov (.tmp 0), (some (5, true))⟩,
  ⟨(some 7), .bin .leq (.prim .int) (.tmp 6) (.const (.int .i64 16)), (some (5, true))⟩,
  ⟨(some 8), .pick (.tmp 5) (.tmp 7) (.const (.bool false)), none⟩,
  ⟨(some 2), .mov (.tmp 8), none⟩])
  .ret)) }
theorem c100 : compFunc Tryz.prog mts Tryz.f100 = some a100 := by kernel_rfl
def a101 : AFunc := { ntmps := 35, results := [.cellN 8 3, .tmp 9], body := (.seq (.ops [⟨(some 8), .alloc 75 [(.int .i64 0), (.int .i64 0), (.int .i64 0)], none⟩,
  ⟨(some 9), .mov (.const (.int .i64 0)), none⟩])
  (.seq (.block 0 (.seq (.ops [⟨(some 11), .mov (.tmp 1), none⟩,
  ⟨(some 12), .bin .lss (.prim .int) (.tmp 11) (.const (.int .i64 (-16))), none⟩,
  ⟨(some 10), .mov (.tmp 12), none⟩])
  (.cond (.tmp 10) .skip
  (.seq (.ops [⟨(some 14), .mov (.tmp 0), none⟩,
  ⟨(some 15), .bin .eql (.prim .int) (.tmp 14) (.const (.int .i64 1)), none⟩,
  ⟨(some 13), .mov (.tmp 15), none⟩])
  (.cond (.tmp 13) (.seq (.ops [⟨(some 16), .mov (.tmp 1), none⟩,
  ⟨(some 17), .build [(.int .i64 0), (.int .i64 0), (.int .i64 0)] [(1, 1, (.const (.int .i64 (-1)))), (2, 1, (.tmp 16))], none⟩,
  ⟨none, .store 3 (.tmp 8) (.tmp 17), none⟩,
  ⟨(some 9), .mov (.const (.int .i64 0)), none⟩])
  .ret)
  (.seq (.ops [⟨(some 19), .mov (.tmp 0), none⟩,
  ⟨(some 20), .bin .eql (.prim .int) (.tmp 19) (.const (.int .i64 2)), none⟩,
  ⟨(some 18), .mov (.tmp 20), none⟩])
  (.cond (.tmp 18) (.seq (.ops [⟨(some 21), .mov (.tmp 1), none⟩,
  ⟨(some 22), .build [(.int .i64 0), (.int .i64 0), (.int .i64 0)] [(1, 1, (.const (.int .i64 (-2)))), (2, 1, (.tmp 21))], none⟩,
  ⟨none, .store 3 (.tmp 8) (.tmp 22), none⟩,
  ⟨(some 9), .mov (.const (.int .i64 0)), none⟩])
  .ret)
  (.seq (.ops [⟨(some 24), .mov (.tmp 0), none⟩,
  ⟨(some 25), .bin .eql (.prim .int) (.tmp 24) (.const (.int .i64 3)), none⟩,
  ⟨(some 26), .mov (.tmp 25), none⟩,
  ⟨(some 27), .mov (.tmp 3), (some (26, true))⟩,
  ⟨(some 28), .bin .geq (.prim .int) (.tmp 27) (.const (.int .i64 0)), (some (26, true))⟩,
  ⟨(some 29), .pick (.tmp 26) (.tmp 28) (.const (.bool false)), none⟩,
  ⟨(some 23), .mov (.tmp 29), none⟩])
  (.cond (.tmp 23) (.seq (.ops [⟨(some 30), .mov (.tmp 2), none⟩,
  ⟨(some 31), .mov (.tmp 3), none⟩,
  ⟨(some 32), .mov (.tmp 1), none⟩,
  ⟨(some 33), .build [(.int .i64 0), (.int .i64 0), (.int .i64 0)] [(0, 1, (.tmp 30)), (1, 1, (.tmp 31)), (2, 1, (.tmp 32))], none⟩,
  ⟨none, .store 3 (.tmp 8) (.tmp 33), none⟩,
  ⟨(some 9), .mov (.const (.int .i64 0)), none⟩])
  .ret)
  .skip)))))))))
  (.seq (.ops [⟨(some 34), .build [(.int .i64 0), (.int .i64 0), (.int .i64 0)] [], none⟩,
  ⟨none, .store 3 (.tmp 8) (.tmp 34), none⟩,
  ⟨(some 9), .mov (.const (.int .i64 2)), none⟩])
  .ret))) }
theorem c101 : compFunc Tryz.prog mts Tryz.f101 = some a101 := by kernel_rfl
def a102 : AFunc := { ntmps := 30, results := [.tmp 4], body := (.seq (.ops [⟨(some 3), .box 23 (.tmp 1), none⟩,
  ⟨(some 4), .mov (.const (.bool false)), none⟩])
  (.seq (.draw [⟨0, ⟨(some 5), .mov (.tmp 0), none⟩, []⟩,
  ⟨1, ⟨(some 6), .nilCheck (.tmp 5), none⟩, []⟩,
  ⟨2, ⟨(some 7), .fieldAddr 0 (.tmp 6), none⟩, []⟩,
  ⟨3, ⟨(some 8), .load1 (.tmp 7), none⟩, []⟩,
  ⟨4, ⟨(some 9), .nilCheck (.tmp 8), none⟩, []⟩,
  ⟨5, ⟨(some 10), .fieldAddr 0 (.tmp 9), none⟩, []⟩,
  ⟨6, ⟨(some 11), .loadN 5 (.tmp 10), none⟩, []⟩,
  ⟨7, ⟨(some 12), .loadN 5 (.tmp 3), none⟩, []⟩,
  ⟨8, ⟨(some 13), .call (.func 90) [(.tmp 11), (.tmp 12)], none⟩, []⟩,
  ⟨9, ⟨(some 14), .bin .eql (.prim .int) (.tmp 13) (.const (.int .i64 0)), none⟩, []⟩,
  ⟨10, ⟨(some 15), .mov (.tmp 14), none⟩, []⟩,
  ⟨11, ⟨(some 16), .fieldAddr 0 (.tmp 3), (some (15, true))⟩, []⟩,
  ⟨12, ⟨(some 17), .load1 (.tmp 16), (some (15, true))⟩, []⟩,
  ⟨13, ⟨(some 18), .call (.func 134) [(.tmp 17)], (some (15, true))⟩, []⟩,
  ⟨14, ⟨(some 19), .un .not (.tmp 18), (some (15, true))⟩, []⟩,
  ⟨15, ⟨(some 20), .mov (.tmp 19), (some (15, true))⟩, []⟩,
  ⟨16, ⟨(some 21), .mov (.tmp 0), (some (20, false))⟩, []⟩,
  ⟨17, ⟨(some 22), .nilCheck (.tmp 21), (some (20, false))⟩, []⟩,
  ⟨18, ⟨(some 23), .fieldAddr 4 (.tmp 22), (some (20, false))⟩, []⟩,
  ⟨19, ⟨(some 24), .load1 (.tmp 23), (some (20, false))⟩, []⟩,
  ⟨20, ⟨(some 25), .fieldAddr 4 (.tmp 3), (some (20, false))⟩, []⟩,
  ⟨21, ⟨(some 26), .load1 (.tmp 25), (some (20, false))⟩, []⟩,
  ⟨22, ⟨(some 27), .call (.func 135) [(.tmp 24), (.tmp 26)], (some (20, false))⟩, []⟩,
  ⟨23, ⟨(some 28), .pick (.tmp 20) (.const (.bool true)) (.tmp 27), (some (15, true))⟩, []⟩,
  ⟨24, ⟨(some 29), .pick (.tmp 15) (.tmp 28) (.const (.bool false)), none⟩, []⟩,
  ⟨25, ⟨(some 4), .mov (.tmp 29), none⟩, []⟩])
  .ret)) }
theorem c102 : compFunc Tryz.prog mts Tryz.f102 = some a102 := by kernel_rfl
def a103 : AFunc := { ntmps := 15, results := [.tmp 6, .tmp 7], body := (.seq (.ops [⟨(some 5), .box 23 (.tmp 2), none⟩,
  ⟨(some 6), .mov (.const (.slice none 0 0)), none⟩,
  ⟨(some 7), .mov (.const (.int .i64 0)), none⟩])
  (.seq (.ops [⟨(some 8), .mov (.tmp 0), none⟩,
  ⟨(some 9), .mov (.tmp 1), none⟩,
  ⟨(some 10), .loadN 5 (.tmp 5), none⟩,
  ⟨(some 11), .build [(.bool false), (.int .i64 0), (.int .i64 0), (.string ⟨#[]⟩), (.string ⟨#[]⟩), (.string ⟨#[]⟩), (.int .i64 0), (.int .i64 0), (.bool false), (.string ⟨#[]⟩), (.string ⟨#[]⟩), (.int .i64 0)] [(1, 1, (.tmp 9)), (2, 5, (.tmp 10))], none⟩,
  ⟨(some 12), .call (.func 136) [(.tmp 8), (.tmp 11)], none⟩,
  ⟨(some 13), .extract (.tmp 12) 0, none⟩,
  ⟨(some 14), .extract (.tmp 12) 1, none⟩,
  ⟨(some 6), .mov (.tmp 13), none⟩,
  ⟨(some 7), .mov (.tmp 14), none⟩])
  .ret)) }
theorem c103 : compFunc Tryz.prog mts Tryz.f103 = some a103 := by kernel_rfl
def a104 : AFunc := { ntmps := 74, results := [.tmp 6, .tmp 7], body := (.seq (.ops [⟨(some 5), .box 23 (.tmp 2), none⟩,
  ⟨(some 6), .mov (.const .nilIface), none⟩,
  ⟨(some 7), .mov (.const (.int .i64 0)), none⟩])
  (.seq (.block 0 (.seq (.ops [⟨(some 9), .fieldAddr 0 (.tmp 5), none⟩,
  ⟨(some 10), .load1 (.tmp 9), none⟩,
  ⟨(some 11), .bin .eql (.prim .int) (.tmp 10) (.const (.int .i64 13)), none⟩,
  ⟨(some 8), .mov (.tmp 11), none⟩])
  (.cond (.tmp 8) (.seq (.draw [⟨0, ⟨(some 12), .mov (.tmp 0), none⟩, []⟩,
  ⟨1, ⟨(some 13), .nilCheck (.tmp 12), none⟩, []⟩,
  ⟨2, ⟨(some 14), .fieldAddr 0 (.tmp 13), none⟩, []⟩,
  ⟨3, ⟨(some 15), .load1 (.tmp 14), none⟩, []⟩,
  ⟨4, ⟨(some 16), .mov (.tmp 1), none⟩, []⟩,
  ⟨5, ⟨(some 17), .loadN 5 (.tmp 5), none⟩, []⟩,
  ⟨6, ⟨(some 18), .call (.func 13) [(.tmp 15), (.tmp 16), (.tmp 17)], none⟩, []⟩,
  ⟨7, ⟨(some 19), .extract (.tmp 18) 0, none⟩, []⟩,
  ⟨8, ⟨(some 20), .extract (.tmp 18) 1, none⟩, []⟩,
  ⟨9, ⟨(some 21), .call (.func 137) [(.tmp 19), (.tmp 20)], none⟩, []⟩,
  ⟨10, ⟨(some 22), .extract (.tmp 21) 0, none⟩, []⟩,
  ⟨11, ⟨(some 23), .extract (.tmp 21) 1, none⟩, []⟩,
  ⟨12, ⟨(some 6), .mov (.tmp 22), none⟩, []⟩,
  ⟨13, ⟨(some 7), .mov (.tmp 23), none⟩, []⟩])
  .ret)
  (.seq (.ops [⟨(some 25), .fieldAddr 0 (.tmp 5), none⟩,
  ⟨(some 26), .load1 (.tmp 25), none⟩,
  ⟨(some 27), .bin .gtr (.prim .int) (.tmp 26) (.const (.int .i64 6)), none⟩,
  ⟨(some 24), .mov (.tmp 27), none⟩])
  (.cond (.tmp 24) (.seq (.draw [⟨0, ⟨(some 28), .mov (.tmp 0), none⟩, []⟩,
  ⟨1, ⟨(some 29), .nilCheck (.tmp 28), none⟩, []⟩,
  ⟨2, ⟨(some 30), .fieldAddr 0 (.tmp 29), none⟩, []⟩,
  ⟨3, ⟨(some 31), .load1 (.tmp 30), none⟩, []⟩,
  ⟨4, ⟨(some 32), .mov (.tmp 1), none⟩, []⟩,
  ⟨5, ⟨(some 33), .loadN 5 (.tmp 5), none⟩, []⟩,
  ⟨6, ⟨(some 34), .call (.func 139) [(.tmp 31), (.tmp 32), (.tmp 33)], none⟩, []⟩,
  ⟨7, ⟨(some 35), .extract (.tmp 34) 0, none⟩, []⟩,
  ⟨8, ⟨(some 36), .extract (.tmp 34) 1, none⟩, []⟩,
  ⟨9, ⟨(some 37), .call (.func 138) [(.tmp 35), (.tmp 36)], none⟩, []⟩,
  ⟨10, ⟨(some 38), .extract (.tmp 37) 0, none⟩, []⟩,
  ⟨11, ⟨(some 39), .extract (.tmp 37) 1, none⟩, []⟩,
  ⟨12, ⟨(some 6), .mov (.tmp 38), none⟩, []⟩,
  ⟨13, ⟨(some 7), .mov (.tmp 39), none⟩, []⟩])
  .ret)
  (.seq (.ops [⟨(some 41), .mov (.tmp 0), none⟩,
  ⟨(some 42), .nilCheck (.tmp 41), none⟩,
  ⟨(some 43), .fieldAddr 0 (.tmp 42), none⟩,
  ⟨(some 44), .load1 (.tmp 43), none⟩,
  ⟨(some 45), .nilCheck (.tmp 44), none⟩,
  ⟨(some 46), .fieldAddr 0 (.tmp 45), none⟩,
  ⟨(some 47), .fieldAddr 0 (.tmp 46), none⟩,
  ⟨(some 48), .load1 (.tmp 47), none⟩,
  ⟨(some 49), .bin .eql (.prim .int) (.tmp 48) (.const (.int .i64 3)), none⟩,
  ⟨(some 40), .mov (.tmp 49), none⟩])
  (.cond (.tmp 40) (.seq (.draw [⟨0, ⟨(some 50), .mov (.tmp 0), none⟩, []⟩,
  ⟨1, ⟨(some 51), .nilCheck (.tmp 50), none⟩, []⟩,
  ⟨2, ⟨(some 52), .fieldAddr 0 (.tmp 51), none⟩, []⟩,
  ⟨3, ⟨(some 53), .load1 (.tmp 52), none⟩, []⟩,
  ⟨4, ⟨(some 54), .mov (.tmp 1), none⟩, []⟩,
  ⟨5, ⟨(some 55), .loadN 5 (.tmp 5), none⟩, []⟩,
  ⟨6, ⟨(some 56), .call (.func 141) [(.tmp 53), (.tmp 54), (.tmp 55)], none⟩, []⟩,
  ⟨7, ⟨(some 57), .extract (.tmp 56) 0, none⟩, []⟩,
  ⟨8, ⟨(some 58), .extract (.tmp 56) 1, none⟩, []⟩,
  ⟨9, ⟨(some 59), .call (.func 140) [(.tmp 57), (.tmp 58)], none⟩, []⟩,
  ⟨10, ⟨(some 60), .extract (.tmp 59) 0, none⟩, []⟩,
  ⟨11, ⟨(some 61), .extract (.tmp 59) 1, none⟩, []⟩,
  ⟨12, ⟨(some 6), .mov (.tmp 60), none⟩, []⟩,
  ⟨13, ⟨(some 7), .mov (.tmp 61), none⟩, []⟩])
  .ret)
  .skip)))))))
  (.seq (.draw [⟨0, ⟨(some 62), .mov (.tmp 0), none⟩, []⟩,
  ⟨1, ⟨(some 63), .nilCheck (.tmp 62), none⟩, []⟩,
  ⟨2, ⟨(some 64), .fieldAddr 0 (.tmp 63), none⟩, []⟩,
  ⟨3, ⟨(some 65), .load1 (.tmp 64), none⟩, []⟩,
  ⟨4, ⟨(some 66), .mov (.tmp 1), none⟩, []⟩,
  ⟨5, ⟨(some 67), .loadN 5 (.tmp 5), none⟩, []⟩,
  ⟨6, ⟨(some 68), .call (.func 8) [(.tmp 65), (.tmp 66), (.tmp 67)], none⟩, []⟩,
  ⟨7, ⟨(some 69), .extract (.tmp 68) 0, none⟩, []⟩,
  ⟨8, ⟨(some 70), .extract (.tmp 68) 1, none⟩, []⟩,
  ⟨9, ⟨(some 71), .call (.func 142) [(.tmp 69), (.tmp 70)], none⟩, []⟩,
  ⟨10, ⟨(some 72), .extract (.tmp 71) 0, none⟩, []⟩,
  ⟨11, ⟨(some 73), .extract (.tmp 71) 1, none⟩, []⟩,
  ⟨12, ⟨(some 6), .mov (.tmp 72), none⟩, []⟩,
  ⟨13, ⟨(some 7), .mov (.tmp 73), none⟩, []⟩])
  .ret))) }
theorem c104 : compFunc Tryz.prog mts Tryz.f104 = some a104 := by kernel_rfl
def a105 : AFunc := { ntmps := 22, results := [.tmp 2], body := (.seq (.ops [⟨(some 2), .mov (.const (.int .i64 0)), none⟩])
  (.seq (.seq (.ops [⟨(some 3), .mov (.tmp 0), none⟩,
  ⟨(some 4), .call (.func 143) [(.tmp 3)], none⟩,
  ⟨(some 5), .un .not (.tmp 4), none⟩])
  (.cond (.tmp 5) (.seq (.ops [⟨(some 2), .mov (.const (.int .i64 0)), none⟩])
  .ret)
  .skip))
  (.seq (.draw [⟨0, ⟨(some 6), .mov (.tmp 0), none⟩, []⟩,
  ⟨1, ⟨(some 7), .nilCheck (.tmp 6), none⟩, []⟩,
  ⟨2, ⟨(some 8), .fieldAddr 5 (.tmp 7), none⟩, []⟩,
  ⟨3, ⟨(some 9), .load1 (.tmp 8), none⟩, []⟩,
  ⟨5, ⟨(some 11), .mov (.tmp 0), none⟩, []⟩,
  ⟨6, ⟨(some 12), .nilCheck (.tmp 11), none⟩, []⟩,
  ⟨7, ⟨(some 13), .fieldAddr 6 (.tmp 12), none⟩, []⟩,
  ⟨8, ⟨(some 14), .load1 (.tmp 13), none⟩, []⟩,
  ⟨11, ⟨(some 17), .mov (.tmp 0), none⟩, []⟩,
  ⟨12, ⟨(some 18), .nilCheck (.tmp 17), none⟩, []⟩,
  ⟨13, ⟨(some 19), .fieldAddr 7 (.tmp 18), none⟩, []⟩,
  ⟨14, ⟨(some 20), .load1 (.tmp 19), none⟩, []⟩,
  ⟨4, ⟨(some 10), .call (.func 56) [(.tmp 9)], none⟩, [⟨(some 14), .load1 (.tmp 13), none⟩, ⟨(some 20), .load1 (.tmp 19), none⟩]⟩,
  ⟨9, ⟨(some 15), .call (.func 57) [(.tmp 14)], none⟩, [⟨(some 20), .load1 (.tmp 19), none⟩]⟩,
  ⟨10, ⟨(some 16), .bin .add (.prim .int) (.tmp 10) (.tmp 15), none⟩, []⟩,
  ⟨15, ⟨(some 21), .bin .sub (.prim .int) (.tmp 16) (.tmp 20), none⟩, []⟩,
  ⟨16, ⟨(some 2), .mov (.tmp 21), none⟩, []⟩])
  .ret))) }
theorem c105 : compFunc Tryz.prog mts Tryz.f105 = some a105 := by kernel_rfl
def a106 : AFunc := { ntmps := 48, results := [.tmp 6, .tmp 7], body := (.seq (.ops [⟨(some 5), .box 27 (.tmp 2), none⟩,
  ⟨(some 6), .mov (.const (.slice none 0 0)), none⟩,
  ⟨(some 7), .mov (.const (.int .i64 0)), none⟩])
  (.seq (.ops [⟨(some 14), .mov (.tmp 0), none⟩,
  ⟨(some 15), .call (.func 144) [(.tmp 14)], none⟩,
  ⟨(some 13), .mov (.tmp 15), none⟩,
  ⟨(some 16), .extract (.tmp 13) 0, none⟩,
  ⟨(some 17), .extract (.tmp 13) 1, none⟩,
  ⟨(some 8), .mov (.tmp 16), none⟩,
  ⟨(some 9), .mov (.tmp 17), none⟩])
  (.seq (.seq (.ops [⟨(some 18), .mov (.tmp 9), none⟩,
  ⟨(some 19), .bin .neq (.prim .int) (.tmp 18) (.const (.int .i64 0)), none⟩])
  (.cond (.tmp 19) (.seq (.ops [⟨(some 20), .mov (.tmp 9), none⟩,
  ⟨(some 6), .mov (.const (.slice none 0 0)), none⟩,
  ⟨(some 7), .mov (.tmp 20), none⟩])
  .ret)
  .skip))
  (.seq (.ops [⟨(some 21), .mov (.tmp 1), none⟩,
  ⟨(some 22), .loadN 5 (.tmp 5), none⟩,
  ⟨(some 23), .build [(.bool false), (.int .i64 0), (.int .i64 0), (.string ⟨#[]⟩), (.string ⟨#[]⟩), (.string ⟨#[]⟩), (.int .i64 0), (.int .i64 0), (.bool false), (.string ⟨#[]⟩), (.string ⟨#[]⟩), (.int .i64 0)] [(0, 1, (.const (.bool true))), (1, 1, (.tmp 21)), (7, 5, (.tmp 22))], none⟩,
  ⟨(some 10), .alloc 110 [(.bool false), (.int .i64 0), (.int .i64 0), (.string ⟨#[]⟩), (.string ⟨#[]⟩), (.string ⟨#[]⟩), (.int .i64 0), (.int .i64 0), (.bool false), (.string ⟨#[]⟩), (.string ⟨#[]⟩), (.int .i64 0)], none⟩,
  ⟨none, .store 12 (.tmp 10) (.tmp 23), none⟩])
  (.seq (.seq (.ops [⟨(some 25), .mov (.tmp 8), none⟩,
  ⟨(some 26), .nilCheck (.tmp 25), none⟩,
  ⟨(some 27), .fieldAddr 1 (.tmp 26), none⟩,
  ⟨(some 28), .load1 (.tmp 27), none⟩,
  ⟨(some 29), .mov (.tmp 1), none⟩,
  ⟨(some 30), .lookup .int (.int .i64 0) true (.tmp 28) (.tmp 29), none⟩,
  ⟨(some 24), .mov (.tmp 30), none⟩,
  ⟨(some 31), .extract (.tmp 24) 0, none⟩,
  ⟨(some 32), .extract (.tmp 24) 1, none⟩,
  ⟨(some 11), .mov (.tmp 31), none⟩,
  ⟨(some 12), .mov (.tmp 32), none⟩])
  (.seq (.ops [⟨(some 33), .mov (.tmp 12), none⟩])
  (.cond (.tmp 33) (.ops [⟨(some 34), .mov (.tmp 8), none⟩,
  ⟨(some 35), .nilCheck (.tmp 34), none⟩,
  ⟨(some 36), .fieldAddr 0 (.tmp 35), none⟩,
  ⟨(some 37), .load1 (.tmp 36), none⟩,
  ⟨(some 38), .mov (.tmp 11), none⟩,
  ⟨(some 39), .indexAddrSl 14 (.tmp 37) (.tmp 38), none⟩,
  ⟨(some 40), .fieldAddr 1 (.tmp 39), none⟩,
  ⟨(some 41), .loadN 5 (.tmp 40), none⟩,
  ⟨(some 42), .fieldAddr 2 (.tmp 10), none⟩,
  ⟨none, .store 5 (.tmp 42) (.tmp 41), none⟩])
  .skip)))
  (.seq (.ops [⟨(some 43), .mov (.tmp 0), none⟩,
  ⟨(some 44), .loadN 12 (.tmp 10), none⟩,
  ⟨(some 45), .call (.func 136) [(.tmp 43), (.tmp 44)], none⟩,
  ⟨(some 46), .extract (.tmp 45) 0, none⟩,
  ⟨(some 47), .extract (.tmp 45) 1, none⟩,
  ⟨(some 6), .mov (.tmp 46), none⟩,
  ⟨(some 7), .mov (.tmp 47), none⟩])
  .ret)))))) }
theorem c106 : compFunc Tryz.prog mts Tryz.f106 = some a106 := by kernel_rfl
def a112 : AFunc := { ntmps := 27, results := [.tmp 4], body := (.seq (.ops [⟨(some 4), .mov (.const (.int .i64 0)), none⟩])
  (.seq (.block 0 (.seq (.ops [⟨(some 6), .mov (.tmp 0), none⟩,
  ⟨(some 7), .bin .eql .ptr (.tmp 6) (.const (.pointer none)), none⟩,
  ⟨(some 8), .mov (.tmp 7), none⟩,
  ⟨(some 9), .mov (.tmp 0), (some (8, false))⟩,
  ⟨(some 10), .nilCheck (.tmp 9), (some (8, false))⟩,
  ⟨(some 11), .fieldAddr 2 (.tmp 10), (some (8, false))⟩,
  ⟨(some 12), .load1 (.tmp 11), (some (8, false))⟩,
  ⟨(some 13), .un .not (.tmp 12), (some (8, false))⟩,
  ⟨(some 14), .pick (.tmp 8) (.const (.bool true)) (.tmp 13), none⟩,
  ⟨(some 5), .mov (.tmp 14), none⟩])
  (.cond (.tmp 5) (.seq (.ops [⟨(some 4), .mov (.const (.int .i64 4)), none⟩])
  .ret)
  (.seq (.ops [⟨(some 16), .mov (.tmp 0), none⟩,
  ⟨(some 17), .mov (.tmp 1), none⟩,
  ⟨(some 18), .call (.func 152) [(.tmp 16), (.tmp 17)], none⟩,
  ⟨(some 19), .un .not (.tmp 18), none⟩,
  ⟨(some 15), .mov (.tmp 19), none⟩])
  (.cond (.tmp 15) (.seq (.ops [⟨(some 4), .mov (.const (.int .i64 2)), none⟩])
  .ret)
  .skip)))))
  (.seq (.ops [⟨(some 20), .mov (.tmp 0), none⟩,
  ⟨(some 21), .nilCheck (.tmp 20), none⟩,
  ⟨(some 22), .fieldAddr 1 (.tmp 21), none⟩,
  ⟨(some 23), .load1 (.tmp 22), none⟩,
  ⟨(some 24), .bin .add (.prim .int) (.tmp 23) (.const (.int .i64 1)), none⟩,
  ⟨(some 25), .nilCheck (.tmp 20), none⟩,
  ⟨(some 26), .fieldAddr 1 (.tmp 25), none⟩,
  ⟨none, .store 1 (.tmp 26) (.tmp 24), none⟩])
  (.seq (.ops [⟨(some 4), .mov (.const (.int .i64 0)), none⟩])
  .ret)))) }
theorem c112 : compFunc Tryz.prog mts Tryz.f112 = some a112 := by kernel_rfl
def a113 : AFunc := { ntmps := 17, results := [.cellN 4 3], body := (.seq (.ops [⟨(some 4), .alloc 75 [(.int .i64 0), (.int .i64 0), (.int .i64 0)], none⟩])
  (.seq (.seq (.ops [⟨(some 5), .mov (.tmp 0), none⟩,
  ⟨(some 6), .mov (.tmp 1), none⟩,
  ⟨(some 7), .call (.func 152) [(.tmp 5), (.tmp 6)], none⟩,
  ⟨(some 8), .un .not (.tmp 7), none⟩])
  (.cond (.tmp 8) (.seq (.ops [⟨(some 9), .build [(.int .i64 0), (.int .i64 0), (.int .i64 0)] [], none⟩,
  ⟨none, .store 3 (.tmp 4) (.tmp 9), none⟩])
  .ret)
  .skip))
  (.seq (.ops [⟨(some 10), .mov (.tmp 0), none⟩,
  ⟨(some 11), .nilCheck (.tmp 10), none⟩,
  ⟨(some 12), .fieldAddr 0 (.tmp 11), none⟩,
  ⟨(some 13), .load1 (.tmp 12), none⟩,
  ⟨(some 14), .mov (.tmp 1), none⟩,
  ⟨(some 15), .indexAddrSl 3 (.tmp 13) (.tmp 14), none⟩,
  ⟨(some 16), .loadN 3 (.tmp 15), none⟩,
  ⟨none, .store 3 (.tmp 4) (.tmp 16), none⟩])
  .ret))) }
theorem c113 : compFunc Tryz.prog mts Tryz.f113 = some a113 := by kernel_rfl
def a114 : AFunc := { ntmps := 33, results := [.cellN 6 3, .tmp 7], body := (.seq (.ops [⟨(some 5), .box 75 (.tmp 2), none⟩,
  ⟨(some 6), .alloc 75 [(.int .i64 0), (.int .i64 0), (.int .i64 0)], none⟩,
  ⟨(some 7), .mov (.const (.int .i64 0)), none⟩])
  (.seq (.ops [⟨(some 10), .mov (.tmp 0), none⟩,
  ⟨(some 11), .mov (.tmp 1), none⟩,
  ⟨(some 12), .call (.func 112) [(.tmp 10), (.tmp 11)], none⟩,
  ⟨(some 8), .mov (.tmp 12), none⟩])
  (.seq (.seq (.ops [⟨(some 13), .mov (.tmp 8), none⟩,
  ⟨(some 14), .bin .neq (.prim .int) (.tmp 13) (.const (.int .i64 0)), none⟩])
  (.cond (.tmp 14) (.seq (.ops [⟨(some 15), .build [(.int .i64 0), (.int .i64 0), (.int .i64 0)] [], none⟩,
  ⟨(some 16), .mov (.tmp 8), none⟩,
  ⟨none, .store 3 (.tmp 6) (.tmp 15), none⟩,
  ⟨(some 7), .mov (.tmp 16), none⟩])
  .ret)
  .skip))
  (.seq (.ops [⟨(some 17), .mov (.tmp 0), none⟩,
  ⟨(some 18), .nilCheck (.tmp 17), none⟩,
  ⟨(some 19), .fieldAddr 0 (.tmp 18), none⟩,
  ⟨(some 20), .load1 (.tmp 19), none⟩,
  ⟨(some 21), .mov (.tmp 1), none⟩,
  ⟨(some 22), .indexAddrSl 3 (.tmp 20) (.tmp 21), none⟩,
  ⟨(some 23), .loadN 3 (.tmp 22), none⟩,
  ⟨(some 9), .alloc 75 [(.int .i64 0), (.int .i64 0), (.int .i64 0)], none⟩,
  ⟨none, .store 3 (.tmp 9) (.tmp 23), none⟩])
  (.seq (.draw [⟨0, ⟨(some 24), .mov (.tmp 0), none⟩, []⟩,
  ⟨1, ⟨(some 25), .nilCheck (.tmp 24), none⟩, []⟩,
  ⟨2, ⟨(some 26), .fieldAddr 0 (.tmp 25), none⟩, []⟩,
  ⟨3, ⟨(some 27), .load1 (.tmp 26), none⟩, []⟩,
  ⟨4, ⟨(some 28), .mov (.tmp 1), none⟩, []⟩,
  ⟨5, ⟨(some 29), .loadN 3 (.tmp 5), none⟩, []⟩,
  ⟨6, ⟨(some 30), .indexAddrSl 3 (.tmp 27) (.tmp 28), none⟩, []⟩,
  ⟨7, ⟨none, .store 3 (.tmp 30) (.tmp 29), none⟩, []⟩])
  (.seq (.ops [⟨(some 31), .loadN 3 (.tmp 9), none⟩,
  ⟨(some 32), .mov (.tmp 8), none⟩,
  ⟨none, .store 3 (.tmp 6) (.tmp 31), none⟩,
  ⟨(some 7), .mov (.tmp 32), none⟩])
  .ret)))))) }
theorem c114 : compFunc Tryz.prog mts Tryz.f114 = some a114 := by kernel_rfl
def a127 : AFunc := { ntmps := 36, results := [.tmp 8, .tmp 9], body := (.seq (.ops [⟨(some 6), .box 75 (.tmp 2), none⟩,
  ⟨(some 7), .box 75 (.tmp 3), none⟩,
  ⟨(some 8), .mov (.const (.bool false)), none⟩,
  ⟨(some 9), .mov (.const (.int .i64 0)), none⟩])
  (.seq (.ops [⟨(some 11), .mov (.tmp 0), none⟩,
  ⟨(some 12), .mov (.tmp 1), none⟩,
  ⟨(some 13), .call (.func 112) [(.tmp 11), (.tmp 12)], none⟩,
  ⟨(some 10), .mov (.tmp 13), none⟩])
  (.seq (.seq (.draw [⟨0, ⟨(some 14), .mov (.tmp 10), none⟩, []⟩,
  ⟨1, ⟨(some 15), .bin .neq (.prim .int) (.tmp 14) (.const (.int .i64 0)), none⟩, []⟩,
  ⟨2, ⟨(some 16), .mov (.tmp 15), none⟩, []⟩,
  ⟨3, ⟨(some 17), .mov (.tmp 0), (some (16, false))⟩, []⟩,
  ⟨4, ⟨(some 18), .nilCheck (.tmp 17), (some (16, false))⟩, []⟩,
  ⟨5, ⟨(some 19), .fieldAddr 0 (.tmp 18), (some (16, false))⟩, []⟩,
  ⟨6, ⟨(some 20), .load1 (.tmp 19), (some (16, false))⟩, []⟩,
  ⟨7, ⟨(some 21), .mov (.tmp 1), (some (16, false))⟩, []⟩,
  ⟨8, ⟨(some 22), .indexAddrSl 3 (.tmp 20) (.tmp 21), (some (16, false))⟩, []⟩,
  ⟨9, ⟨(some 23), .loadN 3 (.tmp 22), (some (16, false))⟩, []⟩,
  ⟨10, ⟨(some 24), .loadN 3 (.tmp 6), (some (16, false))⟩, []⟩,
  ⟨11, ⟨(some 25), .bin .neq (.agg [.int, .int, .int]) (.tmp 23) (.tmp 24), (some (16, false))⟩, []⟩,
  ⟨12, ⟨(some 26), .pick (.tmp 16) (.const (.bool true)) (.tmp 25), none⟩, []⟩])
  (.cond (.tmp 26) (.seq (.ops [⟨(some 27), .mov (.tmp 10), none⟩,
  ⟨(some 8), .mov (.const (.bool false)), none⟩,
  ⟨(some 9), .mov (.tmp 27), none⟩])
  .ret)
  .skip))
  (.seq (.draw [⟨0, ⟨(some 28), .mov (.tmp 0), none⟩, []⟩,
  ⟨1, ⟨(some 29), .nilCheck (.tmp 28), none⟩, []⟩,
  ⟨2, ⟨(some 30), .fieldAddr 0 (.tmp 29), none⟩, []⟩,
  ⟨3, ⟨(some 31), .load1 (.tmp 30), none⟩, []⟩,
  ⟨4, ⟨(some 32), .mov (.tmp 1), none⟩, []⟩,
  ⟨5, ⟨(some 33), .loadN 3 (.tmp 7), none⟩, []⟩,
  ⟨6, ⟨(some 34), .indexAddrSl 3 (.tmp 31) (.tmp 32), none⟩, []⟩,
  ⟨7, ⟨none, .store 3 (.tmp 34) (.tmp 33), none⟩, []⟩])
  (.seq (.ops [⟨(some 35), .mov (.tmp 10), none⟩,
  ⟨(some 8), .mov (.const (.bool true)), none⟩,
  ⟨(some 9), .mov (.tmp 35), none⟩])
  .ret))))) }
theorem c127 : compFunc Tryz.prog mts Tryz.f127 = some a127 := by kernel_rfl
def a134 : AFunc := { ntmps := 11, results := [.tmp 2], body := (.seq (.ops [⟨(some 2), .mov (.const (.bool false)), none⟩])
  (.seq (.ops [⟨(some 3), .mov (.tmp 0), none⟩,
  ⟨(some 4), .call (.func 91) [(.tmp 3)], none⟩,
  ⟨(some 5), .mov (.tmp 4), none⟩,
  ⟨(some 6), .mov (.tmp 0), (some (5, true))⟩,
  ⟨(some 7), .indexAddrArr 14 4 (.global 0) (.tmp 6), (some (5, true))⟩,
  ⟨(some 8), .fieldAddr 3 (.tmp 7), (some (5, true))⟩,
  ⟨(some 9), .load1 (.tmp 8), (some (5, true))⟩,
  ⟨(some 10), .pick (.tmp 5) (.tmp 9) (.const (.bool false)), none⟩,
  ⟨(some 2), .mov (.tmp 10), none⟩])
  .ret)) }
theorem c134 : compFunc Tryz.prog mts Tryz.f134 = some a134 := by kernel_rfl
def a136 : AFunc := { ntmps := 19, results := [.tmp 4, .tmp 5], body := (.seq (.ops [⟨(some 3), .box 110 (.tmp 1), none⟩,
  ⟨(some 4), .mov (.const (.slice none 0 0)), none⟩,
  ⟨(some 5), .mov (.const (.int .i64 0)), none⟩])
  (.seq (.draw [⟨0, ⟨(some 8), .mov (.tmp 0), none⟩, []⟩,
  ⟨2, ⟨(some 10), .loadN 12 (.tmp 3), none⟩, []⟩,
  ⟨3, ⟨(some 11), .buildSlice 110 1 [(.bool false), (.int .i64 0), (.int .i64 0), (.string ⟨#[]⟩), (.string ⟨#[]⟩), (.string ⟨#[]⟩), (.int .i64 0), (.int .i64 0), (.bool false), (.string ⟨#[]⟩), (.string ⟨#[]⟩), (.int .i64 0)] [(0, 12, (.tmp 10))], none⟩, []⟩,
  ⟨1, ⟨(some 9), .call (.func 61) [(.tmp 8)], none⟩, [⟨(some 10), .loadN 12 (.tmp 3), none⟩]⟩,
  ⟨4, ⟨(some 12), .append 110 12 136 (.tmp 9) (.tmp 11), none⟩, []⟩,
  ⟨5, ⟨(some 6), .mov (.tmp 12), none⟩, []⟩])
  (.seq (.seq (.ops [⟨(some 13), .mov (.tmp 6), none⟩,
  ⟨(some 14), .call (.func 169) [(.tmp 13)], none⟩,
  ⟨(some 7), .mov (.tmp 14), none⟩])
  (.seq (.ops [⟨(some 15), .mov (.tmp 7), none⟩,
  ⟨(some 16), .bin .neq (.prim .int) (.tmp 15) (.const (.int .i64 0)), none⟩])
  (.cond (.tmp 16) (.seq (.ops [⟨(some 17), .mov (.tmp 7), none⟩,
  ⟨(some 4), .mov (.const (.slice none 0 0)), none⟩,
  ⟨(some 5), .mov (.tmp 17), none⟩])
  .ret)
  .skip)))
  (.seq (.ops [⟨(some 18), .mov (.tmp 6), none⟩,
  ⟨(some 4), .mov (.tmp 18), none⟩,
  ⟨(some 5), .mov (.const (.int .i64 0)), none⟩])
  .ret)))) }
theorem c136 : compFunc Tryz.prog mts Tryz.f136 = some a136 := by kernel_rfl
def a138 : AFunc := { ntmps := 12, results := [.tmp 4, .tmp 5], body := (.seq (.ops [⟨(some 4), .mov (.const .nilIface), none⟩,
  ⟨(some 5), .mov (.const (.int .i64 0)), none⟩])
  (.seq (.seq (.ops [⟨(some 6), .mov (.tmp 1), none⟩,
  ⟨(some 7), .bin .neq (.prim .int) (.tmp 6) (.const (.int .i64 0)), none⟩])
  (.cond (.tmp 7) (.seq (.ops [⟨(some 8), .mov (.tmp 1), none⟩,
  ⟨(some 4), .mov (.const .nilIface), none⟩,
  ⟨(some 5), .mov (.tmp 8), none⟩])
  .ret)
  .skip))
  (.seq (.ops [⟨(some 9), .mov (.tmp 0), none⟩,
  ⟨(some 10), .makeIface 244 (.tmp 9), none⟩,
  ⟨(some 11), .mov (.tmp 1), none⟩,
  ⟨(some 4), .mov (.tmp 10), none⟩,
  ⟨(some 5), .mov (.tmp 11), none⟩])
  .ret))) }
theorem c138 : compFunc Tryz.prog mts Tryz.f138 = some a138 := by kernel_rfl
def a139 : AFunc := { ntmps := 54, results := [.tmp 6, .tmp 7], body := (.seq (.ops [⟨(some 5), .box 23 (.tmp 2), none⟩,
  ⟨(some 6), .mov (.const (.pointer none)), none⟩,
  ⟨(some 7), .mov (.const (.int .i64 0)), none⟩])
  (.seq (.seq (.ops [⟨(some 10), .mov (.tmp 0), none⟩,
  ⟨(some 11), .mov (.tmp 1), none⟩,
  ⟨(some 12), .loadN 5 (.tmp 5), none⟩,
  ⟨(some 13), .call (.func 170) [(.tmp 10), (.tmp 11), (.tmp 12)], none⟩,
  ⟨(some 8), .mov (.tmp 13), none⟩])
  (.seq (.ops [⟨(some 14), .mov (.tmp 8), none⟩,
  ⟨(some 15), .bin .neq (.prim .int) (.tmp 14) (.const (.int .i64 0)), none⟩])
  (.cond (.tmp 15) (.seq (.ops [⟨(some 16), .mov (.tmp 8), none⟩,
  ⟨(some 6), .mov (.const (.pointer none)), none⟩,
  ⟨(some 7), .mov (.tmp 16), none⟩])
  .ret)
  .skip)))
  (.seq (.ops [⟨(some 17), .mov (.tmp 0), none⟩,
  ⟨(some 18), .mov (.tmp 1), none⟩,
  ⟨(some 19), .loadN 5 (.tmp 5), none⟩,
  ⟨(some 20), .call (.func 42) [(.tmp 19)], none⟩,
  ⟨(some 21), .build [(.pointer none), (.int .i64 0), (.int .i64 0), (.string ⟨#[]⟩), (.string ⟨#[]⟩), (.string ⟨#[]⟩), (.int .i64 0), .nilFunc, (.int .i64 0), (.int .i64 0), (.int .i64 0), (.int .i64 0), (.int .i64 0), (.int .i64 0), (.int .i64 0), (.int .i64 0), (.int .i64 0), (.int .i64 0), (.string ⟨#[]⟩), (.string ⟨#[]⟩), (.int .u32 0), (.slice none 0 0), (.int .i64 0), (.slice none 0 0), (.int .i64 0), (.int .i64 0), (.int .i64 0), .nilIface, .nilFunc, (.int .i64 0), (.bool false), (.string ⟨#[]⟩), (.string ⟨#[]⟩), (.int .i64 0), (.bool false)] [(0, 1, (.tmp 17)), (1, 1, (.tmp 18)), (2, 5, (.tmp 20))], none⟩,
  ⟨(some 22), .box 290 (.tmp 21), none⟩,
  ⟨(some 9), .mov (.tmp 22), none⟩])
  (.seq (.ops [⟨(some 23), .mov (.tmp 9), none⟩,
  ⟨(some 24), .mov (.tmp 9), none⟩,
  ⟨(some 25), .makeFunc 171 [(.tmp 24)] [], none⟩,
  ⟨(some 26), .nilCheck (.tmp 23), none⟩,
  ⟨(some 27), .fieldAddr 7 (.tmp 26), none⟩,
  ⟨none, .store 1 (.tmp 27) (.tmp 25), none⟩])
  (.seq (.seq (.ops [⟨(some 28), .fieldAddr 0 (.tmp 5), none⟩,
  ⟨(some 29), .load1 (.tmp 28), none⟩,
  ⟨(some 30), .bin .eql (.prim .int) (.tmp 29) (.const (.int .i64 7)), none⟩])
  (.cond (.tmp 30) (.ops [⟨(some 31), .mov (.tmp 9), none⟩,
  ⟨(some 32), .mov (.tmp 9), none⟩,
  ⟨(some 33), .makeFunc 172 [(.tmp 32)] [], none⟩,
  ⟨(some 34), .nilCheck (.tmp 31), none⟩,
  ⟨(some 35), .fieldAddr 7 (.tmp 34), none⟩,
  ⟨none, .store 1 (.tmp 35) (.tmp 33), none⟩])
  .skip))
  (.seq (.draw [⟨0, ⟨(some 37), .mov (.tmp 9), none⟩, []⟩,
  ⟨1, ⟨(some 38), .mov (.tmp 9), none⟩, []⟩,
  ⟨2, ⟨(some 39), .nilCheck (.tmp 38), none⟩, []⟩,
  ⟨3, ⟨(some 40), .fieldAddr 2 (.tmp 39), none⟩, []⟩,
  ⟨4, ⟨(some 41), .fieldAddr 4 (.tmp 40), none⟩, []⟩,
  ⟨5, ⟨(some 42), .load1 (.tmp 41), none⟩, []⟩,
  ⟨6, ⟨(some 43), .mov (.tmp 0), none⟩, []⟩,
  ⟨7, ⟨(some 44), .nilCheck (.tmp 43), none⟩, []⟩,
  ⟨8, ⟨(some 45), .fieldAddr 0 (.tmp 44), none⟩, []⟩,
  ⟨9, ⟨(some 46), .fieldAddr 3 (.tmp 45), none⟩, []⟩,
  ⟨10, ⟨(some 47), .load1 (.tmp 46), none⟩, []⟩,
  ⟨11, ⟨(some 48), .call (.func 173) [(.tmp 42), (.tmp 47)], none⟩, []⟩,
  ⟨12, ⟨(some 36), .mov (.tmp 48), none⟩, []⟩,
  ⟨13, ⟨(some 49), .extract (.tmp 36) 0, none⟩, []⟩,
  ⟨14, ⟨(some 50), .extract (.tmp 36) 1, none⟩, []⟩,
  ⟨15, ⟨(some 51), .nilCheck (.tmp 37), none⟩, []⟩,
  ⟨16, ⟨(some 52), .fieldAddr 12 (.tmp 51), none⟩, []⟩,
  ⟨17, ⟨none, .store 1 (.tmp 52) (.tmp 49), none⟩, []⟩])
  (.seq (.ops [⟨(some 53), .mov (.tmp 9), none⟩,
  ⟨(some 6), .mov (.tmp 53), none⟩,
  ⟨(some 7), .mov (.const (.int .i64 0)), none⟩])
  .ret))))))) }
theorem c139 : compFunc Tryz.prog mts Tryz.f139 = some a139 := by kernel_rfl
def a143 : AFunc := { ntmps := 27, results := [.tmp 2], body := (.seq (.ops [⟨(some 2), .mov (.const (.bool false)), none⟩])
  (.seq (.ops [⟨(some 3), .mov (.tmp 0), none⟩,
  ⟨(some 4), .bin .neq .ptr (.tmp 3) (.const (.pointer none)), none⟩,
  ⟨(some 5), .mov (.tmp 4), none⟩,
  ⟨(some 6), .mov (.tmp 0), (some (5, true))⟩,
  ⟨(some 7), .nilCheck (.tmp 6), (some (5, true))⟩,
  ⟨(some 8), .fieldAddr 5 (.tmp 7), (some (5, true))⟩,
  ⟨(some 9), .load1 (.tmp 8), (some (5, true))⟩,
  ⟨(some 10), .bin .neq .ptr (.tmp 9) (.const (.pointer none)), (some (5, true))⟩,
  ⟨(some 11), .pick (.tmp 5) (.tmp 10) (.const (.bool false)), none⟩,
  ⟨(some 12), .mov (.tmp 11), none⟩,
  ⟨(some 13), .mov (.tmp 0), (some (12, true))⟩,
  ⟨(some 14), .nilCheck (.tmp 13), (some (12, true))⟩,
  ⟨(some 15), .fieldAddr 6 (.tmp 14), (some (12, true))⟩,
  ⟨(some 16), .load1 (.tmp 15), (some (12, true))⟩,
  ⟨(some 17), .bin .neq .ptr (.tmp 16) (.const (.pointer none)), (some (12, true))⟩,
  ⟨(some 18), .pick (.tmp 12) (.tmp 17) (.const (.bool false)), none⟩,
  ⟨(some 19), .mov (.tmp 18), none⟩,
  ⟨(some 20), .mov (.tmp 0), (some (19, true))⟩,
  ⟨(some 21), .nilCheck (.tmp 20), (some (19, true))⟩,
  ⟨(some 22), .fieldAddr 0 (.tmp 21), (some (19, true))⟩,
  ⟨(some 23), .loadN 5 (.tmp 22), (some (19, true))⟩,
  ⟨(some 24), .call (.func 44) [(.tmp 23)], (some (19, true))⟩,
  ⟨(some 25), .bin .eql (.prim .int) (.tmp 24) (.const (.int .i64 0)), (some (19, true))⟩,
  ⟨(some 26), .pick (.tmp 19) (.tmp 25) (.const (.bool false)), none⟩,
  ⟨(some 2), .mov (.tmp 26), none⟩])
  .ret)) }
theorem c143 : compFunc Tryz.prog mts Tryz.f143 = some a143 := by kernel_rfl
def a144 : AFunc := { ntmps := 31, results := [.tmp 2, .tmp 3], body := (.seq (.ops [⟨(some 2), .mov (.const (.pointer none)), none⟩,
  ⟨(some 3), .mov (.const (.int .i64 0)), none⟩])
  (.seq (.ops [⟨(some 8), .makeMap, none⟩,
  ⟨(some 9), .mov (.tmp 0), none⟩,
  ⟨(some 10), .lenSl (.tmp 9), none⟩,
  ⟨(some 11), .build [(.slice none 0 0), (.map none), (.int .i64 0)] [(1, 1, (.tmp 8)), (2, 1, (.tmp 10))], none⟩,
  ⟨(some 12), .box 258 (.tmp 11), none⟩,
  ⟨(some 4), .mov (.tmp 12), none⟩])
  (.seq (.seq (.ops [⟨(some 13), .mov (.tmp 0), none⟩,
  ⟨(some 14), .lenSl (.tmp 13), none⟩,
  ⟨(some 15), .mov (.const (.int .i64 0)), none⟩])
  (.block 0 (.loop (.seq (.ops [⟨(some 16), .bin .lss (.prim .int) (.tmp 15) (.tmp 14), none⟩])
  (.seq (.cond (.tmp 16) .skip
  (.exit 0))
  (.seq (.block 1 (.seq (.ops [⟨(some 17), .mov (.tmp 15), none⟩,
  ⟨(some 18), .indexAddrSl 12 (.tmp 13) (.tmp 15), none⟩,
  ⟨(some 19), .loadN 12 (.tmp 18), none⟩,
  ⟨(some 6), .alloc 110 [(.bool false), (.int .i64 0), (.int .i64 0), (.string ⟨#[]⟩), (.string ⟨#[]⟩), (.string ⟨#[]⟩), (.int .i64 0), (.int .i64 0), (.bool false), (.string ⟨#[]⟩), (.string ⟨#[]⟩), (.int .i64 0)], none⟩,
  ⟨(some 5), .mov (.tmp 17), none⟩,
  ⟨none, .store 12 (.tmp 6) (.tmp 19), none⟩])
  (.seq (.ops [⟨(some 20), .mov (.tmp 4), none⟩,
  ⟨(some 21), .mov (.tmp 5), none⟩,
  ⟨(some 22), .loadN 12 (.tmp 6), none⟩,
  ⟨(some 23), .call (.func 176) [(.tmp 20), (.tmp 21), (.tmp 22)], none⟩,
  ⟨(some 7), .mov (.tmp 23), none⟩])
  (.seq (.ops [⟨(some 24), .mov (.tmp 7), none⟩,
  ⟨(some 25), .bin .neq (.prim .int) (.tmp 24) (.const (.int .i64 0)), none⟩])
  (.cond (.tmp 25) (.seq (.ops [⟨(some 26), .build [(.slice none 0 0), (.map none), (.int .i64 0)] [], none⟩,
  ⟨(some 27), .box 258 (.tmp 26), none⟩,
  ⟨(some 28), .mov (.tmp 7), none⟩,
  ⟨(some 2), .mov (.tmp 27), none⟩,
  ⟨(some 3), .mov (.tmp 28), none⟩])
  .ret)
  .skip)))))
  (.ops [⟨(some 29), .bin .add (.prim .int) (.tmp 15) (.const (.int .i64 1)), none⟩,
  ⟨(some 15), .mov (.tmp 29), none⟩])))))))
  (.seq (.ops [⟨(some 30), .mov (.tmp 4), none⟩,
  ⟨(some 2), .mov (.tmp 30), none⟩,
  ⟨(some 3), .mov (.const (.int .i64 0)), none⟩])
  .ret)))) }
theorem c144 : compFunc Tryz.prog mts Tryz.f144 = some a144 := by kernel_rfl
def a152 : AFunc := { ntmps := 26, results := [.tmp 4], body := (.seq (.ops [⟨(some 4), .mov (.const (.bool false)), none⟩])
  (.seq (.ops [⟨(some 5), .mov (.tmp 0), none⟩,
  ⟨(some 6), .bin .neq .ptr (.tmp 5) (.const (.pointer none)), none⟩,
  ⟨(some 7), .mov (.tmp 6), none⟩,
  ⟨(some 8), .mov (.tmp 0), (some (7, true))⟩,
  ⟨(some 9), .nilCheck (.tmp 8), (some (7, true))⟩,
  ⟨(some 10), .fieldAddr 2 (.tmp 9), (some (7, true))⟩,
  ⟨(some 11), .load1 (.tmp 10), (some (7, true))⟩,
  ⟨(some 12), .pick (.tmp 7) (.tmp 11) (.const (.bool false)), none⟩,
  ⟨(some 13), .mov (.tmp 12), none⟩,
  ⟨(some 14), .mov (.tmp 1), (some (13, true))⟩,
  ⟨(some 15), .bin .geq (.prim .int) (.tmp 14) (.const (.int .i64 0)), (some (13, true))⟩,
  ⟨(some 16), .pick (.tmp 13) (.tmp 15) (.const (.bool false)), none⟩,
  ⟨(some 17), .mov (.tmp 16), none⟩,
  ⟨(some 18), .mov (.tmp 1), (some (17, true))⟩,
  ⟨(some 19), .mov (.tmp 0), (some (17, true))⟩,
  ⟨(some 20), .nilCheck (.tmp 19), (some (17, true))⟩,
  ⟨(some 21), .fieldAddr 0 (.tmp 20), (some (17, true))⟩,
  ⟨(some 22), .load1 (.tmp 21), (some (17, true))⟩,
  ⟨(some 23), .lenSl (.tmp 22), (some (17, true))⟩,
  ⟨(some 24), .bin .lss (.prim .int) (.tmp 18) (.tmp 23), (some (17, true))⟩,
  ⟨(some 25), .pick (.tmp 17) (.tmp 24) (.const (.bool false)), none⟩,
  ⟨(some 4), .mov (.tmp 25), none⟩])
  .ret)) }
theorem c152 : compFunc Tryz.prog mts Tryz.f152 = some a152 := by kernel_rfl
def a169 : AFunc := { ntmps := 11, results := [.tmp 2], body := (.seq (.ops [⟨(some 2), .mov (.const (.int .i64 0)), none⟩])
  (.seq (.ops [⟨(some 6), .mov (.tmp 0), none⟩,
  ⟨(some 7), .call (.func 144) [(.tmp 6)], none⟩,
  ⟨(some 5), .mov (.tmp 7), none⟩,
  ⟨(some 8), .extract (.tmp 5) 0, none⟩,
  ⟨(some 9), .extract (.tmp 5) 1, none⟩,
  ⟨(some 3), .mov (.tmp 8), none⟩,
  ⟨(some 4), .mov (.tmp 9), none⟩])
  (.seq (.ops [⟨(some 10), .mov (.tmp 4), none⟩,
  ⟨(some 2), .mov (.tmp 10), none⟩])
  .ret))) }
theorem c169 : compFunc Tryz.prog mts Tryz.f169 = some a169 := by kernel_rfl
def a170 : AFunc := { ntmps := 83, results := [.tmp 6], body := (.seq (.ops [⟨(some 5), .box 23 (.tmp 2), none⟩,
  ⟨(some 6), .mov (.const (.int .i64 0)), none⟩])
  (.seq (.block 0 (.seq (.ops [⟨(some 11), .mov (.tmp 0), none⟩,
  ⟨(some 12), .bin .eql .ptr (.tmp 11) (.const (.pointer none)), none⟩,
  ⟨(some 13), .mov (.tmp 12), none⟩,
  ⟨(some 14), .mov (.tmp 0), (some (13, false))⟩,
  ⟨(some 15), .nilCheck (.tmp 14), (some (13, false))⟩,
  ⟨(some 16), .fieldAddr 5 (.tmp 15), (some (13, false))⟩,
  ⟨(some 17), .load1 (.tmp 16), (some (13, false))⟩,
  ⟨(some 18), .bin .eql .ptr (.tmp 17) (.const (.pointer none)), (some (13, false))⟩,
  ⟨(some 19), .pick (.tmp 13) (.const (.bool true)) (.tmp 18), none⟩,
  ⟨(some 20), .mov (.tmp 19), none⟩,
  ⟨(some 21), .mov (.tmp 0), (some (20, false))⟩,
  ⟨(some 22), .nilCheck (.tmp 21), (some (20, false))⟩,
  ⟨(some 23), .fieldAddr 6 (.tmp 22), (some (20, false))⟩,
  ⟨(some 24), .load1 (.tmp 23), (some (20, false))⟩,
  ⟨(some 25), .bin .eql .ptr (.tmp 24) (.const (.pointer none)), (some (20, false))⟩,
  ⟨(some 26), .pick (.tmp 20) (.const (.bool true)) (.tmp 25), none⟩,
  ⟨(some 27), .mov (.tmp 26), none⟩,
  ⟨(some 28), .mov (.tmp 0), (some (27, false))⟩,
  ⟨(some 29), .nilCheck (.tmp 28), (some (27, false))⟩,
  ⟨(some 30), .fieldAddr 0 (.tmp 29), (some (27, false))⟩,
  ⟨(some 31), .loadN 5 (.tmp 30), (some (27, false))⟩,
  ⟨(some 32), .call (.func 44) [(.tmp 31)], (some (27, false))⟩,
  ⟨(some 33), .bin .neq (.prim .int) (.tmp 32) (.const (.int .i64 0)), (some (27, false))⟩,
  ⟨(some 34), .pick (.tmp 27) (.const (.bool true)) (.tmp 33), none⟩,
  ⟨(some 10), .mov (.tmp 34), none⟩])
  (.cond (.tmp 10) (.seq (.ops [⟨(some 6), .mov (.const (.int .i64 4)), none⟩])
  .ret)
  (.seq (.ops [⟨(some 36), .mov (.tmp 1), none⟩,
  ⟨(some 37), .bin .lss (.prim .int) (.tmp 36) (.const (.int .i64 0)), none⟩,
  ⟨(some 38), .mov (.tmp 37), none⟩,
  ⟨(some 39), .mov (.tmp 1), (some (38, false))⟩,
  ⟨(some 40), .mov (.tmp 0), (some (38, false))⟩,
  ⟨(some 41), .nilCheck (.tmp 40), (some (38, false))⟩,
  ⟨(some 42), .fieldAddr 0 (.tmp 41), (some (38, false))⟩,
  ⟨(some 43), .fieldAddr 2 (.tmp 42), (some (38, false))⟩,
  ⟨(some 44), .load1 (.tmp 43), (some (38, false))⟩,
  ⟨(some 45), .bin .geq (.prim .int) (.tmp 39) (.tmp 44), (some (38, false))⟩,
  ⟨(some 46), .pick (.tmp 38) (.const (.bool true)) (.tmp 45), none⟩,
  ⟨(some 35), .mov (.tmp 46), none⟩])
  (.cond (.tmp 35) (.seq (.ops [⟨(some 6), .mov (.const (.int .i64 2)), none⟩])
  .ret)
  (.seq (.ops [⟨(some 48), .fieldAddr 0 (.tmp 5), none⟩,
  ⟨(some 49), .load1 (.tmp 48), none⟩,
  ⟨(some 50), .bin .lss (.prim .int) (.tmp 49) (.const (.int .i64 7)), none⟩,
  ⟨(some 51), .mov (.tmp 50), none⟩,
  ⟨(some 52), .fieldAddr 0 (.tmp 5), (some (51, false))⟩,
  ⟨(some 53), .load1 (.tmp 52), (some (51, false))⟩,
  ⟨(some 54), .bin .gtr (.prim .int) (.tmp 53) (.const (.int .i64 12)), (some (51, false))⟩,
  ⟨(some 55), .pick (.tmp 51) (.const (.bool true)) (.tmp 54), none⟩,
  ⟨(some 47), .mov (.tmp 55), none⟩])
  (.cond (.tmp 47) (.seq (.ops [⟨(some 6), .mov (.const (.int .i64 11)), none⟩])
  .ret)
  .skip)))))))
  (.seq (.seq (.draw [⟨0, ⟨(some 56), .mov (.tmp 0), none⟩, []⟩,
  ⟨1, ⟨(some 57), .nilCheck (.tmp 56), none⟩, []⟩,
  ⟨2, ⟨(some 58), .fieldAddr 0 (.tmp 57), none⟩, []⟩,
  ⟨3, ⟨(some 59), .loadN 5 (.tmp 58), none⟩, []⟩,
  ⟨4, ⟨(some 60), .loadN 5 (.tmp 5), none⟩, []⟩,
  ⟨5, ⟨(some 61), .call (.func 90) [(.tmp 59), (.tmp 60)], none⟩, []⟩,
  ⟨6, ⟨(some 7), .mov (.tmp 61), none⟩, []⟩])
  (.seq (.ops [⟨(some 62), .mov (.tmp 7), none⟩,
  ⟨(some 63), .bin .neq (.prim .int) (.tmp 62) (.const (.int .i64 0)), none⟩])
  (.cond (.tmp 63) (.seq (.ops [⟨(some 64), .mov (.tmp 7), none⟩,
  ⟨(some 6), .mov (.tmp 64), none⟩])
  .ret)
  .skip)))
  (.seq (.seq (.draw [⟨0, ⟨(some 66), .fieldAddr 4 (.tmp 5), none⟩, []⟩,
  ⟨1, ⟨(some 67), .load1 (.tmp 66), none⟩, []⟩,
  ⟨2, ⟨(some 68), .mov (.tmp 0), none⟩, []⟩,
  ⟨3, ⟨(some 69), .nilCheck (.tmp 68), none⟩, []⟩,
  ⟨4, ⟨(some 70), .fieldAddr 0 (.tmp 69), none⟩, []⟩,
  ⟨5, ⟨(some 71), .fieldAddr 3 (.tmp 70), none⟩, []⟩,
  ⟨6, ⟨(some 72), .load1 (.tmp 71), none⟩, []⟩,
  ⟨7, ⟨(some 73), .call (.func 173) [(.tmp 67), (.tmp 72)], none⟩, []⟩,
  ⟨8, ⟨(some 65), .mov (.tmp 73), none⟩, []⟩,
  ⟨9, ⟨(some 74), .extract (.tmp 65) 0, none⟩, []⟩,
  ⟨10, ⟨(some 75), .extract (.tmp 65) 1, none⟩, []⟩,
  ⟨11, ⟨(some 8), .mov (.tmp 74), none⟩, []⟩,
  ⟨12, ⟨(some 9), .mov (.tmp 75), none⟩, []⟩])
  (.seq (.ops [⟨(some 76), .fieldAddr 0 (.tmp 5), none⟩,
  ⟨(some 77), .load1 (.tmp 76), none⟩,
  ⟨(some 78), .bin .neq (.prim .int) (.tmp 77) (.const (.int .i64 7)), none⟩,
  ⟨(some 79), .mov (.tmp 78), none⟩,
  ⟨(some 80), .mov (.tmp 9), (some (79, true))⟩,
  ⟨(some 81), .un .not (.tmp 80), (some (79, true))⟩,
  ⟨(some 82), .pick (.tmp 79) (.tmp 81) (.const (.bool false)), none⟩])
  (.cond (.tmp 82) (.seq (.ops [⟨(some 6), .mov (.const (.int .i64 10)), none⟩])
  .ret)
  .skip)))
  (.seq (.ops [⟨(some 6), .mov (.const (.int .i64 0)), none⟩])
  .ret))))) }
theorem c170 : compFunc Tryz.prog mts Tryz.f170 = some a170 := by kernel_rfl
def a172 : AFunc := { ntmps := 25, results := [], body := (.seq (.ops [⟨(some 5), .mov (.tmp 0), none⟩,
  ⟨(some 6), .nilCheck (.tmp 5), none⟩,
  ⟨(some 7), .fieldAddr 0 (.tmp 6), none⟩,
  ⟨(some 8), .load1 (.tmp 7), none⟩,
  ⟨(some 9), .nilCheck (.tmp 8), none⟩,
  ⟨(some 10), .fieldAddr 5 (.tmp 9), none⟩,
  ⟨(some 11), .load1 (.tmp 10), none⟩,
  ⟨(some 12), .call (.func 30) [(.tmp 11), (.const (.int .i64 1))], none⟩,
  ⟨(some 4), .mov (.tmp 12), none⟩,
  ⟨(some 13), .extract (.tmp 4) 0, none⟩,
  ⟨(some 14), .extract (.tmp 4) 1, none⟩,
  ⟨(some 2), .alloc 75 [(.int .i64 0), (.int .i64 0), (.int .i64 0)], none⟩,
  ⟨none, .store 3 (.tmp 2) (.tmp 13), none⟩,
  ⟨(some 3), .mov (.tmp 14), none⟩])
  (.seq (.ops [⟨(some 15), .mov (.tmp 0), none⟩,
  ⟨(some 16), .fieldAddr 1 (.tmp 2), none⟩,
  ⟨(some 17), .load1 (.tmp 16), none⟩,
  ⟨(some 18), .nilCheck (.tmp 15), none⟩,
  ⟨(some 19), .fieldAddr 8 (.tmp 18), none⟩,
  ⟨none, .store 1 (.tmp 19) (.tmp 17), none⟩])
  (.ops [⟨(some 20), .mov (.tmp 0), none⟩,
  ⟨(some 21), .mov (.tmp 0), none⟩,
  ⟨(some 22), .makeFunc 202 [(.tmp 21)] [], none⟩,
  ⟨(some 23), .nilCheck (.tmp 20), none⟩,
  ⟨(some 24), .fieldAddr 7 (.tmp 23), none⟩,
  ⟨none, .store 1 (.tmp 24) (.tmp 22), none⟩]))) }
theorem c172 : compFunc Tryz.prog mts Tryz.f172 = some a172 := by kernel_rfl
def a173 : AFunc := { ntmps := 16, results := [.tmp 4, .tmp 5], body := (.seq (.ops [⟨(some 4), .mov (.const (.int .i64 0)), none⟩,
  ⟨(some 5), .mov (.const (.bool false)), none⟩])
  (.seq (.seq (.ops [⟨(some 6), .mov (.tmp 0), none⟩,
  ⟨(some 7), .bin .lss (.prim .int) (.tmp 6) (.const (.int .i64 0)), none⟩,
  ⟨(some 8), .mov (.tmp 7), none⟩,
  ⟨(some 9), .mov (.tmp 1), (some (8, false))⟩,
  ⟨(some 10), .call (.func 100) [(.tmp 9)], (some (8, false))⟩,
  ⟨(some 11), .un .not (.tmp 10), (some (8, false))⟩,
  ⟨(some 12), .pick (.tmp 8) (.const (.bool true)) (.tmp 11), none⟩])
  (.cond (.tmp 12) (.seq (.ops [⟨(some 4), .mov (.const (.int .i64 0)), none⟩,
  ⟨(some 5), .mov (.const (.bool false)), none⟩])
  .ret)
  .skip))
  (.seq (.ops [⟨(some 13), .mov (.tmp 0), none⟩,
  ⟨(some 14), .mov (.tmp 1), none⟩,
  ⟨(some 15), .bin .rem (.prim .int) (.tmp 13) (.tmp 14), none⟩,
  ⟨(some 4), .mov (.tmp 15), none⟩,
  ⟨(some 5), .mov (.const (.bool true)), none⟩])
  .ret))) }
theorem c173 : compFunc Tryz.prog mts Tryz.f173 = some a173 := by kernel_rfl
def a176 : AFunc := { ntmps := 123, results := [.tmp 6], body := (.seq (.ops [⟨(some 5), .box 110 (.tmp 2), none⟩,
  ⟨(some 6), .mov (.const (.int .i64 0)), none⟩])
  (.seq (.seq (.ops [⟨(some 9), .fieldAddr 1 (.tmp 5), none⟩,
  ⟨(some 10), .load1 (.tmp 9), none⟩,
  ⟨(some 11), .bin .lss (.prim .int) (.tmp 10) (.const (.int .i64 0)), none⟩,
  ⟨(some 12), .mov (.tmp 11), none⟩,
  ⟨(some 13), .fieldAddr 1 (.tmp 5), (some (12, false))⟩,
  ⟨(some 14), .load1 (.tmp 13), (some (12, false))⟩,
  ⟨(some 15), .bin .geq (.prim .int) (.tmp 14) (.const (.int .i64 64)), (some (12, false))⟩,
  ⟨(some 16), .pick (.tmp 12) (.const (.bool true)) (.tmp 15), none⟩])
  (.cond (.tmp 16) (.seq (.ops [⟨(some 6), .mov (.const (.int .i64 2)), none⟩])
  .ret)
  .skip))
  (.seq (.draw [⟨0, ⟨(some 18), .mov (.tmp 0), none⟩, []⟩,
  ⟨1, ⟨(some 19), .nilCheck (.tmp 18), none⟩, []⟩,
  ⟨2, ⟨(some 20), .fieldAddr 1 (.tmp 19), none⟩, []⟩,
  ⟨3, ⟨(some 21), .load1 (.tmp 20), none⟩, []⟩,
  ⟨4, ⟨(some 22), .fieldAddr 1 (.tmp 5), none⟩, []⟩,
  ⟨5, ⟨(some 23), .load1 (.tmp 22), none⟩, []⟩,
  ⟨6, ⟨(some 24), .lookup .int (.int .i64 0) true (.tmp 21) (.tmp 23), none⟩, []⟩,
  ⟨7, ⟨(some 17), .mov (.tmp 24), none⟩, []⟩,
  ⟨8, ⟨(some 25), .extract (.tmp 17) 0, none⟩, []⟩,
  ⟨9, ⟨(some 26), .extract (.tmp 17) 1, none⟩, []⟩,
  ⟨10, ⟨(some 7), .mov (.tmp 25), none⟩, []⟩,
  ⟨11, ⟨(some 8), .mov (.tmp 26), none⟩, []⟩])
  (.seq (.block 0 (.seq (.draw [⟨0, ⟨(some 58), .mov (.tmp 8), none⟩, []⟩,
  ⟨1, ⟨(some 59), .fieldAddr 0 (.tmp 5), none⟩, []⟩,
  ⟨2, ⟨(some 60), .load1 (.tmp 59), none⟩, []⟩,
  ⟨3, ⟨(some 61), .bin .neq (.prim .bool) (.tmp 58) (.tmp 60), none⟩, []⟩,
  ⟨4, ⟨(some 62), .mov (.tmp 61), none⟩, []⟩,
  ⟨5, ⟨(some 63), .fieldAddr 0 (.tmp 5), (some (62, false))⟩, []⟩,
  ⟨6, ⟨(some 64), .load1 (.tmp 63), (some (62, false))⟩, []⟩,
  ⟨7, ⟨(some 65), .un .not (.tmp 64), (some (62, false))⟩, []⟩,
  ⟨8, ⟨(some 66), .mov (.tmp 65), (some (62, false))⟩, []⟩,
  ⟨9, ⟨(some 67), .fieldAddr 7 (.tmp 5), (some (66, true))⟩, []⟩,
  ⟨10, ⟨(some 68), .loadN 5 (.tmp 67), (some (66, true))⟩, []⟩,
  ⟨11, ⟨(some 69), .build [(.int .i64 0), (.bool false), (.string ⟨#[]⟩), (.string ⟨#[]⟩), (.int .i64 0)] [], (some (66, true))⟩, []⟩,
  ⟨12, ⟨(some 70), .bin .neq (.agg [.int, .bool, .str, .str, .int]) (.tmp 68) (.tmp 69), (some (66, true))⟩, []⟩,
  ⟨13, ⟨(some 71), .pick (.tmp 66) (.tmp 70) (.const (.bool false)), (some (62, false))⟩, []⟩,
  ⟨14, ⟨(some 72), .pick (.tmp 62) (.const (.bool true)) (.tmp 71), none⟩, []⟩,
  ⟨15, ⟨(some 73), .mov (.tmp 72), none⟩, []⟩,
  ⟨16, ⟨(some 74), .fieldAddr 0 (.tmp 5), (some (73, false))⟩, []⟩,
  ⟨17, ⟨(some 75), .load1 (.tmp 74), (some (73, false))⟩, []⟩,
  ⟨18, ⟨(some 76), .mov (.tmp 75), (some (73, false))⟩, []⟩,
  ⟨19, ⟨(some 77), .mov (.tmp 0), (some (76, true))⟩, []⟩,
  ⟨20, ⟨(some 78), .nilCheck (.tmp 77), (some (76, true))⟩, []⟩,
  ⟨21, ⟨(some 79), .fieldAddr 0 (.tmp 78), (some (76, true))⟩, []⟩,
  ⟨22, ⟨(some 80), .load1 (.tmp 79), (some (76, true))⟩, []⟩,
  ⟨23, ⟨(some 81), .mov (.tmp 7), (some (76, true))⟩, []⟩,
  ⟨24, ⟨(some 82), .indexAddrSl 14 (.tmp 80) (.tmp 81), (some (76, true))⟩, []⟩,
  ⟨25, ⟨(some 83), .fieldAddr 1 (.tmp 82), (some (76, true))⟩, []⟩,
  ⟨26, ⟨(some 84), .loadN 5 (.tmp 83), (some (76, true))⟩, []⟩,
  ⟨27, ⟨(some 85), .fieldAddr 2 (.tmp 5), (some (76, true))⟩, []⟩,
  ⟨28, ⟨(some 86), .loadN 5 (.tmp 85), (some (76, true))⟩, []⟩,
  ⟨29, ⟨(some 87), .bin .neq (.agg [.int, .str, .str, .str, .int]) (.tmp 84) (.tmp 86), (some (76, true))⟩, []⟩,
  ⟨30, ⟨(some 88), .pick (.tmp 76) (.tmp 87) (.const (.bool false)), (some (73, false))⟩, []⟩,
  ⟨31, ⟨(some 89), .pick (.tmp 73) (.const (.bool true)) (.tmp 88), none⟩, []⟩,
  ⟨32, ⟨(some 57), .mov (.tmp 89), none⟩, []⟩])
  (.cond (.tmp 57) (.seq (.ops [⟨(some 6), .mov (.const (.int .i64 4)), none⟩])
  .ret)
  (.seq (.ops [⟨(some 91), .fieldAddr 0 (.tmp 5), none⟩,
  ⟨(some 92), .load1 (.tmp 91), none⟩,
  ⟨(some 90), .mov (.tmp 92), none⟩])
  (.cond (.tmp 90) (.seq (.draw [⟨0, ⟨(some 93), .mov (.tmp 0), none⟩, []⟩,
  ⟨1, ⟨(some 94), .nilCheck (.tmp 93), none⟩, []⟩,
  ⟨2, ⟨(some 95), .fieldAddr 0 (.tmp 94), none⟩, []⟩,
  ⟨3, ⟨(some 96), .load1 (.tmp 95), none⟩, []⟩,
  ⟨4, ⟨(some 97), .mov (.tmp 7), none⟩, []⟩,
  ⟨5, ⟨(some 98), .mov (.tmp 0), none⟩, []⟩,
  ⟨6, ⟨(some 99), .nilCheck (.tmp 98), none⟩, []⟩,
  ⟨7, ⟨(some 100), .fieldAddr 0 (.tmp 99), none⟩, []⟩,
  ⟨8, ⟨(some 101), .load1 (.tmp 100), none⟩, []⟩,
  ⟨9, ⟨(some 102), .mov (.tmp 7), none⟩, []⟩,
  ⟨10, ⟨(some 103), .mov (.tmp 0), none⟩, []⟩,
  ⟨11, ⟨(some 104), .nilCheck (.tmp 103), none⟩, []⟩,
  ⟨12, ⟨(some 105), .fieldAddr 0 (.tmp 104), none⟩, []⟩,
  ⟨13, ⟨(some 106), .load1 (.tmp 105), none⟩, []⟩,
  ⟨14, ⟨(some 107), .mov (.tmp 7), none⟩, []⟩,
  ⟨15, ⟨(some 108), .fieldAddr 7 (.tmp 5), none⟩, []⟩,
  ⟨16, ⟨(some 109), .loadN 5 (.tmp 108), none⟩, []⟩,
  ⟨17, ⟨(some 110), .mov (.tmp 1), none⟩, []⟩,
  ⟨18, ⟨(some 111), .indexAddrSl 14 (.tmp 96) (.tmp 97), none⟩, []⟩,
  ⟨19, ⟨(some 112), .fieldAddr 6 (.tmp 111), none⟩, []⟩,
  ⟨20, ⟨none, .store 5 (.tmp 112) (.tmp 109), none⟩, []⟩,
  ⟨21, ⟨(some 113), .indexAddrSl 14 (.tmp 101) (.tmp 102), none⟩, []⟩,
  ⟨22, ⟨(some 114), .fieldAddr 11 (.tmp 113), none⟩, []⟩,
  ⟨23, ⟨none, .store 1 (.tmp 114) (.const (.bool true)), none⟩, []⟩,
  ⟨24, ⟨(some 115), .indexAddrSl 14 (.tmp 106) (.tmp 107), none⟩, []⟩,
  ⟨25, ⟨(some 116), .fieldAddr 13 (.tmp 115), none⟩, []⟩,
  ⟨26, ⟨none, .store 1 (.tmp 116) (.tmp 110), none⟩, []⟩])
  (.draw [⟨0, ⟨(some 117), .mov (.tmp 0), none⟩, []⟩,
  ⟨1, ⟨(some 118), .nilCheck (.tmp 117), none⟩, []⟩,
  ⟨2, ⟨(some 119), .fieldAddr 1 (.tmp 118), none⟩, []⟩,
  ⟨3, ⟨(some 120), .load1 (.tmp 119), none⟩, []⟩,
  ⟨4, ⟨(some 121), .fieldAddr 1 (.tmp 5), none⟩, []⟩,
  ⟨5, ⟨(some 122), .load1 (.tmp 121), none⟩, []⟩,
  ⟨6, ⟨none, .delete .int (.tmp 120) (.tmp 122), none⟩, []⟩]))
  (.seq (.draw [⟨0, ⟨(some 27), .mov (.tmp 0), none⟩, []⟩,
  ⟨1, ⟨(some 28), .nilCheck (.tmp 27), none⟩, []⟩,
  ⟨2, ⟨(some 29), .fieldAddr 1 (.tmp 28), none⟩, []⟩,
  ⟨3, ⟨(some 30), .load1 (.tmp 29), none⟩, []⟩,
  ⟨4, ⟨(some 31), .fieldAddr 1 (.tmp 5), none⟩, []⟩,
  ⟨5, ⟨(some 32), .load1 (.tmp 31), none⟩, []⟩,
  ⟨6, ⟨(some 33), .mov (.tmp 0), none⟩, []⟩,
  ⟨7, ⟨(some 34), .nilCheck (.tmp 33), none⟩, []⟩,
  ⟨8, ⟨(some 35), .fieldAddr 0 (.tmp 34), none⟩, []⟩,
  ⟨9, ⟨(some 36), .load1 (.tmp 35), none⟩, []⟩,
  ⟨10, ⟨(some 37), .lenSl (.tmp 36), none⟩, []⟩,
  ⟨11, ⟨none, .mapUpdate .int (.tmp 30) (.tmp 32) (.tmp 37), none⟩, []⟩])
  (.draw [⟨0, ⟨(some 38), .mov (.tmp 0), none⟩, []⟩,
  ⟨1, ⟨(some 39), .mov (.tmp 0), none⟩, []⟩,
  ⟨2, ⟨(some 40), .nilCheck (.tmp 39), none⟩, []⟩,
  ⟨3, ⟨(some 41), .fieldAddr 0 (.tmp 40), none⟩, []⟩,
  ⟨4, ⟨(some 42), .load1 (.tmp 41), none⟩, []⟩,
  ⟨5, ⟨(some 43), .fieldAddr 1 (.tmp 5), none⟩, []⟩,
  ⟨6, ⟨(some 44), .load1 (.tmp 43), none⟩, []⟩,
  ⟨7, ⟨(some 45), .fieldAddr 2 (.tmp 5), none⟩, []⟩,
  ⟨8, ⟨(some 46), .loadN 5 (.tmp 45), none⟩, []⟩,
  ⟨9, ⟨(some 47), .mov (.tmp 1), none⟩, []⟩,
  ⟨10, ⟨(some 48), .mov (.tmp 0), none⟩, []⟩,
  ⟨11, ⟨(some 49), .nilCheck (.tmp 48), none⟩, []⟩,
  ⟨12, ⟨(some 50), .fieldAddr 2 (.tmp 49), none⟩, []⟩,
  ⟨13, ⟨(some 51), .load1 (.tmp 50), none⟩, []⟩,
  ⟨14, ⟨(some 52), .build [(.int .i64 0), (.int .i64 0), (.string ⟨#[]⟩), (.string ⟨#[]⟩), (.string ⟨#[]⟩), (.int .i64 0), (.int .i64 0), (.bool false), (.string ⟨#[]⟩), (.string ⟨#[]⟩), (.int .i64 0), (.bool false), (.int .i64 0), (.int .i64 0)] [(0, 1, (.tmp 44)), (1, 5, (.tmp 46)), (12, 1, (.tmp 47)), (13, 1, (.tmp 51))], none⟩, []⟩,
  ⟨15, ⟨(some 53), .buildSlice 260 1 [(.int .i64 0), (.int .i64 0), (.string ⟨#[]⟩), (.string ⟨#[]⟩), (.string ⟨#[]⟩), (.int .i64 0), (.int .i64 0), (.bool false), (.string ⟨#[]⟩), (.string ⟨#[]⟩), (.int .i64 0), (.bool false), (.int .i64 0), (.int .i64 0)] [(0, 14, (.tmp 52))], none⟩, []⟩,
  ⟨16, ⟨(some 54), .append 260 14 152 (.tmp 42) (.tmp 53), none⟩, []⟩,
  ⟨17, ⟨(some 55), .nilCheck (.tmp 38), none⟩, []⟩,
  ⟨18, ⟨(some 56), .fieldAddr 0 (.tmp 55), none⟩, []⟩,
  ⟨19, ⟨none, .store 1 (.tmp 56) (.tmp 54), none⟩, []⟩])))))))
  (.seq (.ops [⟨(some 6), .mov (.const (.int .i64 0)), none⟩])
  .ret))))) }
theorem c176 : compFunc Tryz.prog mts Tryz.f176 = some a176 := by kernel_rfl
def a198 : AFunc := { ntmps := 15, results := [.tmp 2], body := (.seq (.ops [⟨(some 2), .mov (.const (.int .i64 0)), none⟩])
  (.seq (.draw [⟨0, ⟨(some 3), .mov (.tmp 0), none⟩, []⟩,
  ⟨1, ⟨(some 4), .nilCheck (.tmp 3), none⟩, []⟩,
  ⟨2, ⟨(some 5), .fieldAddr 0 (.tmp 4), none⟩, []⟩,
  ⟨3, ⟨(some 6), .load1 (.tmp 5), none⟩, []⟩,
  ⟨4, ⟨(some 7), .nilCheck (.tmp 6), none⟩, []⟩,
  ⟨5, ⟨(some 8), .fieldAddr 0 (.tmp 7), none⟩, []⟩,
  ⟨6, ⟨(some 9), .loadN 5 (.tmp 8), none⟩, []⟩,
  ⟨7, ⟨(some 10), .mov (.tmp 0), none⟩, []⟩,
  ⟨8, ⟨(some 11), .nilCheck (.tmp 10), none⟩, []⟩,
  ⟨9, ⟨(some 12), .fieldAddr 12 (.tmp 11), none⟩, []⟩,
  ⟨10, ⟨(some 13), .load1 (.tmp 12), none⟩, []⟩,
  ⟨11, ⟨(some 14), .call (.func 55) [(.tmp 9), (.tmp 13)], none⟩, []⟩,
  ⟨12, ⟨(some 2), .mov (.tmp 14), none⟩, []⟩])
  .ret)) }
theorem c198 : compFunc Tryz.prog mts Tryz.f198 = some a198 := by kernel_rfl
def a199 : AFunc := { ntmps := 30, results := [.tmp 2, .tmp 3], body := (.seq (.ops [⟨(some 1), .box 75 (.tmp 0), none⟩,
  ⟨(some 2), .mov (.const (.int .i64 0)), none⟩,
  ⟨(some 3), .mov (.const (.int .i64 0)), none⟩])
  (.seq (.block 0 (.seq (.ops [⟨(some 5), .fieldAddr 2 (.tmp 1), none⟩,
  ⟨(some 6), .load1 (.tmp 5), none⟩,
  ⟨(some 7), .bin .lss (.prim .int) (.tmp 6) (.const (.int .i64 (-16))), none⟩,
  ⟨(some 4), .mov (.tmp 7), none⟩])
  (.cond (.tmp 4) .skip
  (.seq (.ops [⟨(some 9), .fieldAddr 1 (.tmp 1), none⟩,
  ⟨(some 10), .load1 (.tmp 9), none⟩,
  ⟨(some 11), .bin .eql (.prim .int) (.tmp 10) (.const (.int .i64 (-1))), none⟩,
  ⟨(some 12), .mov (.tmp 11), none⟩,
  ⟨(some 13), .fieldAddr 0 (.tmp 1), (some (12, true))⟩,
  ⟨(some 14), .load1 (.tmp 13), (some (12, true))⟩,
  ⟨(some 15), .bin .eql (.prim .int) (.tmp 14) (.const (.int .i64 0)), (some (12, true))⟩,
  ⟨(some 16), .pick (.tmp 12) (.tmp 15) (.const (.bool false)), none⟩,
  ⟨(some 8), .mov (.tmp 16), none⟩])
  (.cond (.tmp 8) (.seq (.ops [⟨(some 2), .mov (.const (.int .i64 1)), none⟩,
  ⟨(some 3), .mov (.const (.int .i64 0)), none⟩])
  .ret)
  (.seq (.ops [⟨(some 18), .fieldAddr 1 (.tmp 1), none⟩,
  ⟨(some 19), .load1 (.tmp 18), none⟩,
  ⟨(some 20), .bin .eql (.prim .int) (.tmp 19) (.const (.int .i64 (-2))), none⟩,
  ⟨(some 21), .mov (.tmp 20), none⟩,
  ⟨(some 22), .fieldAddr 0 (.tmp 1), (some (21, true))⟩,
  ⟨(some 23), .load1 (.tmp 22), (some (21, true))⟩,
  ⟨(some 24), .bin .eql (.prim .int) (.tmp 23) (.const (.int .i64 0)), (some (21, true))⟩,
  ⟨(some 25), .pick (.tmp 21) (.tmp 24) (.const (.bool false)), none⟩,
  ⟨(some 17), .mov (.tmp 25), none⟩])
  (.cond (.tmp 17) (.seq (.ops [⟨(some 2), .mov (.const (.int .i64 2)), none⟩,
  ⟨(some 3), .mov (.const (.int .i64 0)), none⟩])
  .ret)
  (.seq (.ops [⟨(some 27), .fieldAddr 1 (.tmp 1), none⟩,
  ⟨(some 28), .load1 (.tmp 27), none⟩,
  ⟨(some 29), .bin .geq (.prim .int) (.tmp 28) (.const (.int .i64 0)), none⟩,
  ⟨(some 26), .mov (.tmp 29), none⟩])
  (.cond (.tmp 26) (.seq (.ops [⟨(some 2), .mov (.const (.int .i64 3)), none⟩,
  ⟨(some 3), .mov (.const (.int .i64 0)), none⟩])
  .ret)
  .skip)))))))))
  (.seq (.ops [⟨(some 2), .mov (.const (.int .i64 0)), none⟩,
  ⟨(some 3), .mov (.const (.int .i64 4)), none⟩])
  .ret))) }
theorem c199 : compFunc Tryz.prog mts Tryz.f199 = some a199 := by kernel_rfl
def a202 : AFunc := { ntmps := 45, results := [], body := (.seq (.ops [⟨(some 5), .mov (.tmp 0), none⟩,
  ⟨(some 6), .nilCheck (.tmp 5), none⟩,
  ⟨(some 7), .fieldAddr 8 (.tmp 6), none⟩,
  ⟨(some 8), .load1 (.tmp 7), none⟩,
  ⟨(some 9), .call (.func 31) [(.tmp 8), (.const (.int .i64 (-1)))], none⟩,
  ⟨(some 4), .mov (.tmp 9), none⟩,
  ⟨(some 10), .extract (.tmp 4) 0, none⟩,
  ⟨(some 11), .extract (.tmp 4) 1, none⟩,
  ⟨(some 2), .alloc 75 [(.int .i64 0), (.int .i64 0), (.int .i64 0)], none⟩,
  ⟨none, .store 3 (.tmp 2) (.tmp 10), none⟩,
  ⟨(some 3), .mov (.tmp 11), none⟩])
  (.seq (.draw [⟨0, ⟨(some 12), .mov (.tmp 0), none⟩, []⟩,
  ⟨1, ⟨(some 13), .nilCheck (.tmp 12), none⟩, []⟩,
  ⟨2, ⟨(some 14), .fieldAddr 0 (.tmp 13), none⟩, []⟩,
  ⟨3, ⟨(some 15), .load1 (.tmp 14), none⟩, []⟩,
  ⟨4, ⟨(some 16), .nilCheck (.tmp 15), none⟩, []⟩,
  ⟨5, ⟨(some 17), .fieldAddr 5 (.tmp 16), none⟩, []⟩,
  ⟨6, ⟨(some 18), .load1 (.tmp 17), none⟩, []⟩,
  ⟨7, ⟨(some 19), .mov (.tmp 0), none⟩, []⟩,
  ⟨8, ⟨(some 20), .nilCheck (.tmp 19), none⟩, []⟩,
  ⟨9, ⟨(some 21), .fieldAddr 1 (.tmp 20), none⟩, []⟩,
  ⟨10, ⟨(some 22), .load1 (.tmp 21), none⟩, []⟩,
  ⟨12, ⟨(some 24), .loadN 3 (.tmp 2), none⟩, []⟩,
  ⟨11, ⟨(some 23), .call (.func 33) [(.tmp 22)], none⟩, [⟨(some 15), .load1 (.tmp 14), none⟩, ⟨(some 18), .load1 (.tmp 17), none⟩, ⟨(some 24), .loadN 3 (.tmp 2), none⟩]⟩,
  ⟨13, ⟨(some 25), .call (.func 32) [(.tmp 18), (.tmp 23), (.tmp 24)], none⟩, []⟩])
  (.seq (.ops [⟨(some 26), .mov (.tmp 0), none⟩,
  ⟨(some 27), .nilCheck (.tmp 26), none⟩,
  ⟨(some 28), .fieldAddr 12 (.tmp 27), none⟩,
  ⟨none, .store 1 (.tmp 28) (.const (.int .i64 0)), none⟩])
  (.seq (.seq (.ops [⟨(some 29), .mov (.tmp 0), none⟩,
  ⟨(some 30), .nilCheck (.tmp 29), none⟩,
  ⟨(some 31), .fieldAddr 0 (.tmp 30), none⟩,
  ⟨(some 32), .load1 (.tmp 31), none⟩,
  ⟨(some 33), .nilCheck (.tmp 32), none⟩,
  ⟨(some 34), .fieldAddr 0 (.tmp 33), none⟩,
  ⟨(some 35), .fieldAddr 0 (.tmp 34), none⟩,
  ⟨(some 36), .load1 (.tmp 35), none⟩,
  ⟨(some 37), .bin .neq (.prim .int) (.tmp 36) (.const (.int .i64 3)), none⟩])
  (.cond (.tmp 37) (.seq (.ops [⟨(some 38), .mov (.tmp 0), none⟩,
  ⟨(some 39), .mov (.tmp 0), none⟩,
  ⟨(some 40), .makeFunc 228 [(.tmp 39)] [], none⟩,
  ⟨(some 41), .nilCheck (.tmp 38), none⟩,
  ⟨(some 42), .fieldAddr 7 (.tmp 41), none⟩,
  ⟨none, .store 1 (.tmp 42) (.tmp 40), none⟩])
  .ret)
  .skip))
  (.ops [⟨(some 43), .mov (.tmp 0), none⟩,
  ⟨(some 44), .call (.func 229) [(.tmp 43)], none⟩]))))) }
theorem c202 : compFunc Tryz.prog mts Tryz.f202 = some a202 := by kernel_rfl
def a228 : AFunc := { ntmps := 18, results := [], body := (.seq (.ops [⟨(some 3), .mov (.tmp 0), none⟩,
  ⟨(some 4), .mov (.tmp 0), none⟩,
  ⟨(some 5), .nilCheck (.tmp 4), none⟩,
  ⟨(some 6), .fieldAddr 0 (.tmp 5), none⟩,
  ⟨(some 7), .load1 (.tmp 6), none⟩,
  ⟨(some 8), .nilCheck (.tmp 7), none⟩,
  ⟨(some 9), .fieldAddr 5 (.tmp 8), none⟩,
  ⟨(some 10), .load1 (.tmp 9), none⟩,
  ⟨(some 11), .call (.func 30) [(.tmp 10), (.const (.int .i64 0))], none⟩,
  ⟨(some 2), .mov (.tmp 11), none⟩,
  ⟨(some 12), .extract (.tmp 2) 0, none⟩,
  ⟨(some 13), .extract (.tmp 2) 1, none⟩,
  ⟨(some 14), .nilCheck (.tmp 3), none⟩,
  ⟨(some 15), .fieldAddr 9 (.tmp 14), none⟩,
  ⟨none, .store 3 (.tmp 15) (.tmp 12), none⟩])
  (.ops [⟨(some 16), .mov (.tmp 0), none⟩,
  ⟨(some 17), .call (.func 229) [(.tmp 16)], none⟩])) }
theorem c228 : compFunc Tryz.prog mts Tryz.f228 = some a228 := by kernel_rfl
def a229 : AFunc := { ntmps := 22, results := [], body := (.seq (.ops [⟨(some 2), .mov (.tmp 0), none⟩,
  ⟨(some 3), .mov (.tmp 0), none⟩,
  ⟨(some 4), .makeFunc 250 [(.tmp 3)] [], none⟩,
  ⟨(some 5), .nilCheck (.tmp 2), none⟩,
  ⟨(some 6), .fieldAddr 7 (.tmp 5), none⟩,
  ⟨none, .store 1 (.tmp 6) (.tmp 4), none⟩])
  (.seq (.draw [⟨0, ⟨(some 7), .mov (.tmp 0), none⟩, []⟩,
  ⟨1, ⟨(some 8), .nilCheck (.tmp 7), none⟩, []⟩,
  ⟨2, ⟨(some 9), .fieldAddr 12 (.tmp 8), none⟩, []⟩,
  ⟨3, ⟨(some 10), .load1 (.tmp 9), none⟩, []⟩,
  ⟨4, ⟨(some 11), .mov (.tmp 0), none⟩, []⟩,
  ⟨5, ⟨(some 12), .nilCheck (.tmp 11), none⟩, []⟩,
  ⟨6, ⟨(some 13), .fieldAddr 0 (.tmp 12), none⟩, []⟩,
  ⟨7, ⟨(some 14), .load1 (.tmp 13), none⟩, []⟩,
  ⟨8, ⟨(some 15), .nilCheck (.tmp 14), none⟩, []⟩,
  ⟨9, ⟨(some 16), .fieldAddr 0 (.tmp 15), none⟩, []⟩,
  ⟨10, ⟨(some 17), .fieldAddr 3 (.tmp 16), none⟩, []⟩,
  ⟨11, ⟨(some 18), .load1 (.tmp 17), none⟩, []⟩,
  ⟨12, ⟨(some 19), .bin .geq (.prim .int) (.tmp 10) (.tmp 18), none⟩, []⟩])
  (.cond (.tmp 19) (.ops [⟨(some 20), .mov (.tmp 0), none⟩,
  ⟨(some 21), .call (.func 247) [(.tmp 20), (.const (.int .i64 7))], none⟩])
  .skip))) }
theorem c229 : compFunc Tryz.prog mts Tryz.f229 = some a229 := by kernel_rfl
def a250 : AFunc := { ntmps := 44, results := [], body := (.seq (.draw [⟨0, ⟨(some 5), .mov (.tmp 0), none⟩, []⟩,
  ⟨1, ⟨(some 6), .mov (.tmp 0), none⟩, []⟩,
  ⟨2, ⟨(some 7), .nilCheck (.tmp 6), none⟩, []⟩,
  ⟨3, ⟨(some 8), .fieldAddr 0 (.tmp 7), none⟩, []⟩,
  ⟨4, ⟨(some 9), .load1 (.tmp 8), none⟩, []⟩,
  ⟨5, ⟨(some 10), .nilCheck (.tmp 9), none⟩, []⟩,
  ⟨6, ⟨(some 11), .fieldAddr 5 (.tmp 10), none⟩, []⟩,
  ⟨7, ⟨(some 12), .load1 (.tmp 11), none⟩, []⟩,
  ⟨8, ⟨(some 13), .mov (.tmp 0), none⟩, []⟩,
  ⟨9, ⟨(some 14), .call (.func 198) [(.tmp 13)], none⟩, [⟨(some 9), .load1 (.tmp 8), none⟩, ⟨(some 12), .load1 (.tmp 11), none⟩]⟩,
  ⟨10, ⟨(some 15), .call (.func 30) [(.tmp 12), (.tmp 14)], none⟩, []⟩,
  ⟨11, ⟨(some 4), .mov (.tmp 15), none⟩, []⟩,
  ⟨12, ⟨(some 16), .extract (.tmp 4) 0, none⟩, []⟩,
  ⟨13, ⟨(some 17), .extract (.tmp 4) 1, none⟩, []⟩,
  ⟨14, ⟨(some 18), .nilCheck (.tmp 5), none⟩, []⟩,
  ⟨15, ⟨(some 19), .fieldAddr 13 (.tmp 18), none⟩, []⟩,
  ⟨16, ⟨none, .store 3 (.tmp 19) (.tmp 16), none⟩, []⟩])
  (.seq (.seq (.ops [⟨(some 21), .mov (.tmp 0), none⟩,
  ⟨(some 22), .nilCheck (.tmp 21), none⟩,
  ⟨(some 23), .fieldAddr 13 (.tmp 22), none⟩,
  ⟨(some 24), .loadN 3 (.tmp 23), none⟩,
  ⟨(some 25), .call (.func 199) [(.tmp 24)], none⟩,
  ⟨(some 20), .mov (.tmp 25), none⟩,
  ⟨(some 26), .extract (.tmp 20) 0, none⟩,
  ⟨(some 27), .extract (.tmp 20) 1, none⟩,
  ⟨(some 2), .mov (.tmp 26), none⟩,
  ⟨(some 3), .mov (.tmp 27), none⟩])
  (.seq (.ops [⟨(some 28), .mov (.tmp 2), none⟩,
  ⟨(some 29), .bin .eql (.prim .int) (.tmp 28) (.const (.int .i64 1)), none⟩])
  (.cond (.tmp 29) (.seq (.ops [⟨(some 30), .mov (.tmp 0), none⟩,
  ⟨(some 31), .mov (.tmp 0), none⟩,
  ⟨(some 32), .makeFunc 269 [(.tmp 31)] [], none⟩,
  ⟨(some 33), .nilCheck (.tmp 30), none⟩,
  ⟨(some 34), .fieldAddr 7 (.tmp 33), none⟩,
  ⟨none, .store 1 (.tmp 34) (.tmp 32), none⟩])
  .ret)
  .skip)))
  (.seq (.ops [⟨(some 35), .mov (.tmp 0), none⟩,
  ⟨(some 36), .nilCheck (.tmp 35), none⟩,
  ⟨(some 37), .fieldAddr 12 (.tmp 36), none⟩,
  ⟨(some 38), .load1 (.tmp 37), none⟩,
  ⟨(some 39), .bin .add (.prim .int) (.tmp 38) (.const (.int .i64 1)), none⟩,
  ⟨(some 40), .nilCheck (.tmp 35), none⟩,
  ⟨(some 41), .fieldAddr 12 (.tmp 40), none⟩,
  ⟨none, .store 1 (.tmp 41) (.tmp 39), none⟩])
  (.ops [⟨(some 42), .mov (.tmp 0), none⟩,
  ⟨(some 43), .call (.func 229) [(.tmp 42)], none⟩])))) }
theorem c250 : compFunc Tryz.prog mts Tryz.f250 = some a250 := by kernel_rfl
def a258 : AFunc := { ntmps := 19, results := [], body := (.seq (.draw [⟨0, ⟨(some 2), .mov (.tmp 0), none⟩, []⟩,
  ⟨1, ⟨(some 3), .nilCheck (.tmp 2), none⟩, []⟩,
  ⟨2, ⟨(some 4), .fieldAddr 0 (.tmp 3), none⟩, []⟩,
  ⟨3, ⟨(some 5), .load1 (.tmp 4), none⟩, []⟩,
  ⟨4, ⟨(some 6), .nilCheck (.tmp 5), none⟩, []⟩,
  ⟨5, ⟨(some 7), .fieldAddr 5 (.tmp 6), none⟩, []⟩,
  ⟨6, ⟨(some 8), .load1 (.tmp 7), none⟩, []⟩,
  ⟨7, ⟨(some 9), .mov (.tmp 0), none⟩, []⟩,
  ⟨8, ⟨(some 10), .nilCheck (.tmp 9), none⟩, []⟩,
  ⟨9, ⟨(some 11), .fieldAddr 1 (.tmp 10), none⟩, []⟩,
  ⟨10, ⟨(some 12), .load1 (.tmp 11), none⟩, []⟩,
  ⟨12, ⟨(some 14), .build [(.int .i64 0), (.int .i64 0), (.int .i64 0)] [], none⟩, []⟩,
  ⟨11, ⟨(some 13), .call (.func 33) [(.tmp 12)], none⟩, [⟨(some 5), .load1 (.tmp 4), none⟩, ⟨(some 8), .load1 (.tmp 7), none⟩]⟩,
  ⟨13, ⟨(some 15), .call (.func 32) [(.tmp 8), (.tmp 13), (.tmp 14)], none⟩, []⟩])
  (.ops [⟨(some 16), .mov (.tmp 0), none⟩,
  ⟨(some 17), .nilCheck (.tmp 16), none⟩,
  ⟨(some 18), .fieldAddr 34 (.tmp 17), none⟩,
  ⟨none, .store 1 (.tmp 18) (.const (.bool true)), none⟩])) }
theorem c258 : compFunc Tryz.prog mts Tryz.f258 = some a258 := by kernel_rfl
def a269 : AFunc := { ntmps := 113, results := [], body := (.seq (.draw [⟨0, ⟨(some 8), .mov (.tmp 0), none⟩, []⟩,
  ⟨1, ⟨(some 9), .mov (.tmp 0), none⟩, []⟩,
  ⟨2, ⟨(some 10), .nilCheck (.tmp 9), none⟩, []⟩,
  ⟨3, ⟨(some 11), .fieldAddr 13 (.tmp 10), none⟩, []⟩,
  ⟨4, ⟨(some 12), .loadN 3 (.tmp 11), none⟩, []⟩,
  ⟨5, ⟨(some 13), .mov (.tmp 0), none⟩, []⟩,
  ⟨6, ⟨(some 14), .nilCheck (.tmp 13), none⟩, []⟩,
  ⟨7, ⟨(some 15), .fieldAddr 0 (.tmp 14), none⟩, []⟩,
  ⟨8, ⟨(some 16), .load1 (.tmp 15), none⟩, []⟩,
  ⟨9, ⟨(some 17), .nilCheck (.tmp 16), none⟩, []⟩,
  ⟨10, ⟨(some 18), .fieldAddr 0 (.tmp 17), none⟩, []⟩,
  ⟨11, ⟨(some 19), .fieldAddr 3 (.tmp 18), none⟩, []⟩,
  ⟨12, ⟨(some 20), .load1 (.tmp 19), none⟩, []⟩,
  ⟨13, ⟨(some 21), .call (.func 281) [(.tmp 12), (.tmp 20)], none⟩, []⟩,
  ⟨14, ⟨(some 7), .mov (.tmp 21), none⟩, []⟩,
  ⟨15, ⟨(some 22), .extract (.tmp 7) 0, none⟩, []⟩,
  ⟨16, ⟨(some 23), .extract (.tmp 7) 1, none⟩, []⟩,
  ⟨17, ⟨(some 24), .nilCheck (.tmp 8), none⟩, []⟩,
  ⟨18, ⟨(some 25), .fieldAddr 16 (.tmp 24), none⟩, []⟩,
  ⟨19, ⟨none, .store 1 (.tmp 25) (.tmp 22), none⟩, []⟩])
  (.seq (.draw [⟨0, ⟨(some 27), .mov (.tmp 0), none⟩, []⟩,
  ⟨1, ⟨(some 28), .nilCheck (.tmp 27), none⟩, []⟩,
  ⟨2, ⟨(some 29), .fieldAddr 16 (.tmp 28), none⟩, []⟩,
  ⟨3, ⟨(some 30), .load1 (.tmp 29), none⟩, []⟩,
  ⟨4, ⟨(some 31), .mov (.tmp 0), none⟩, []⟩,
  ⟨5, ⟨(some 32), .nilCheck (.tmp 31), none⟩, []⟩,
  ⟨6, ⟨(some 33), .fieldAddr 9 (.tmp 32), none⟩, []⟩,
  ⟨7, ⟨(some 34), .fieldAddr 0 (.tmp 33), none⟩, []⟩,
  ⟨8, ⟨(some 35), .load1 (.tmp 34), none⟩, []⟩,
  ⟨9, ⟨(some 36), .mov (.tmp 0), none⟩, []⟩,
  ⟨10, ⟨(some 37), .nilCheck (.tmp 36), none⟩, []⟩,
  ⟨11, ⟨(some 38), .fieldAddr 9 (.tmp 37), none⟩, []⟩,
  ⟨12, ⟨(some 39), .fieldAddr 1 (.tmp 38), none⟩, []⟩,
  ⟨13, ⟨(some 40), .load1 (.tmp 39), none⟩, []⟩,
  ⟨18, ⟨(some 2), .alloc 75 [(.int .i64 0), (.int .i64 0), (.int .i64 0)], none⟩, []⟩,
  ⟨14, ⟨(some 41), .call (.func 101) [(.const (.int .i64 3)), (.tmp 30), (.tmp 35), (.tmp 40)], none⟩, []⟩,
  ⟨15, ⟨(some 26), .mov (.tmp 41), none⟩, []⟩,
  ⟨16, ⟨(some 42), .extract (.tmp 26) 0, none⟩, []⟩,
  ⟨17, ⟨(some 43), .extract (.tmp 26) 1, none⟩, []⟩,
  ⟨19, ⟨none, .store 3 (.tmp 2) (.tmp 42), none⟩, []⟩,
  ⟨20, ⟨(some 3), .mov (.tmp 43), none⟩, []⟩])
  (.seq (.ops [⟨(some 44), .mov (.tmp 0), none⟩,
  ⟨(some 45), .nilCheck (.tmp 44), none⟩,
  ⟨(some 46), .fieldAddr 0 (.tmp 45), none⟩,
  ⟨(some 47), .load1 (.tmp 46), none⟩,
  ⟨(some 48), .nilCheck (.tmp 47), none⟩,
  ⟨(some 49), .fieldAddr 0 (.tmp 48), none⟩,
  ⟨(some 50), .fieldAddr 0 (.tmp 49), none⟩,
  ⟨(some 51), .load1 (.tmp 50), none⟩,
  ⟨(some 52), .bin .neq (.prim .int) (.tmp 51) (.const (.int .i64 3)), none⟩,
  ⟨(some 4), .mov (.tmp 52), none⟩])
  (.seq (.seq (.ops [⟨(some 53), .mov (.tmp 4), none⟩,
  ⟨(some 54), .un .not (.tmp 53), none⟩])
  (.cond (.tmp 54) (.ops [⟨(some 56), .mov (.tmp 0), none⟩,
  ⟨(some 57), .nilCheck (.tmp 56), none⟩,
  ⟨(some 58), .fieldAddr 16 (.tmp 57), none⟩,
  ⟨(some 59), .load1 (.tmp 58), none⟩,
  ⟨(some 60), .call (.func 101) [(.const (.int .i64 2)), (.tmp 59), (.const (.int .i64 0)), (.const (.int .i64 0))], none⟩,
  ⟨(some 55), .mov (.tmp 60), none⟩,
  ⟨(some 61), .extract (.tmp 55) 0, none⟩,
  ⟨(some 62), .extract (.tmp 55) 1, none⟩,
  ⟨none, .store 3 (.tmp 2) (.tmp 61), none⟩])
  .skip))
  (.seq (.draw [⟨0, ⟨(some 64), .mov (.tmp 0), none⟩, []⟩,
  ⟨1, ⟨(some 65), .nilCheck (.tmp 64), none⟩, []⟩,
  ⟨2, ⟨(some 66), .fieldAddr 0 (.tmp 65), none⟩, []⟩,
  ⟨3, ⟨(some 67), .load1 (.tmp 66), none⟩, []⟩,
  ⟨4, ⟨(some 68), .nilCheck (.tmp 67), none⟩, []⟩,
  ⟨5, ⟨(some 69), .fieldAddr 5 (.tmp 68), none⟩, []⟩,
  ⟨6, ⟨(some 70), .load1 (.tmp 69), none⟩, []⟩,
  ⟨7, ⟨(some 71), .mov (.tmp 0), none⟩, []⟩,
  ⟨9, ⟨(some 73), .mov (.tmp 0), none⟩, []⟩,
  ⟨10, ⟨(some 74), .nilCheck (.tmp 73), none⟩, []⟩,
  ⟨11, ⟨(some 75), .fieldAddr 13 (.tmp 74), none⟩, []⟩,
  ⟨12, ⟨(some 76), .loadN 3 (.tmp 75), none⟩, []⟩,
  ⟨13, ⟨(some 77), .loadN 3 (.tmp 2), none⟩, []⟩,
  ⟨8, ⟨(some 72), .call (.func 198) [(.tmp 71)], none⟩, [⟨(some 67), .load1 (.tmp 66), none⟩, ⟨(some 70), .load1 (.tmp 69), none⟩, ⟨(some 76), .loadN 3 (.tmp 75), none⟩, ⟨(some 77), .loadN 3 (.tmp 2), none⟩]⟩,
  ⟨14, ⟨(some 78), .call (.func 87) [(.tmp 70), (.tmp 72), (.tmp 76), (.tmp 77)], none⟩, []⟩,
  ⟨15, ⟨(some 63), .mov (.tmp 78), none⟩, []⟩,
  ⟨16, ⟨(some 79), .extract (.tmp 63) 0, none⟩, []⟩,
  ⟨17, ⟨(some 80), .extract (.tmp 63) 1, none⟩, []⟩,
  ⟨18, ⟨(some 5), .mov (.tmp 79), none⟩, []⟩,
  ⟨19, ⟨(some 6), .mov (.tmp 80), none⟩, []⟩])
  (.seq (.ops [⟨(some 81), .mov (.tmp 0), none⟩,
  ⟨(some 82), .mov (.tmp 0), none⟩,
  ⟨(some 83), .nilCheck (.tmp 82), none⟩,
  ⟨(some 84), .fieldAddr 16 (.tmp 83), none⟩,
  ⟨(some 85), .load1 (.tmp 84), none⟩,
  ⟨(some 86), .build [(.int .i64 0), (.bool false), (.string ⟨#[]⟩), (.string ⟨#[]⟩), (.int .i64 0)] [(4, 1, (.tmp 85))], none⟩,
  ⟨(some 87), .nilCheck (.tmp 81), none⟩,
  ⟨(some 88), .fieldAddr 29 (.tmp 87), none⟩,
  ⟨none, .store 5 (.tmp 88) (.tmp 86), none⟩])
  (.block 0 (.seq (.ops [⟨(some 95), .mov (.tmp 5), none⟩,
  ⟨(some 96), .un .not (.tmp 95), none⟩,
  ⟨(some 94), .mov (.tmp 96), none⟩])
  (.cond (.tmp 94) (.seq (.ops [⟨(some 97), .mov (.tmp 0), none⟩,
  ⟨(some 98), .nilCheck (.tmp 97), none⟩,
  ⟨(some 99), .fieldAddr 12 (.tmp 98), none⟩,
  ⟨(some 100), .load1 (.tmp 99), none⟩,
  ⟨(some 101), .bin .add (.prim .int) (.tmp 100) (.const (.int .i64 1)), none⟩,
  ⟨(some 102), .nilCheck (.tmp 97), none⟩,
  ⟨(some 103), .fieldAddr 12 (.tmp 102), none⟩,
  ⟨none, .store 1 (.tmp 103) (.tmp 101), none⟩])
  (.ops [⟨(some 104), .mov (.tmp 0), none⟩,
  ⟨(some 105), .call (.func 229) [(.tmp 104)], none⟩]))
  (.seq (.ops [⟨(some 107), .mov (.tmp 4), none⟩,
  ⟨(some 106), .mov (.tmp 107), none⟩])
  (.cond (.tmp 106) (.ops [⟨(some 108), .mov (.tmp 0), none⟩,
  ⟨(some 109), .mov (.tmp 0), none⟩,
  ⟨(some 110), .makeFunc 258 [(.tmp 109)] [], none⟩,
  ⟨(some 111), .nilCheck (.tmp 108), none⟩,
  ⟨(some 112), .fieldAddr 7 (.tmp 111), none⟩,
  ⟨none, .store 1 (.tmp 112) (.tmp 110), none⟩])
  (.ops [⟨(some 89), .mov (.tmp 0), none⟩,
  ⟨(some 90), .mov (.tmp 0), none⟩,
  ⟨(some 91), .makeFunc 282 [(.tmp 90)] [], none⟩,
  ⟨(some 92), .nilCheck (.tmp 89), none⟩,
  ⟨(some 93), .fieldAddr 7 (.tmp 92), none⟩,
  ⟨none, .store 1 (.tmp 93) (.tmp 91), none⟩])))))))))))) }
theorem c269 : compFunc Tryz.prog mts Tryz.f269 = some a269 := by kernel_rfl
def a281 : AFunc := { ntmps := 28, results := [.tmp 4, .tmp 5], body := (.seq (.ops [⟨(some 2), .box 75 (.tmp 0), none⟩,
  ⟨(some 4), .mov (.const (.int .i64 0)), none⟩,
  ⟨(some 5), .mov (.const (.int .i64 0)), none⟩])
  (.seq (.seq (.ops [⟨(some 8), .mov (.tmp 1), none⟩,
  ⟨(some 9), .call (.func 100) [(.tmp 8)], none⟩,
  ⟨(some 10), .un .not (.tmp 9), none⟩])
  (.cond (.tmp 10) (.seq (.ops [⟨(some 4), .mov (.const (.int .i64 0)), none⟩,
  ⟨(some 5), .mov (.const (.int .i64 2)), none⟩])
  .ret)
  .skip))
  (.seq (.seq (.ops [⟨(some 12), .loadN 3 (.tmp 2), none⟩,
  ⟨(some 13), .call (.func 199) [(.tmp 12)], none⟩,
  ⟨(some 11), .mov (.tmp 13), none⟩,
  ⟨(some 14), .extract (.tmp 11) 0, none⟩,
  ⟨(some 15), .extract (.tmp 11) 1, none⟩,
  ⟨(some 6), .mov (.tmp 14), none⟩,
  ⟨(some 7), .mov (.tmp 15), none⟩])
  (.seq (.ops [⟨(some 16), .mov (.tmp 7), none⟩,
  ⟨(some 17), .bin .neq (.prim .int) (.tmp 16) (.const (.int .i64 0)), none⟩])
  (.cond (.tmp 17) (.seq (.ops [⟨(some 18), .mov (.tmp 7), none⟩,
  ⟨(some 4), .mov (.const (.int .i64 0)), none⟩,
  ⟨(some 5), .mov (.tmp 18), none⟩])
  .ret)
  .skip)))
  (.seq (.seq (.ops [⟨(some 19), .fieldAddr 2 (.tmp 2), none⟩,
  ⟨(some 20), .load1 (.tmp 19), none⟩,
  ⟨(some 21), .mov (.tmp 1), none⟩,
  ⟨(some 22), .bin .sub (.prim .int) (.const (.int .i64 4611686018427387904)) (.tmp 21), none⟩,
  ⟨(some 23), .bin .gtr (.prim .int) (.tmp 20) (.tmp 22), none⟩])
  (.cond (.tmp 23) (.seq (.ops [⟨(some 4), .mov (.const (.int .i64 0)), none⟩,
  ⟨(some 5), .mov (.const (.int .i64 2)), none⟩])
  .ret)
  .skip))
  (.seq (.ops [⟨(some 24), .fieldAddr 2 (.tmp 2), none⟩,
  ⟨(some 25), .load1 (.tmp 24), none⟩,
  ⟨(some 26), .mov (.tmp 1), none⟩,
  ⟨(some 27), .bin .add (.prim .int) (.tmp 25) (.tmp 26), none⟩,
  ⟨(some 4), .mov (.tmp 27), none⟩,
  ⟨(some 5), .mov (.const (.int .i64 0)), none⟩])
  .ret))))) }
theorem c281 : compFunc Tryz.prog mts Tryz.f281 = some a281 := by kernel_rfl
def a419 : AFunc := { ntmps := 27, results := [.cellN 2 5, .tmp 3], body := (.seq (.ops [⟨(some 2), .alloc 27 [(.int .i64 0), (.bool false), (.string ⟨#[]⟩), (.string ⟨#[]⟩), (.int .i64 0)], none⟩,
  ⟨(some 3), .mov (.const (.bool false)), none⟩])
  (.seq (.seq (.ops [⟨(some 4), .mov (.tmp 0), none⟩,
  ⟨(some 5), .bin .eql .ptr (.tmp 4) (.const (.pointer none)), none⟩,
  ⟨(some 6), .mov (.tmp 5), none⟩,
  ⟨(some 7), .mov (.tmp 0), (some (6, false))⟩,
  ⟨(some 8), .nilCheck (.tmp 7), (some (6, false))⟩,
  ⟨(some 9), .fieldAddr 34 (.tmp 8), (some (6, false))⟩,
  ⟨(some 10), .load1 (.tmp 9), (some (6, false))⟩,
  ⟨(some 11), .pick (.tmp 6) (.const (.bool true)) (.tmp 10), none⟩])
  (.cond (.tmp 11) (.seq (.ops [⟨(some 12), .build [(.int .i64 0), (.bool false), (.string ⟨#[]⟩), (.string ⟨#[]⟩), (.int .i64 0)] [], none⟩,
  ⟨none, .store 5 (.tmp 2) (.tmp 12), none⟩,
  ⟨(some 3), .mov (.const (.bool true)), none⟩])
  .ret)
  .skip))
  (.seq (.ops [⟨(some 13), .mov (.tmp 0), none⟩,
  ⟨(some 14), .nilCheck (.tmp 13), none⟩,
  ⟨(some 15), .fieldAddr 7 (.tmp 14), none⟩,
  ⟨(some 16), .load1 (.tmp 15), none⟩,
  ⟨(some 17), .call (.tmp 16) [], none⟩])
  (.seq (.seq (.ops [⟨(some 18), .mov (.tmp 0), none⟩,
  ⟨(some 19), .nilCheck (.tmp 18), none⟩,
  ⟨(some 20), .fieldAddr 34 (.tmp 19), none⟩,
  ⟨(some 21), .load1 (.tmp 20), none⟩])
  (.cond (.tmp 21) (.seq (.ops [⟨(some 22), .mov (.tmp 0), none⟩,
  ⟨(some 23), .nilCheck (.tmp 22), none⟩,
  ⟨(some 24), .fieldAddr 29 (.tmp 23), none⟩,
  ⟨(some 25), .loadN 5 (.tmp 24), none⟩,
  ⟨none, .store 5 (.tmp 2) (.tmp 25), none⟩,
  ⟨(some 3), .mov (.const (.bool true)), none⟩])
  .ret)
  .skip))
  (.seq (.ops [⟨(some 26), .build [(.int .i64 0), (.bool false), (.string ⟨#[]⟩), (.string ⟨#[]⟩), (.int .i64 0)] [], none⟩,
  ⟨none, .store 5 (.tmp 2) (.tmp 26), none⟩,
  ⟨(some 3), .mov (.const (.bool false)), none⟩])
  .ret))))) }
theorem c419 : compFunc Tryz.prog mts Tryz.f419 = some a419 := by kernel_rfl
end Go.Proofs.YtcclefkkjboaeaaGreatDoor
