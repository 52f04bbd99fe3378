/- Printed by wip/tools/mkprint.sh: the compact code of the functions that the laws of the disk reach. -/
import Derived.Test.YtbdcgchgpdclaaaProg
import Derived.Test.YtbdcgchgpdclaaaAmS18
namespace Go.Proofs.Ytbdcgchgpdclaaa
open Go Go.AM

/-- tracebook/tracebooklaw13.DiskPlays -/
def F3 : AFun := ⟨
 .seq (.reg [⟨(some 4), none, false, .mov (.k (boolV false)), [4]⟩])
 (.seq (.seq (.reg [⟨(some 14), none, false, .call 8 [], []⟩,
   ⟨(some 15), none, false, .pure (.unOp .not 4 (.tmp 14)) 4, [14]⟩,
   ⟨(some 16), none, true, .mov (.t 15), [15]⟩,
   ⟨(some 17), (some (16, false)), false, .mov (.t 1), []⟩,
   ⟨(some 18), (some (16, false)), false, .call 9 [(.t 17)], [17]⟩,
   ⟨(some 19), (some (16, false)), false, .pure (.unOp .not 4 (.tmp 18)) 4, [18]⟩,
   ⟨(some 20), none, false, .pick (.t 16) (.k (boolV true)) (.t 19), [16, 19]⟩])
 (.cond (.t 20)
  (.seq (.reg [⟨(some 21), none, false, .call 8 [], [0, 1, 20]⟩,
     ⟨(some 4), none, false, .mov (.t 21), [21]⟩])
   (.ret))
  (.skip)))
 (.seq (.reg [⟨(some 23), none, false, .mov (.t 0), [4, 20]⟩,
   ⟨(some 24), none, false, .call 10 [(.t 23)], [23]⟩,
   ⟨(some 22), none, false, .mov (.t 24), [24]⟩,
   ⟨(some 25), none, false, .ext (.t 22) 0, []⟩,
   ⟨(some 26), none, false, .ext (.t 22) 1, [22]⟩,
   ⟨(some 5), none, false, .alloc [(.d (.lit (.int .i64 0))), .nil, (.d (.lit (.int .i64 0))), (.d (.lit (.int .i64 0))), (.d (.lit (.bool false)))], []⟩,
   ⟨none, none, false, .st 5 (.t 5) (.t 25), [25]⟩,
   ⟨(some 6), none, false, .mov (.t 26), [26]⟩])
 (.seq (.reg [⟨(some 28), none, false, .mov (.t 0), [0]⟩,
   ⟨(some 29), none, false, .call 11 [(.t 28)], [28]⟩,
   ⟨(some 27), none, false, .mov (.t 29), [29]⟩,
   ⟨(some 30), none, false, .ext (.t 27) 0, []⟩,
   ⟨(some 31), none, false, .ext (.t 27) 1, [27]⟩,
   ⟨(some 7), none, false, .alloc [(.d (.lit (.int .i64 0))), .nil, (.d (.lit (.int .i64 0))), (.d (.lit (.int .i64 0))), (.d (.lit (.bool false)))], []⟩,
   ⟨none, none, false, .st 5 (.t 7) (.t 30), [30]⟩,
   ⟨(some 8), none, false, .mov (.t 31), [31]⟩])
 (.seq (.seq (.reg [⟨(some 32), none, false, .mov (.t 6), []⟩,
   ⟨(some 33), none, false, .mov (.t 8), [8]⟩,
   ⟨(some 34), none, false, .bin .neq (.t 32) (.t 33), [32, 33]⟩,
   ⟨(some 35), none, true, .mov (.t 34), [34]⟩,
   ⟨(some 36), (some (35, false)), false, .ld true 5 (.t 5), []⟩,
   ⟨(some 37), (some (35, false)), false, .ld true 5 (.t 7), []⟩,
   ⟨(some 38), (some (35, false)), false, .call 12 [(.t 36), (.t 37)], [36, 37]⟩,
   ⟨(some 39), (some (35, false)), false, .pure (.unOp .not 4 (.tmp 38)) 4, [38]⟩,
   ⟨(some 40), none, false, .pick (.t 35) (.k (boolV true)) (.t 39), [35, 39]⟩])
 (.cond (.t 40)
  (.seq (.reg [⟨(some 4), none, false, .mov (.k (boolV false)), [1, 5, 6, 7, 40]⟩])
   (.ret))
  (.skip)))
 (.seq (.seq (.reg [⟨(some 41), none, false, .mov (.t 6), [4, 6, 40]⟩,
   ⟨(some 42), none, false, .bin .neq (.t 41) (.k (intV 0)), [41]⟩])
 (.cond (.t 42)
  (.seq (.reg [⟨(some 4), none, false, .mov (.k (boolV true)), [1, 5, 7, 42]⟩])
   (.ret))
  (.skip)))
 (.seq (.seq (.reg [⟨(some 9), none, false, .mov (.k (intV 0)), [4, 42]⟩])
 (.block 0 (.loop [1, 5, 7, 9]
   (.seq (.seq (.reg [⟨(some 43), none, false, .mov (.t 9), []⟩,
      ⟨(some 44), none, false, .mov (.t 1), []⟩,
      ⟨(some 45), none, false, .len (.t 44), [44]⟩,
      ⟨(some 46), none, false, .bin .lss (.t 43) (.t 45), [43, 45]⟩])
    (.cond (.t 46)
     (.skip)
     (.exit 0)))
    (.seq (.block 1 (.seq (.reg [⟨(some 50), none, false, .ld true 5 (.t 5), [46]⟩,
       ⟨(some 51), none, false, .mov (.t 1), []⟩,
       ⟨(some 52), none, false, .mov (.t 9), []⟩,
       ⟨(some 53), none, false, .ia 3 (.t 51) (.t 52), [51, 52]⟩,
       ⟨(some 54), none, false, .ld true 3 (.t 53), [53]⟩,
       ⟨(some 55), none, false, .call 13 [(.t 50), (.t 54)], [50, 54]⟩,
       ⟨(some 49), none, false, .mov (.t 55), [55]⟩,
       ⟨(some 56), none, false, .ext (.t 49) 0, []⟩,
       ⟨(some 57), none, false, .ext (.t 49) 1, [49]⟩,
       ⟨(some 10), none, false, .alloc [(.d (.lit (.int .i64 0))), .nil, (.d (.lit (.int .i64 0))), (.d (.lit (.int .i64 0))), (.d (.lit (.bool false)))], []⟩,
       ⟨none, none, false, .st 5 (.t 10) (.t 56), [56]⟩,
       ⟨(some 11), none, false, .mov (.t 57), [57]⟩])
     (.seq (.reg [⟨(some 59), none, false, .ld true 5 (.t 7), []⟩,
       ⟨(some 60), none, false, .mov (.t 1), []⟩,
       ⟨(some 61), none, false, .mov (.t 9), []⟩,
       ⟨(some 62), none, false, .ia 3 (.t 60) (.t 61), [60, 61]⟩,
       ⟨(some 63), none, false, .ld true 3 (.t 62), [62]⟩,
       ⟨(some 64), none, false, .call 14 [(.t 59), (.t 63)], [59, 63]⟩,
       ⟨(some 58), none, false, .mov (.t 64), [64]⟩,
       ⟨(some 65), none, false, .ext (.t 58) 0, []⟩,
       ⟨(some 66), none, false, .ext (.t 58) 1, [58]⟩,
       ⟨(some 12), none, false, .alloc [(.d (.lit (.int .i64 0))), .nil, (.d (.lit (.int .i64 0))), (.d (.lit (.int .i64 0))), (.d (.lit (.bool false)))], []⟩,
       ⟨none, none, false, .st 5 (.t 12) (.t 65), [65]⟩,
       ⟨(some 13), none, false, .mov (.t 66), [66]⟩])
     (.seq (.seq (.reg [⟨(some 67), none, false, .mov (.t 11), []⟩,
       ⟨(some 68), none, false, .mov (.t 13), [13]⟩,
       ⟨(some 69), none, false, .bin .neq (.t 67) (.t 68), [67, 68]⟩,
       ⟨(some 70), none, true, .mov (.t 69), [69]⟩,
       ⟨(some 71), (some (70, false)), false, .ld true 5 (.t 10), []⟩,
       ⟨(some 72), (some (70, false)), false, .ld true 5 (.t 12), []⟩,
       ⟨(some 73), (some (70, false)), false, .call 12 [(.t 71), (.t 72)], [71, 72]⟩,
       ⟨(some 74), (some (70, false)), false, .pure (.unOp .not 4 (.tmp 73)) 4, [73]⟩,
       ⟨(some 75), none, false, .pick (.t 70) (.k (boolV true)) (.t 74), [70, 74]⟩])
     (.cond (.t 75)
      (.seq (.reg [⟨(some 4), none, false, .mov (.k (boolV false)), [1, 5, 7, 9, 10, 11, 12, 75]⟩])
       (.ret))
      (.skip)))
     (.seq (.reg [⟨(some 76), none, false, .mov (.t 11), [4, 75]⟩,
       ⟨(some 77), none, false, .bin .eql (.t 76) (.k (intV 0)), [76]⟩,
       ⟨(some 78), none, true, .mov (.t 77), [77]⟩,
       ⟨(some 79), (some (78, false)), false, .mov (.t 11), []⟩,
       ⟨(some 80), (some (78, false)), false, .bin .eql (.t 79) (.k (intV 19)), [79]⟩,
       ⟨(some 81), none, false, .pick (.t 78) (.k (boolV true)) (.t 80), [78, 80]⟩])
     (.cond (.t 81)
      (.seq (.seq (.reg [⟨(some 82), none, false, .ld true 5 (.t 10), [81]⟩,
         ⟨(some 83), none, false, .call 15 [(.t 82)], [82]⟩,
         ⟨(some 84), none, false, .bin .neq (.t 83) (.k (intV 0)), [83]⟩,
         ⟨(some 85), none, true, .mov (.t 84), [84]⟩,
         ⟨(some 86), (some (85, false)), false, .fa 4 (.t 10), []⟩,
         ⟨(some 87), (some (85, false)), false, .ld false 1 (.t 86), [86]⟩,
         ⟨(some 88), (some (85, false)), false, .mov (.t 11), [11]⟩,
         ⟨(some 89), (some (85, false)), false, .bin .eql (.t 88) (.k (intV 19)), [88]⟩,
         ⟨(some 90), (some (85, false)), false, .pure (.binOp .neq 4 (.tmp 87) (.tmp 89) 4) 4, [87, 89]⟩,
         ⟨(some 91), none, false, .pick (.t 85) (.k (boolV true)) (.t 90), [85, 90]⟩])
       (.cond (.t 91)
        (.seq (.reg [⟨(some 4), none, false, .mov (.k (boolV false)), [1, 5, 7, 9, 10, 12, 91]⟩])
         (.ret))
        (.skip)))
       (.seq (.reg [⟨(some 92), none, false, .ld true 5 (.t 10), [4, 10, 91]⟩,
         ⟨none, none, false, .st 5 (.t 5) (.t 92), [92]⟩])
       (.reg [⟨(some 93), none, false, .ld true 5 (.t 12), [12]⟩,
         ⟨none, none, false, .st 5 (.t 7) (.t 93), [93]⟩])))
      (.skip)))))))
    (.reg [⟨(some 47), none, false, .mov (.t 9), [9, 10, 11, 12, 81, 46]⟩,
      ⟨(some 48), none, false, .bin .add (.t 47) (.k (intV 1)), [47]⟩,
      ⟨(some 9), none, false, .mov (.t 48), [48]⟩]))))))
 (.seq (.reg [⟨(some 4), none, false, .mov (.k (boolV true)), [1, 5, 7, 9]⟩])
 (.ret)))))))),
 [.tmp 4]⟩
def O3 : List (Nat × List Nat) := [(12, [0, 1, 2, 3, 4, 5, 6, 7, 8, 9, 10, 11]), (13, [0, 1, 2, 3, 4, 5, 6, 7, 8, 9, 10, 11])]
theorem F3_ok : cFun Try.prog O3 3 = some F3.erase := by kernel_rfl

/-- tracebook/tracebooklaw13.DiskChecks -/
def F4 : AFun := ⟨
 .seq (.reg [⟨(some 2), none, false, .bx (.t 0), [0]⟩,
   ⟨(some 3), none, false, .bx (.t 1), [1]⟩,
   ⟨(some 4), none, false, .mov (.k (boolV false)), [4]⟩])
 (.seq (.seq (.reg [⟨(some 9), none, false, .call 8 [], []⟩,
   ⟨(some 10), none, false, .pure (.unOp .not 4 (.tmp 9)) 4, [9]⟩,
   ⟨(some 11), none, true, .mov (.t 10), [10]⟩,
   ⟨(some 12), (some (11, false)), false, .fa 1 (.t 2), []⟩,
   ⟨(some 13), (some (11, false)), false, .ld false 1 (.t 12), [12]⟩,
   ⟨(some 14), (some (11, false)), false, .len (.t 13), [13]⟩,
   ⟨(some 15), (some (11, false)), false, .bin .gtr (.t 14) (.k (intV 300)), [14]⟩,
   ⟨(some 16), none, false, .pick (.t 11) (.k (boolV true)) (.t 15), [11, 15]⟩,
   ⟨(some 17), none, true, .mov (.t 16), [16]⟩,
   ⟨(some 18), (some (17, false)), false, .fa 2 (.t 3), []⟩,
   ⟨(some 19), (some (17, false)), false, .ld false 1 (.t 18), [18]⟩,
   ⟨(some 20), (some (17, false)), false, .len (.t 19), [19]⟩,
   ⟨(some 21), (some (17, false)), false, .bin .gtr (.t 20) (.k (intV 100)), [20]⟩,
   ⟨(some 22), none, false, .pick (.t 17) (.k (boolV true)) (.t 21), [17, 21]⟩])
 (.cond (.t 22)
  (.seq (.reg [⟨(some 23), none, false, .call 8 [], [2, 3, 22]⟩,
     ⟨(some 4), none, false, .mov (.t 23), [23]⟩])
   (.ret))
  (.skip)))
 (.seq (.reg [⟨(some 25), none, false, .ld true 5 (.t 2), [4, 22]⟩,
   ⟨(some 26), none, false, .ld true 3 (.t 3), []⟩,
   ⟨(some 27), none, false, .call 13 [(.t 25), (.t 26)], [25, 26]⟩,
   ⟨(some 24), none, false, .mov (.t 27), [27]⟩,
   ⟨(some 28), none, false, .ext (.t 24) 0, []⟩,
   ⟨(some 29), none, false, .ext (.t 24) 1, [24]⟩,
   ⟨(some 5), none, false, .alloc [(.d (.lit (.int .i64 0))), .nil, (.d (.lit (.int .i64 0))), (.d (.lit (.int .i64 0))), (.d (.lit (.bool false)))], []⟩,
   ⟨none, none, false, .st 5 (.t 5) (.t 28), [28]⟩,
   ⟨(some 6), none, false, .mov (.t 29), [29]⟩])
 (.seq (.reg [⟨(some 31), none, false, .ld true 5 (.t 2), []⟩,
   ⟨(some 32), none, false, .ld true 3 (.t 3), [3]⟩,
   ⟨(some 33), none, false, .call 14 [(.t 31), (.t 32)], [31, 32]⟩,
   ⟨(some 30), none, false, .mov (.t 33), [33]⟩,
   ⟨(some 34), none, false, .ext (.t 30) 0, []⟩,
   ⟨(some 35), none, false, .ext (.t 30) 1, [30]⟩,
   ⟨(some 7), none, false, .alloc [(.d (.lit (.int .i64 0))), .nil, (.d (.lit (.int .i64 0))), (.d (.lit (.int .i64 0))), (.d (.lit (.bool false)))], []⟩,
   ⟨none, none, false, .st 5 (.t 7) (.t 34), [34]⟩,
   ⟨(some 8), none, false, .mov (.t 35), [35]⟩])
 (.seq (.reg [⟨(some 36), none, false, .ld true 5 (.t 2), []⟩,
   ⟨(some 38), none, false, .ld true 5 (.t 2), [2]⟩,
   ⟨(some 37), none, false, .call 15 [(.t 36)], [36]⟩,
   ⟨(some 39), none, false, .call 16 [(.t 38)], [38]⟩,
   ⟨(some 40), none, false, .bin .eql (.t 37) (.t 39), [37, 39]⟩,
   ⟨(some 41), none, true, .mov (.t 40), [40]⟩,
   ⟨(some 42), (some (41, true)), false, .mov (.t 6), [6]⟩,
   ⟨(some 43), (some (41, true)), false, .mov (.t 8), [8]⟩,
   ⟨(some 44), (some (41, true)), false, .bin .eql (.t 42) (.t 43), [42, 43]⟩,
   ⟨(some 45), none, false, .pick (.t 41) (.t 44) (.k (boolV false)), [41, 44]⟩,
   ⟨(some 46), none, true, .mov (.t 45), [45]⟩,
   ⟨(some 47), (some (46, true)), false, .ld true 5 (.t 5), [5]⟩,
   ⟨(some 48), (some (46, true)), false, .ld true 5 (.t 7), [7]⟩,
   ⟨(some 49), (some (46, true)), false, .call 12 [(.t 47), (.t 48)], [47, 48]⟩,
   ⟨(some 50), none, false, .pick (.t 46) (.t 49) (.k (boolV false)), [46, 49]⟩,
   ⟨(some 4), none, false, .mov (.t 50), [50]⟩])
 (.ret))))),
 [.tmp 4]⟩
def O4 : List (Nat × List Nat) := [(5, [0, 2, 1, 3, 4, 5, 6, 7, 8, 9, 10, 11, 12, 13, 14, 15])]
theorem F4_ok : cFun Try.prog O4 4 = some F4.erase := by kernel_rfl

/-- tracebook/tracebooklaw13.DiskPrefix -/
def F5 : AFun := ⟨
 .seq (.reg [⟨(some 4), none, false, .mov (.k (boolV false)), [4]⟩])
 (.seq (.seq (.reg [⟨(some 14), none, false, .call 8 [], []⟩,
   ⟨(some 15), none, false, .pure (.unOp .not 4 (.tmp 14)) 4, [14]⟩,
   ⟨(some 16), none, true, .mov (.t 15), [15]⟩,
   ⟨(some 17), (some (16, false)), false, .mov (.t 0), []⟩,
   ⟨(some 18), (some (16, false)), false, .call 9 [(.t 17)], [17]⟩,
   ⟨(some 19), (some (16, false)), false, .pure (.unOp .not 4 (.tmp 18)) 4, [18]⟩,
   ⟨(some 20), none, false, .pick (.t 16) (.k (boolV true)) (.t 19), [16, 19]⟩])
 (.cond (.t 20)
  (.seq (.reg [⟨(some 21), none, false, .call 8 [], [0, 1, 20]⟩,
     ⟨(some 4), none, false, .mov (.t 21), [21]⟩])
   (.ret))
  (.skip)))
 (.seq (.reg [⟨(some 23), none, false, .call 10 [(.k (intV 500))], [4, 20]⟩,
   ⟨(some 22), none, false, .mov (.t 23), [23]⟩,
   ⟨(some 24), none, false, .ext (.t 22) 0, []⟩,
   ⟨(some 25), none, false, .ext (.t 22) 1, [22]⟩,
   ⟨(some 5), none, false, .alloc [(.d (.lit (.int .i64 0))), .nil, (.d (.lit (.int .i64 0))), (.d (.lit (.int .i64 0))), (.d (.lit (.bool false)))], []⟩,
   ⟨none, none, false, .st 5 (.t 5) (.t 24), [24]⟩,
   ⟨(some 6), none, false, .mov (.t 25), [25, 6]⟩])
 (.seq (.reg [⟨(some 7), none, false, .mov (.k (.w (.c (.d (.lit (.string ⟨#[]⟩)))))), []⟩,
   ⟨(some 8), none, false, .mov (.k (intV 0)), []⟩])
 (.seq (.seq (.reg [⟨(some 9), none, false, .mov (.k (intV 0)), []⟩])
 (.block 0 (.loop [0, 1, 5, 7, 8, 9]
   (.seq (.seq (.reg [⟨(some 26), none, false, .mov (.t 9), []⟩,
      ⟨(some 27), none, false, .mov (.t 0), []⟩,
      ⟨(some 28), none, false, .len (.t 27), [27]⟩,
      ⟨(some 29), none, false, .bin .lss (.t 26) (.t 28), [26, 28]⟩])
    (.cond (.t 29)
     (.skip)
     (.exit 0)))
    (.seq (.block 1 (.seq (.reg [⟨(some 32), none, false, .mov (.t 0), [29]⟩,
       ⟨(some 33), none, false, .mov (.t 9), []⟩,
       ⟨(some 34), none, false, .ia 3 (.t 32) (.t 33), [32, 33]⟩,
       ⟨(some 35), none, false, .ld true 3 (.t 34), [34]⟩,
       ⟨(some 10), none, false, .alloc [(.d (.lit (.int .i64 0))), (.d (.lit (.int .i64 0))), .nil], []⟩,
       ⟨none, none, false, .st 3 (.t 10) (.t 35), [35]⟩])
     (.seq (.reg [⟨(some 37), none, false, .ld true 5 (.t 5), []⟩,
       ⟨(some 38), none, false, .ld true 3 (.t 10), []⟩,
       ⟨(some 39), none, false, .call 13 [(.t 37), (.t 38)], [37, 38]⟩,
       ⟨(some 36), none, false, .mov (.t 39), [39]⟩,
       ⟨(some 40), none, false, .ext (.t 36) 0, []⟩,
       ⟨(some 41), none, false, .ext (.t 36) 1, [36]⟩,
       ⟨(some 11), none, false, .alloc [(.d (.lit (.int .i64 0))), .nil, (.d (.lit (.int .i64 0))), (.d (.lit (.int .i64 0))), (.d (.lit (.bool false)))], []⟩,
       ⟨none, none, false, .st 5 (.t 11) (.t 40), [40]⟩,
       ⟨(some 12), none, false, .mov (.t 41), [41]⟩])
     (.seq (.seq (.reg [⟨(some 42), none, false, .mov (.t 12), []⟩,
       ⟨(some 43), none, false, .bin .neq (.t 42) (.k (intV 0)), [42]⟩,
       ⟨(some 44), none, true, .mov (.t 43), [43]⟩,
       ⟨(some 45), (some (44, true)), false, .mov (.t 12), []⟩,
       ⟨(some 46), (some (44, true)), false, .bin .neq (.t 45) (.k (intV 19)), [45]⟩,
       ⟨(some 47), none, false, .pick (.t 44) (.t 46) (.k (boolV false)), [44, 46]⟩])
     (.cond (.t 47)
      (.exit 1)
      (.skip)))
     (.seq (.seq (.reg [⟨(some 48), none, false, .fa 0 (.t 10), [47]⟩,
       ⟨(some 49), none, false, .ld false 1 (.t 48), [48]⟩,
       ⟨(some 50), none, false, .bin .lss (.t 49) (.k (intV 3)), [49]⟩,
       ⟨(some 51), none, true, .mov (.t 50), [50]⟩,
       ⟨(some 52), (some (51, false)), false, .fa 0 (.t 10), []⟩,
       ⟨(some 53), (some (51, false)), false, .ld false 1 (.t 52), [52]⟩,
       ⟨(some 54), (some (51, false)), false, .bin .gtr (.t 53) (.k (intV 7)), [53]⟩,
       ⟨(some 55), none, false, .pick (.t 51) (.k (boolV true)) (.t 54), [51, 54]⟩,
       ⟨(some 56), none, true, .mov (.t 55), [55]⟩,
       ⟨(some 57), (some (56, true)), false, .fa 4 (.t 5), []⟩,
       ⟨(some 58), (some (56, true)), false, .ld false 1 (.t 57), [57]⟩,
       ⟨(some 59), (some (56, true)), false, .pure (.unOp .not 4 (.tmp 58)) 4, [58]⟩,
       ⟨(some 60), none, false, .pick (.t 56) (.t 59) (.k (boolV false)), [56, 59]⟩])
     (.cond (.t 60)
      (.reg [⟨(some 61), none, false, .mov (.t 7), [7, 60]⟩,
         ⟨(some 62), none, false, .fa 2 (.t 10), []⟩,
         ⟨(some 63), none, false, .ld false 1 (.t 62), [62]⟩,
         ⟨(some 64), none, false, .b2s (.t 63), [63]⟩,
         ⟨(some 65), none, false, .bin .add (.t 61) (.t 64), [61, 64]⟩,
         ⟨(some 7), none, false, .mov (.t 65), [65]⟩])
      (.skip)))
     (.seq (.seq (.reg [⟨(some 66), none, false, .mov (.t 12), [60]⟩,
       ⟨(some 67), none, false, .bin .eql (.t 66) (.k (intV 0)), [66]⟩,
       ⟨(some 68), none, true, .mov (.t 67), [67]⟩,
       ⟨(some 69), (some (68, true)), false, .fa 0 (.t 10), []⟩,
       ⟨(some 70), (some (68, true)), false, .ld false 1 (.t 69), [69]⟩,
       ⟨(some 71), (some (68, true)), false, .bin .eql (.t 70) (.k (intV 3)), [70]⟩,
       ⟨(some 72), (some (68, true)), true, .mov (.t 71), [71]⟩,
       ⟨(some 73), (some (72, false)), false, .fa 0 (.t 10), []⟩,
       ⟨(some 74), (some (72, false)), false, .ld false 1 (.t 73), [73]⟩,
       ⟨(some 75), (some (72, false)), false, .bin .eql (.t 74) (.k (intV 4)), [74]⟩,
       ⟨(some 76), (some (68, true)), false, .pick (.t 72) (.k (boolV true)) (.t 75), [72, 75]⟩,
       ⟨(some 77), none, false, .pick (.t 68) (.t 76) (.k (boolV false)), [68, 76]⟩])
     (.cond (.t 77)
      (.reg [⟨(some 78), none, false, .mov (.t 7), [8, 77]⟩,
         ⟨(some 79), none, false, .slen (.t 78), [78]⟩,
         ⟨(some 8), none, false, .mov (.t 79), [79]⟩])
      (.skip)))
     (.seq (.seq (.reg [⟨(some 80), none, false, .mov (.t 12), [12, 77]⟩,
       ⟨(some 81), none, false, .bin .eql (.t 80) (.k (intV 0)), [80]⟩,
       ⟨(some 82), none, true, .mov (.t 81), [81]⟩,
       ⟨(some 83), (some (82, true)), false, .fa 0 (.t 10), []⟩,
       ⟨(some 84), (some (82, true)), false, .ld false 1 (.t 83), [83]⟩,
       ⟨(some 85), (some (82, true)), false, .bin .eql (.t 84) (.k (intV 5)), [84]⟩,
       ⟨(some 86), none, false, .pick (.t 82) (.t 85) (.k (boolV false)), [82, 85]⟩])
     (.cond (.t 86)
      (.seq (.seq (.reg [⟨(some 87), none, false, .fa 1 (.t 10), [86]⟩,
         ⟨(some 88), none, false, .ld false 1 (.t 87), [87]⟩,
         ⟨(some 89), none, false, .bin .lss (.t 88) (.k (intV 0)), [88]⟩,
         ⟨(some 90), none, true, .mov (.t 89), [89]⟩,
         ⟨(some 91), (some (90, false)), false, .fa 1 (.t 10), []⟩,
         ⟨(some 92), (some (90, false)), false, .ld false 1 (.t 91), [91]⟩,
         ⟨(some 93), (some (90, false)), false, .mov (.t 7), []⟩,
         ⟨(some 94), (some (90, false)), false, .slen (.t 93), [93]⟩,
         ⟨(some 95), (some (90, false)), false, .bin .gtr (.t 92) (.t 94), [92, 94]⟩,
         ⟨(some 96), none, false, .pick (.t 90) (.k (boolV true)) (.t 95), [90, 95]⟩])
       (.cond (.t 96)
        (.seq (.reg [⟨(some 4), none, false, .mov (.k (boolV false)), [0, 1, 5, 9, 10, 11, 7, 8, 96]⟩])
         (.ret))
        (.skip)))
       (.seq (.reg [⟨(some 97), none, false, .mov (.t 7), [4, 7, 96]⟩,
         ⟨(some 98), none, false, .fa 1 (.t 10), []⟩,
         ⟨(some 99), none, false, .ld false 1 (.t 98), [98]⟩,
         ⟨(some 100), none, false, .sls (.t 97) none (some (.t 99)), [97, 99]⟩,
         ⟨(some 7), none, false, .mov (.t 100), [100]⟩])
       (.reg [⟨(some 101), none, false, .mov (.t 8), [8]⟩,
         ⟨(some 102), none, false, .fa 1 (.t 10), []⟩,
         ⟨(some 103), none, false, .ld false 1 (.t 102), [102]⟩,
         ⟨(some 104), none, false, .mm false (.t 101) (.t 103), [101, 103]⟩,
         ⟨(some 8), none, false, .mov (.t 104), [104]⟩])))
      (.skip)))
     (.seq (.reg [⟨(some 105), none, false, .ld true 5 (.t 11), [11, 86]⟩,
       ⟨none, none, false, .st 5 (.t 5) (.t 105), [105]⟩])
     (.seq (.seq (.reg [⟨(some 106), none, false, .fa 1 (.t 5), []⟩,
       ⟨(some 107), none, false, .ld false 1 (.t 106), [106]⟩,
       ⟨(some 108), none, false, .len (.t 107), [107]⟩,
       ⟨(some 109), none, false, .mov (.t 7), []⟩,
       ⟨(some 110), none, false, .slen (.t 109), [109]⟩,
       ⟨(some 111), none, false, .bin .gtr (.t 108) (.t 110), [108, 110]⟩,
       ⟨(some 112), none, true, .mov (.t 111), [111]⟩,
       ⟨(some 113), (some (112, false)), false, .fa 1 (.t 5), []⟩,
       ⟨(some 114), (some (112, false)), false, .ld false 1 (.t 113), [113]⟩,
       ⟨(some 115), (some (112, false)), false, .b2s (.t 114), [114]⟩,
       ⟨(some 116), (some (112, false)), false, .mov (.t 7), []⟩,
       ⟨(some 117), (some (112, false)), false, .fa 1 (.t 5), []⟩,
       ⟨(some 118), (some (112, false)), false, .ld false 1 (.t 117), [117]⟩,
       ⟨(some 119), (some (112, false)), false, .len (.t 118), [118]⟩,
       ⟨(some 120), (some (112, false)), false, .sls (.t 116) none (some (.t 119)), [116, 119]⟩,
       ⟨(some 121), (some (112, false)), false, .bin .neq (.t 115) (.t 120), [115, 120]⟩,
       ⟨(some 122), none, false, .pick (.t 112) (.k (boolV true)) (.t 121), [112, 121]⟩,
       ⟨(some 123), none, true, .mov (.t 122), [122]⟩,
       ⟨(some 124), (some (123, false)), false, .fa 1 (.t 5), []⟩,
       ⟨(some 125), (some (123, false)), false, .ld false 1 (.t 124), [124]⟩,
       ⟨(some 126), (some (123, false)), false, .len (.t 125), [125]⟩,
       ⟨(some 127), (some (123, false)), false, .mov (.t 8), []⟩,
       ⟨(some 128), (some (123, false)), false, .bin .lss (.t 126) (.t 127), [126, 127]⟩,
       ⟨(some 129), none, false, .pick (.t 123) (.k (boolV true)) (.t 128), [123, 128]⟩])
     (.cond (.t 129)
      (.seq (.reg [⟨(some 4), none, false, .mov (.k (boolV false)), [0, 1, 5, 9, 10, 7, 8, 129]⟩])
       (.ret))
      (.skip)))
     (.seq (.seq (.reg [⟨(some 130), none, false, .fa 0 (.t 10), [4, 129]⟩,
       ⟨(some 131), none, false, .ld false 1 (.t 130), [130]⟩,
       ⟨(some 132), none, false, .bin .eql (.t 131) (.k (intV 7)), [131]⟩,
       ⟨(some 133), none, true, .mov (.t 132), [132]⟩,
       ⟨(some 134), (some (133, false)), false, .fa 4 (.t 5), []⟩,
       ⟨(some 135), (some (133, false)), false, .ld false 1 (.t 134), [134]⟩,
       ⟨(some 136), none, false, .pick (.t 133) (.k (boolV true)) (.t 135), [133, 135]⟩])
     (.cond (.t 136)
      (.reg [⟨(some 137), none, false, .fa 1 (.t 5), [7, 136]⟩,
         ⟨(some 138), none, false, .ld false 1 (.t 137), [137]⟩,
         ⟨(some 139), none, false, .b2s (.t 138), [138]⟩,
         ⟨(some 7), none, false, .mov (.t 139), [139]⟩])
      (.skip)))
     (.seq (.reg [⟨(some 140), none, false, .fa 0 (.t 10), [10, 136]⟩,
       ⟨(some 141), none, false, .ld false 1 (.t 140), [140]⟩,
       ⟨(some 142), none, false, .bin .eql (.t 141) (.k (intV 7)), [141]⟩])
     (.cond (.t 142)
      (.reg [⟨(some 143), none, false, .fa 1 (.t 5), [8, 142]⟩,
         ⟨(some 144), none, false, .ld false 1 (.t 143), [143]⟩,
         ⟨(some 145), none, false, .len (.t 144), [144]⟩,
         ⟨(some 8), none, false, .mov (.t 145), [145]⟩])
      (.skip)))))))))))))
    (.reg [⟨(some 30), none, false, .mov (.t 9), [9, 142, 29]⟩,
      ⟨(some 31), none, false, .bin .add (.t 30) (.k (intV 1)), [30]⟩,
      ⟨(some 9), none, false, .mov (.t 31), [31]⟩]))))))
 (.seq (.reg [⟨(some 146), none, false, .ld true 5 (.t 5), [0, 7, 9]⟩,
   ⟨(some 147), none, false, .mov (.t 1), [1]⟩,
   ⟨(some 148), none, false, .call 17 [(.t 146), (.t 147)], [146, 147]⟩,
   ⟨(some 13), none, false, .alloc [(.d (.lit (.int .i64 0))), .nil, (.d (.lit (.int .i64 0))), (.d (.lit (.int .i64 0))), (.d (.lit (.bool false)))], []⟩,
   ⟨none, none, false, .st 5 (.t 13) (.t 148), [148]⟩])
 (.seq (.reg [⟨(some 149), none, false, .fa 1 (.t 13), []⟩,
   ⟨(some 150), none, false, .ld false 1 (.t 149), [149]⟩,
   ⟨(some 151), none, false, .len (.t 150), [150]⟩,
   ⟨(some 152), none, false, .fa 1 (.t 5), []⟩,
   ⟨(some 153), none, false, .ld false 1 (.t 152), [152]⟩,
   ⟨(some 154), none, false, .len (.t 153), [153]⟩,
   ⟨(some 155), none, false, .bin .leq (.t 151) (.t 154), [151, 154]⟩,
   ⟨(some 156), none, true, .mov (.t 155), [155]⟩,
   ⟨(some 157), (some (156, true)), false, .fa 1 (.t 13), []⟩,
   ⟨(some 158), (some (156, true)), false, .ld false 1 (.t 157), [157]⟩,
   ⟨(some 159), (some (156, true)), false, .b2s (.t 158), [158]⟩,
   ⟨(some 160), (some (156, true)), false, .fa 1 (.t 5), [5]⟩,
   ⟨(some 161), (some (156, true)), false, .ld false 1 (.t 160), [160]⟩,
   ⟨(some 162), (some (156, true)), false, .fa 1 (.t 13), []⟩,
   ⟨(some 163), (some (156, true)), false, .ld false 1 (.t 162), [162]⟩,
   ⟨(some 164), (some (156, true)), false, .len (.t 163), [163]⟩,
   ⟨(some 165), (some (156, true)), false, .sli 1 (.t 161) none (some (.t 164)), [161, 164]⟩,
   ⟨(some 166), (some (156, true)), false, .b2s (.t 165), [165]⟩,
   ⟨(some 167), (some (156, true)), false, .bin .eql (.t 159) (.t 166), [159, 166]⟩,
   ⟨(some 168), none, false, .pick (.t 156) (.t 167) (.k (boolV false)), [156, 167]⟩,
   ⟨(some 169), none, true, .mov (.t 168), [168]⟩,
   ⟨(some 170), (some (169, true)), false, .fa 1 (.t 13), []⟩,
   ⟨(some 171), (some (169, true)), false, .ld false 1 (.t 170), [170]⟩,
   ⟨(some 172), (some (169, true)), false, .len (.t 171), [171]⟩,
   ⟨(some 173), (some (169, true)), false, .mov (.t 8), [8]⟩,
   ⟨(some 174), (some (169, true)), false, .bin .geq (.t 172) (.t 173), [172, 173]⟩,
   ⟨(some 175), none, false, .pick (.t 169) (.t 174) (.k (boolV false)), [169, 174]⟩,
   ⟨(some 176), none, true, .mov (.t 175), [175]⟩,
   ⟨(some 177), (some (176, true)), false, .fa 2 (.t 13), []⟩,
   ⟨(some 178), (some (176, true)), false, .ld false 1 (.t 177), [177]⟩,
   ⟨(some 179), (some (176, true)), false, .fa 1 (.t 13), []⟩,
   ⟨(some 180), (some (176, true)), false, .ld false 1 (.t 179), [179]⟩,
   ⟨(some 181), (some (176, true)), false, .len (.t 180), [180]⟩,
   ⟨(some 182), (some (176, true)), false, .bin .eql (.t 178) (.t 181), [178, 181]⟩,
   ⟨(some 183), none, false, .pick (.t 176) (.t 182) (.k (boolV false)), [176, 182]⟩,
   ⟨(some 184), none, true, .mov (.t 183), [183]⟩,
   ⟨(some 185), (some (184, true)), false, .fa 4 (.t 13), []⟩,
   ⟨(some 186), (some (184, true)), false, .ld false 1 (.t 185), [185]⟩,
   ⟨(some 187), (some (184, true)), false, .pure (.unOp .not 4 (.tmp 186)) 4, [186]⟩,
   ⟨(some 188), none, false, .pick (.t 184) (.t 187) (.k (boolV false)), [184, 187]⟩,
   ⟨(some 189), none, true, .mov (.t 188), [188]⟩,
   ⟨(some 190), (some (189, true)), false, .fa 3 (.t 13), [13]⟩,
   ⟨(some 191), (some (189, true)), false, .ld false 1 (.t 190), [190]⟩,
   ⟨(some 192), (some (189, true)), false, .bin .eql (.t 191) (.k (intV (-1))), [191]⟩,
   ⟨(some 193), none, false, .pick (.t 189) (.t 192) (.k (boolV false)), [189, 192]⟩,
   ⟨(some 4), none, false, .mov (.t 193), [193]⟩])
 (.ret))))))),
 [.tmp 4]⟩
def O5 : List (Nat × List Nat) := [(21, [0, 1, 2, 3, 4, 5, 6, 7, 8, 9, 10, 11, 12, 13, 14, 15, 16, 17, 18, 19, 20, 21, 22, 23]), (28, [0, 1, 2, 3, 4, 5, 6, 7, 8, 9, 10, 11, 12, 13, 14, 15, 16, 17, 18, 19, 20, 21, 22, 23, 24, 25, 26, 27, 28, 29, 30, 31, 32, 33, 34, 35, 36, 37, 38, 39, 40, 41, 42, 43, 44, 45])]
theorem F5_ok : cFun Try.prog O5 5 = some F5.erase := by kernel_rfl

/-- tracebook/tracebooklaw13.DiskDown -/
def F6 : AFun := ⟨
 .seq (.reg [⟨(some 2), none, false, .bx (.t 0), [0]⟩,
   ⟨(some 3), none, false, .bx (.t 1), [1]⟩,
   ⟨(some 4), none, false, .mov (.k (boolV false)), [4]⟩])
 (.seq (.seq (.reg [⟨(some 7), none, false, .call 8 [], []⟩,
   ⟨(some 8), none, false, .pure (.unOp .not 4 (.tmp 7)) 4, [7]⟩,
   ⟨(some 9), none, true, .mov (.t 8), [8]⟩,
   ⟨(some 10), (some (9, false)), false, .fa 1 (.t 2), []⟩,
   ⟨(some 11), (some (9, false)), false, .ld false 1 (.t 10), [10]⟩,
   ⟨(some 12), (some (9, false)), false, .len (.t 11), [11]⟩,
   ⟨(some 13), (some (9, false)), false, .bin .gtr (.t 12) (.k (intV 300)), [12]⟩,
   ⟨(some 14), none, false, .pick (.t 9) (.k (boolV true)) (.t 13), [9, 13]⟩,
   ⟨(some 15), none, true, .mov (.t 14), [14]⟩,
   ⟨(some 16), (some (15, false)), false, .fa 2 (.t 3), []⟩,
   ⟨(some 17), (some (15, false)), false, .ld false 1 (.t 16), [16]⟩,
   ⟨(some 18), (some (15, false)), false, .len (.t 17), [17]⟩,
   ⟨(some 19), (some (15, false)), false, .bin .gtr (.t 18) (.k (intV 100)), [18]⟩,
   ⟨(some 20), none, false, .pick (.t 15) (.k (boolV true)) (.t 19), [15, 19]⟩,
   ⟨(some 21), none, true, .mov (.t 20), [20]⟩,
   ⟨(some 22), (some (21, false)), false, .fa 0 (.t 3), []⟩,
   ⟨(some 23), (some (21, false)), false, .ld false 1 (.t 22), [22]⟩,
   ⟨(some 24), (some (21, false)), false, .bin .eql (.t 23) (.k (intV 7)), [23]⟩,
   ⟨(some 25), none, false, .pick (.t 21) (.k (boolV true)) (.t 24), [21, 24]⟩])
 (.cond (.t 25)
  (.seq (.reg [⟨(some 26), none, false, .call 8 [], [2, 3, 25]⟩,
     ⟨(some 4), none, false, .mov (.t 26), [26]⟩])
   (.ret))
  (.skip)))
 (.seq (.reg [⟨(some 27), none, false, .fa 4 (.t 2), [4, 25]⟩,
   ⟨none, none, false, .st 1 (.t 27) (.k (boolV true)), [27]⟩])
 (.seq (.seq (.reg [⟨(some 28), none, false, .ld true 5 (.t 2), []⟩,
   ⟨(some 29), none, false, .call 15 [(.t 28)], [28]⟩,
   ⟨(some 30), none, false, .bin .neq (.t 29) (.k (intV 0)), [29]⟩])
 (.cond (.t 30)
  (.seq (.reg [⟨(some 4), none, false, .mov (.k (boolV true)), [2, 3, 30]⟩])
   (.ret))
  (.skip)))
 (.seq (.reg [⟨(some 32), none, false, .ld true 5 (.t 2), [4, 30]⟩,
   ⟨(some 33), none, false, .ld true 3 (.t 3), [3]⟩,
   ⟨(some 34), none, false, .call 13 [(.t 32), (.t 33)], [32, 33]⟩,
   ⟨(some 31), none, false, .mov (.t 34), [34]⟩,
   ⟨(some 35), none, false, .ext (.t 31) 0, []⟩,
   ⟨(some 36), none, false, .ext (.t 31) 1, [31]⟩,
   ⟨(some 5), none, false, .alloc [(.d (.lit (.int .i64 0))), .nil, (.d (.lit (.int .i64 0))), (.d (.lit (.int .i64 0))), (.d (.lit (.bool false)))], []⟩,
   ⟨none, none, false, .st 5 (.t 5) (.t 35), [35]⟩,
   ⟨(some 6), none, false, .mov (.t 36), [36]⟩])
 (.seq (.reg [⟨(some 37), none, false, .mov (.t 6), [6]⟩,
   ⟨(some 38), none, false, .bin .eql (.t 37) (.k (intV 19)), [37]⟩,
   ⟨(some 39), none, true, .mov (.t 38), [38]⟩,
   ⟨(some 40), (some (39, true)), false, .ld true 5 (.t 5), [5]⟩,
   ⟨(some 41), (some (39, true)), false, .ld true 5 (.t 2), [2]⟩,
   ⟨(some 42), (some (39, true)), false, .call 12 [(.t 40), (.t 41)], [40, 41]⟩,
   ⟨(some 43), none, false, .pick (.t 39) (.t 42) (.k (boolV false)), [39, 42]⟩,
   ⟨(some 4), none, false, .mov (.t 43), [43]⟩])
 (.ret)))))),
 [.tmp 4]⟩
def O6 : List (Nat × List Nat) := []
theorem F6_ok : cFun Try.prog O6 6 = some F6.erase := by kernel_rfl

/-- tracebook/tracebooklaw13.DiskKeeps -/
def F7 : AFun := ⟨
 .seq (.reg [⟨(some 6), none, false, .mov (.k (boolV false)), [6]⟩])
 (.seq (.seq (.reg [⟨(some 15), none, false, .call 8 [], []⟩,
   ⟨(some 16), none, false, .pure (.unOp .not 4 (.tmp 15)) 4, [15]⟩,
   ⟨(some 17), none, true, .mov (.t 16), [16]⟩,
   ⟨(some 18), (some (17, false)), false, .mov (.t 1), []⟩,
   ⟨(some 19), (some (17, false)), false, .call 9 [(.t 18)], [18]⟩,
   ⟨(some 20), (some (17, false)), false, .pure (.unOp .not 4 (.tmp 19)) 4, [19]⟩,
   ⟨(some 21), none, false, .pick (.t 17) (.k (boolV true)) (.t 20), [17, 20]⟩,
   ⟨(some 22), none, true, .mov (.t 21), [21]⟩,
   ⟨(some 23), (some (22, false)), false, .mov (.t 0), []⟩,
   ⟨(some 24), (some (22, false)), false, .len (.t 23), [23]⟩,
   ⟨(some 25), (some (22, false)), false, .bin .gtr (.t 24) (.k (intV 100)), [24]⟩,
   ⟨(some 26), none, false, .pick (.t 22) (.k (boolV true)) (.t 25), [22, 25]⟩])
 (.cond (.t 26)
  (.seq (.reg [⟨(some 27), none, false, .call 8 [], [0, 1, 2, 26]⟩,
     ⟨(some 6), none, false, .mov (.t 27), [27]⟩])
   (.ret))
  (.skip)))
 (.seq (.reg [⟨(some 29), none, false, .call 10 [(.k (intV 1000))], [6, 26]⟩,
   ⟨(some 28), none, false, .mov (.t 29), [29]⟩,
   ⟨(some 30), none, false, .ext (.t 28) 0, []⟩,
   ⟨(some 31), none, false, .ext (.t 28) 1, [28]⟩,
   ⟨(some 7), none, false, .alloc [(.d (.lit (.int .i64 0))), .nil, (.d (.lit (.int .i64 0))), (.d (.lit (.int .i64 0))), (.d (.lit (.bool false)))], []⟩,
   ⟨none, none, false, .st 5 (.t 7) (.t 30), [30]⟩,
   ⟨(some 8), none, false, .mov (.t 31), [31, 8]⟩])
 (.seq (.reg [⟨(some 33), none, false, .ld true 5 (.t 7), []⟩,
   ⟨(some 34), none, false, .mov (.t 0), []⟩,
   ⟨(some 35), none, false, .call 18 [(.t 33), (.t 34)], [33, 34]⟩,
   ⟨(some 32), none, false, .mov (.t 35), [35]⟩,
   ⟨(some 36), none, false, .ext (.t 32) 0, []⟩,
   ⟨(some 37), none, false, .ext (.t 32) 1, [32]⟩,
   ⟨none, none, false, .st 5 (.t 7) (.t 36), [36]⟩,
   ⟨(some 9), none, false, .mov (.t 37), [37]⟩])
 (.seq (.reg [⟨(some 39), none, false, .ld true 5 (.t 7), []⟩,
   ⟨(some 40), none, false, .call 19 [(.t 39)], [39]⟩,
   ⟨(some 38), none, false, .mov (.t 40), [40]⟩,
   ⟨(some 41), none, false, .ext (.t 38) 0, []⟩,
   ⟨(some 42), none, false, .ext (.t 38) 1, [38]⟩,
   ⟨none, none, false, .st 5 (.t 7) (.t 41), [41]⟩,
   ⟨(some 10), none, false, .mov (.t 42), [42]⟩])
 (.seq (.seq (.reg [⟨(some 43), none, false, .mov (.t 9), [9]⟩,
   ⟨(some 44), none, false, .bin .neq (.t 43) (.k (intV 0)), [43]⟩,
   ⟨(some 45), none, true, .mov (.t 44), [44]⟩,
   ⟨(some 46), (some (45, false)), false, .mov (.t 10), [10]⟩,
   ⟨(some 47), (some (45, false)), false, .bin .neq (.t 46) (.k (intV 0)), [46]⟩,
   ⟨(some 48), none, false, .pick (.t 45) (.k (boolV true)) (.t 47), [45, 47]⟩])
 (.cond (.t 48)
  (.seq (.reg [⟨(some 6), none, false, .mov (.k (boolV false)), [0, 1, 2, 7, 48]⟩])
   (.ret))
  (.skip)))
 (.seq (.seq (.reg [⟨(some 11), none, false, .mov (.k (intV 0)), [6, 48]⟩])
 (.block 0 (.loop [0, 1, 2, 7, 11]
   (.seq (.seq (.reg [⟨(some 49), none, false, .mov (.t 11), []⟩,
      ⟨(some 50), none, false, .mov (.t 1), []⟩,
      ⟨(some 51), none, false, .len (.t 50), [50]⟩,
      ⟨(some 52), none, false, .bin .lss (.t 49) (.t 51), [49, 51]⟩])
    (.cond (.t 52)
     (.skip)
     (.exit 0)))
    (.seq (.block 1 (.seq (.reg [⟨(some 56), none, false, .ld true 5 (.t 7), [52]⟩,
       ⟨(some 57), none, false, .mov (.t 1), []⟩,
       ⟨(some 58), none, false, .mov (.t 11), []⟩,
       ⟨(some 59), none, false, .ia 3 (.t 57) (.t 58), [57, 58]⟩,
       ⟨(some 60), none, false, .ld true 3 (.t 59), [59]⟩,
       ⟨(some 61), none, false, .call 13 [(.t 56), (.t 60)], [56, 60]⟩,
       ⟨(some 55), none, false, .mov (.t 61), [61]⟩,
       ⟨(some 62), none, false, .ext (.t 55) 0, []⟩,
       ⟨(some 63), none, false, .ext (.t 55) 1, [55]⟩,
       ⟨(some 12), none, false, .alloc [(.d (.lit (.int .i64 0))), .nil, (.d (.lit (.int .i64 0))), (.d (.lit (.int .i64 0))), (.d (.lit (.bool false)))], []⟩,
       ⟨none, none, false, .st 5 (.t 12) (.t 62), [62]⟩,
       ⟨(some 13), none, false, .mov (.t 63), [63]⟩])
     (.seq (.reg [⟨(some 64), none, false, .mov (.t 1), []⟩,
       ⟨(some 65), none, false, .mov (.t 11), []⟩,
       ⟨(some 66), none, false, .ia 3 (.t 64) (.t 65), [64, 65]⟩,
       ⟨(some 67), none, false, .fa 0 (.t 66), [66]⟩,
       ⟨(some 68), none, false, .ld false 1 (.t 67), [67]⟩,
       ⟨(some 69), none, false, .bin .neq (.t 68) (.k (intV 5)), [68]⟩,
       ⟨(some 70), none, true, .mov (.t 69), [69]⟩,
       ⟨(some 71), (some (70, true)), false, .mov (.t 13), []⟩,
       ⟨(some 72), (some (70, true)), false, .bin .eql (.t 71) (.k (intV 0)), [71]⟩,
       ⟨(some 73), (some (70, true)), true, .mov (.t 72), [72]⟩,
       ⟨(some 74), (some (73, false)), false, .mov (.t 13), [13]⟩,
       ⟨(some 75), (some (73, false)), false, .bin .eql (.t 74) (.k (intV 19)), [74]⟩,
       ⟨(some 76), (some (70, true)), false, .pick (.t 73) (.k (boolV true)) (.t 75), [73, 75]⟩,
       ⟨(some 77), none, false, .pick (.t 70) (.t 76) (.k (boolV false)), [70, 76]⟩])
     (.cond (.t 77)
      (.reg [⟨(some 78), none, false, .ld true 5 (.t 12), [12, 77]⟩,
         ⟨none, none, false, .st 5 (.t 7) (.t 78), [78]⟩])
      (.skip)))))
    (.reg [⟨(some 53), none, false, .mov (.t 11), [11, 12, 77, 52]⟩,
      ⟨(some 54), none, false, .bin .add (.t 53) (.k (intV 1)), [53]⟩,
      ⟨(some 11), none, false, .mov (.t 54), [54]⟩]))))))
 (.seq (.reg [⟨(some 79), none, false, .ld true 5 (.t 7), [1, 7, 11]⟩,
   ⟨(some 80), none, false, .mov (.t 2), [2]⟩,
   ⟨(some 81), none, false, .call 17 [(.t 79), (.t 80)], [79, 80]⟩,
   ⟨(some 14), none, false, .alloc [(.d (.lit (.int .i64 0))), .nil, (.d (.lit (.int .i64 0))), (.d (.lit (.int .i64 0))), (.d (.lit (.bool false)))], []⟩,
   ⟨none, none, false, .st 5 (.t 14) (.t 81), [81]⟩])
 (.seq (.reg [⟨(some 82), none, false, .fa 1 (.t 14), []⟩,
   ⟨(some 83), none, false, .ld false 1 (.t 82), [82]⟩,
   ⟨(some 84), none, false, .len (.t 83), [83]⟩,
   ⟨(some 85), none, false, .mov (.t 0), []⟩,
   ⟨(some 86), none, false, .len (.t 85), [85]⟩,
   ⟨(some 87), none, false, .bin .geq (.t 84) (.t 86), [84, 86]⟩,
   ⟨(some 88), none, true, .mov (.t 87), [87]⟩,
   ⟨(some 89), (some (88, true)), false, .fa 1 (.t 14), [14]⟩,
   ⟨(some 90), (some (88, true)), false, .ld false 1 (.t 89), [89]⟩,
   ⟨(some 91), (some (88, true)), false, .mov (.t 0), []⟩,
   ⟨(some 92), (some (88, true)), false, .len (.t 91), [91]⟩,
   ⟨(some 93), (some (88, true)), false, .sli 1 (.t 90) none (some (.t 92)), [90, 92]⟩,
   ⟨(some 94), (some (88, true)), false, .b2s (.t 93), [93]⟩,
   ⟨(some 95), (some (88, true)), false, .mov (.t 0), [0]⟩,
   ⟨(some 96), (some (88, true)), false, .b2s (.t 95), [95]⟩,
   ⟨(some 97), (some (88, true)), false, .bin .eql (.t 94) (.t 96), [94, 96]⟩,
   ⟨(some 98), none, false, .pick (.t 88) (.t 97) (.k (boolV false)), [88, 97]⟩,
   ⟨(some 6), none, false, .mov (.t 98), [98]⟩])
 (.ret))))))))),
 [.tmp 6]⟩
def O7 : List (Nat × List Nat) := [(11, [0, 1, 2, 3, 4, 5, 6, 7, 8, 9, 10, 11]), (15, [0, 1, 2, 3, 4, 5, 6, 7, 8, 9, 10, 11, 12, 13, 14, 15, 16, 17])]
theorem F7_ok : cFun Try.prog O7 7 = some F7.erase := by kernel_rfl

/-- tracebook/tracebooklaw13.awake -/
def F8 : AFun := ⟨
 .seq (.reg [⟨(some 0), none, false, .mov (.k (boolV false)), [0]⟩])
 (.seq (.reg [⟨(some 12), none, false, .call 10 [(.k (intV 10))], []⟩,
   ⟨(some 11), none, false, .mov (.t 12), [12]⟩,
   ⟨(some 13), none, false, .ext (.t 11) 0, []⟩,
   ⟨(some 14), none, false, .ext (.t 11) 1, [11]⟩,
   ⟨(some 1), none, false, .alloc [(.d (.lit (.int .i64 0))), .nil, (.d (.lit (.int .i64 0))), (.d (.lit (.int .i64 0))), (.d (.lit (.bool false)))], []⟩,
   ⟨none, none, false, .st 5 (.t 1) (.t 13), [13]⟩,
   ⟨(some 2), none, false, .mov (.t 14), [14]⟩])
 (.seq (.reg [⟨(some 16), none, false, .ld true 5 (.t 1), []⟩,
   ⟨(some 17), none, false, .call 20 [(.t 16), (.k (intV 3))], [16]⟩,
   ⟨(some 15), none, false, .mov (.t 17), [17]⟩,
   ⟨(some 18), none, false, .ext (.t 15) 0, []⟩,
   ⟨(some 19), none, false, .ext (.t 15) 1, [15]⟩,
   ⟨none, none, false, .st 5 (.t 1) (.t 18), [18]⟩,
   ⟨(some 3), none, false, .mov (.t 19), [19]⟩])
 (.seq (.reg [⟨(some 21), none, false, .ld true 5 (.t 1), []⟩,
   ⟨(some 22), none, false, .lits 1 [(.k (.w (.c (.d (.lit (.int .u8 1)))))), (.k (.w (.c (.d (.lit (.int .u8 2)))))), (.k (.w (.c (.d (.lit (.int .u8 3)))))), (.k (.w (.c (.d (.lit (.int .u8 4)))))), (.k (.w (.c (.d (.lit (.int .u8 5))))))], []⟩,
   ⟨(some 23), none, false, .call 18 [(.t 21), (.t 22)], [21, 22]⟩,
   ⟨(some 20), none, false, .mov (.t 23), [23]⟩,
   ⟨(some 24), none, false, .ext (.t 20) 0, []⟩,
   ⟨(some 25), none, false, .ext (.t 20) 1, [20]⟩,
   ⟨none, none, false, .st 5 (.t 1) (.t 24), [24]⟩,
   ⟨(some 4), none, false, .mov (.t 25), [25]⟩])
 (.seq (.reg [⟨(some 26), none, false, .ld true 5 (.t 1), []⟩,
   ⟨(some 27), none, false, .call 17 [(.t 26), (.k (intV 1))], [26]⟩,
   ⟨(some 5), none, false, .alloc [(.d (.lit (.int .i64 0))), .nil, (.d (.lit (.int .i64 0))), (.d (.lit (.int .i64 0))), (.d (.lit (.bool false)))], []⟩,
   ⟨none, none, false, .st 5 (.t 5) (.t 27), [27]⟩])
 (.seq (.reg [⟨(some 29), none, false, .ld true 5 (.t 5), []⟩,
   ⟨(some 30), none, false, .call 20 [(.t 29), (.k (intV 0))], [29]⟩,
   ⟨(some 28), none, false, .mov (.t 30), [30]⟩,
   ⟨(some 31), none, false, .ext (.t 28) 0, []⟩,
   ⟨(some 32), none, false, .ext (.t 28) 1, [28]⟩,
   ⟨(some 6), none, false, .alloc [(.d (.lit (.int .i64 0))), .nil, (.d (.lit (.int .i64 0))), (.d (.lit (.int .i64 0))), (.d (.lit (.bool false)))], []⟩,
   ⟨none, none, false, .st 5 (.t 6) (.t 31), [31]⟩,
   ⟨(some 7), none, false, .mov (.t 32), [32]⟩])
 (.seq (.reg [⟨(some 34), none, false, .ld true 5 (.t 6), []⟩,
   ⟨(some 35), none, false, .call 18 [(.t 34), (.k (.w (.c .nil)))], [34]⟩,
   ⟨(some 33), none, false, .mov (.t 35), [35]⟩,
   ⟨(some 36), none, false, .ext (.t 33) 0, []⟩,
   ⟨(some 37), none, false, .ext (.t 33) 1, [33]⟩,
   ⟨none, none, false, .st 5 (.t 6) (.t 36), [36]⟩,
   ⟨(some 8), none, false, .mov (.t 37), [37]⟩])
 (.seq (.reg [⟨(some 39), none, false, .ld true 5 (.t 6), [6]⟩,
   ⟨(some 40), none, false, .call 19 [(.t 39)], [39]⟩,
   ⟨(some 38), none, false, .mov (.t 40), [40]⟩,
   ⟨(some 41), none, false, .ext (.t 38) 0, []⟩,
   ⟨(some 42), none, false, .ext (.t 38) 1, [38]⟩,
   ⟨(some 9), none, false, .alloc [(.d (.lit (.int .i64 0))), .nil, (.d (.lit (.int .i64 0))), (.d (.lit (.int .i64 0))), (.d (.lit (.bool false)))], []⟩,
   ⟨none, none, false, .st 5 (.t 9) (.t 41), [41, 9]⟩,
   ⟨(some 10), none, false, .mov (.t 42), [42]⟩])
 (.seq (.reg [⟨(some 43), none, false, .mov (.t 2), [2]⟩,
   ⟨(some 44), none, false, .bin .eql (.t 43) (.k (intV 0)), [43]⟩,
   ⟨(some 45), none, true, .mov (.t 44), [44]⟩,
   ⟨(some 46), (some (45, true)), false, .mov (.t 3), [3]⟩,
   ⟨(some 47), (some (45, true)), false, .bin .eql (.t 46) (.k (intV 0)), [46]⟩,
   ⟨(some 48), none, false, .pick (.t 45) (.t 47) (.k (boolV false)), [45, 47]⟩,
   ⟨(some 49), none, true, .mov (.t 48), [48]⟩,
   ⟨(some 50), (some (49, true)), false, .mov (.t 4), [4]⟩,
   ⟨(some 51), (some (49, true)), false, .bin .eql (.t 50) (.k (intV 19)), [50]⟩,
   ⟨(some 52), none, false, .pick (.t 49) (.t 51) (.k (boolV false)), [49, 51]⟩,
   ⟨(some 53), none, true, .mov (.t 52), [52]⟩,
   ⟨(some 54), (some (53, true)), false, .fa 4 (.t 1), []⟩,
   ⟨(some 55), (some (53, true)), false, .ld false 1 (.t 54), [54]⟩,
   ⟨(some 56), none, false, .pick (.t 53) (.t 55) (.k (boolV false)), [53, 55]⟩,
   ⟨(some 57), none, true, .mov (.t 56), [56]⟩,
   ⟨(some 58), (some (57, true)), false, .fa 1 (.t 1), [1]⟩,
   ⟨(some 59), (some (57, true)), false, .ld false 1 (.t 58), [58]⟩,
   ⟨(some 60), (some (57, true)), false, .len (.t 59), [59]⟩,
   ⟨(some 61), (some (57, true)), false, .bin .eql (.t 60) (.k (intV 3)), [60]⟩,
   ⟨(some 62), none, false, .pick (.t 57) (.t 61) (.k (boolV false)), [57, 61]⟩,
   ⟨(some 63), none, true, .mov (.t 62), [62]⟩,
   ⟨(some 64), (some (63, true)), false, .fa 1 (.t 5), []⟩,
   ⟨(some 65), (some (63, true)), false, .ld false 1 (.t 64), [64]⟩,
   ⟨(some 66), (some (63, true)), false, .b2s (.t 65), [65]⟩,
   ⟨(some 67), (some (63, true)), false, .bin .eql (.t 66) (.k (.w (.c (.d (.lit (.string ⟨#[1]⟩)))))), [66]⟩,
   ⟨(some 68), none, false, .pick (.t 63) (.t 67) (.k (boolV false)), [63, 67]⟩,
   ⟨(some 69), none, true, .mov (.t 68), [68]⟩,
   ⟨(some 70), (some (69, true)), false, .fa 2 (.t 5), []⟩,
   ⟨(some 71), (some (69, true)), false, .ld false 1 (.t 70), [70]⟩,
   ⟨(some 72), (some (69, true)), false, .bin .eql (.t 71) (.k (intV 1)), [71]⟩,
   ⟨(some 73), none, false, .pick (.t 69) (.t 72) (.k (boolV false)), [69, 72]⟩,
   ⟨(some 74), none, true, .mov (.t 73), [73]⟩,
   ⟨(some 75), (some (74, true)), false, .fa 3 (.t 5), []⟩,
   ⟨(some 76), (some (74, true)), false, .ld false 1 (.t 75), [75]⟩,
   ⟨(some 77), (some (74, true)), false, .bin .eql (.t 76) (.k (intV (-1))), [76]⟩,
   ⟨(some 78), none, false, .pick (.t 74) (.t 77) (.k (boolV false)), [74, 77]⟩,
   ⟨(some 79), none, true, .mov (.t 78), [78]⟩,
   ⟨(some 80), (some (79, true)), false, .fa 4 (.t 5), [5]⟩,
   ⟨(some 81), (some (79, true)), false, .ld false 1 (.t 80), [80]⟩,
   ⟨(some 82), (some (79, true)), false, .pure (.unOp .not 4 (.tmp 81)) 4, [81]⟩,
   ⟨(some 83), none, false, .pick (.t 79) (.t 82) (.k (boolV false)), [79, 82]⟩,
   ⟨(some 84), none, true, .mov (.t 83), [83]⟩,
   ⟨(some 85), (some (84, true)), false, .mov (.t 7), [7]⟩,
   ⟨(some 86), (some (84, true)), false, .bin .eql (.t 85) (.k (intV 0)), [85]⟩,
   ⟨(some 87), none, false, .pick (.t 84) (.t 86) (.k (boolV false)), [84, 86]⟩,
   ⟨(some 88), none, true, .mov (.t 87), [87]⟩,
   ⟨(some 89), (some (88, true)), false, .mov (.t 8), [8]⟩,
   ⟨(some 90), (some (88, true)), false, .bin .eql (.t 89) (.k (intV 0)), [89]⟩,
   ⟨(some 91), none, false, .pick (.t 88) (.t 90) (.k (boolV false)), [88, 90]⟩,
   ⟨(some 92), none, true, .mov (.t 91), [91]⟩,
   ⟨(some 93), (some (92, true)), false, .mov (.t 10), [10]⟩,
   ⟨(some 94), (some (92, true)), false, .bin .eql (.t 93) (.k (intV 19)), [93]⟩,
   ⟨(some 95), none, false, .pick (.t 92) (.t 94) (.k (boolV false)), [92, 94]⟩,
   ⟨(some 0), none, false, .mov (.t 95), [95]⟩])
 (.ret))))))))),
 [.tmp 0]⟩
def O8 : List (Nat × List Nat) := []
theorem F8_ok : cFun Try.prog O8 8 = some F8.erase := by kernel_rfl

/-- tracebook/tracebooklaw13.few -/
def F9 : AFun := ⟨
 .seq (.reg [⟨(some 2), none, false, .mov (.k (boolV false)), [2]⟩])
 (.seq (.seq (.reg [⟨(some 4), none, false, .mov (.t 0), []⟩,
   ⟨(some 5), none, false, .len (.t 4), [4]⟩,
   ⟨(some 6), none, false, .bin .gtr (.t 5) (.k (intV 40)), [5]⟩])
 (.cond (.t 6)
  (.seq (.reg [⟨(some 2), none, false, .mov (.k (boolV false)), [0, 6]⟩])
   (.ret))
  (.skip)))
 (.seq (.seq (.reg [⟨(some 3), none, false, .mov (.k (intV 0)), [2, 6]⟩])
 (.block 0 (.loop [0, 3]
   (.seq (.seq (.reg [⟨(some 7), none, false, .mov (.t 3), []⟩,
      ⟨(some 8), none, false, .mov (.t 0), []⟩,
      ⟨(some 9), none, false, .len (.t 8), [8]⟩,
      ⟨(some 10), none, false, .bin .lss (.t 7) (.t 9), [7, 9]⟩])
    (.cond (.t 10)
     (.skip)
     (.exit 0)))
    (.seq (.block 1 (.seq (.reg [⟨(some 13), none, false, .mov (.t 0), [10]⟩,
       ⟨(some 14), none, false, .mov (.t 3), []⟩,
       ⟨(some 15), none, false, .ia 3 (.t 13) (.t 14), [13, 14]⟩,
       ⟨(some 16), none, false, .fa 2 (.t 15), [15]⟩,
       ⟨(some 17), none, false, .ld false 1 (.t 16), [16]⟩,
       ⟨(some 18), none, false, .len (.t 17), [17]⟩,
       ⟨(some 19), none, false, .bin .gtr (.t 18) (.k (intV 100)), [18]⟩])
     (.cond (.t 19)
      (.seq (.reg [⟨(some 2), none, false, .mov (.k (boolV false)), [0, 3, 19]⟩])
       (.ret))
      (.skip))))
    (.reg [⟨(some 11), none, false, .mov (.t 3), [2, 3, 19, 10]⟩,
      ⟨(some 12), none, false, .bin .add (.t 11) (.k (intV 1)), [11]⟩,
      ⟨(some 3), none, false, .mov (.t 12), [12]⟩]))))))
 (.seq (.reg [⟨(some 2), none, false, .mov (.k (boolV true)), [0, 3]⟩])
 (.ret)))),
 [.tmp 2]⟩
def O9 : List (Nat × List Nat) := []
theorem F9_ok : cFun Try.prog O9 9 = some F9.erase := by kernel_rfl

/-- tracebook/disk.New -/
def F10 : AFun := ⟨
 .seq (.reg [⟨(some 2), none, false, .alloc [(.d (.lit (.int .i64 0))), .nil, (.d (.lit (.int .i64 0))), (.d (.lit (.int .i64 0))), (.d (.lit (.bool false)))], []⟩,
   ⟨(some 3), none, false, .mov (.k (intV 0)), [3]⟩])
 (.seq (.seq (.reg [⟨(some 4), none, false, .mov (.t 0), []⟩,
   ⟨(some 5), none, false, .bin .lss (.t 4) (.k (intV 1)), [4]⟩,
   ⟨(some 6), none, true, .mov (.t 5), [5]⟩,
   ⟨(some 7), (some (6, false)), false, .mov (.t 0), []⟩,
   ⟨(some 8), (some (6, false)), false, .bin .gtr (.t 7) (.k (intV 1048576)), [7]⟩,
   ⟨(some 9), none, false, .pick (.t 6) (.k (boolV true)) (.t 8), [6, 8]⟩])
 (.cond (.t 9)
  (.seq (.reg [⟨(some 10), none, false, .build [(.d (.lit (.int .i64 0))), .nil, (.d (.lit (.int .i64 0))), (.d (.lit (.int .i64 0))), (.d (.lit (.bool false)))] [], [0, 9]⟩,
     ⟨none, none, false, .st 5 (.t 2) (.t 10), [10]⟩,
     ⟨(some 3), none, false, .mov (.k (intV 2)), []⟩])
   (.ret))
  (.skip)))
 (.seq (.reg [⟨(some 11), none, false, .mov (.t 0), [3, 0, 9]⟩,
   ⟨(some 12), none, false, .build [(.d (.lit (.int .i64 0))), .nil, (.d (.lit (.int .i64 0))), (.d (.lit (.int .i64 0))), (.d (.lit (.bool false)))] [(0, 1, (.t 11)), (3, 1, (.k (intV (-1))))], [11]⟩,
   ⟨none, none, false, .st 5 (.t 2) (.t 12), [12]⟩,
   ⟨(some 3), none, false, .mov (.k (intV 0)), []⟩])
 (.ret))),
 [.cell 2 true 5, .tmp 3]⟩
def O10 : List (Nat × List Nat) := []
theorem F10_ok : cFun Try.prog O10 10 = some F10.erase := by kernel_rfl

/-- tracebook/tracebookref13.New -/
def F11 : AFun := ⟨
 .seq (.reg [⟨(some 2), none, false, .alloc [(.d (.lit (.int .i64 0))), .nil, (.d (.lit (.int .i64 0))), (.d (.lit (.int .i64 0))), (.d (.lit (.bool false)))], []⟩,
   ⟨(some 3), none, false, .mov (.k (intV 0)), [3]⟩])
 (.seq (.seq (.reg [⟨(some 4), none, false, .mov (.t 0), []⟩,
   ⟨(some 5), none, false, .bin .lss (.t 4) (.k (intV 1)), [4]⟩,
   ⟨(some 6), none, true, .mov (.t 5), [5]⟩,
   ⟨(some 7), (some (6, false)), false, .mov (.t 0), []⟩,
   ⟨(some 8), (some (6, false)), false, .bin .gtr (.t 7) (.k (intV 1048576)), [7]⟩,
   ⟨(some 9), none, false, .pick (.t 6) (.k (boolV true)) (.t 8), [6, 8]⟩])
 (.cond (.t 9)
  (.seq (.reg [⟨(some 10), none, false, .build [(.d (.lit (.int .i64 0))), .nil, (.d (.lit (.int .i64 0))), (.d (.lit (.int .i64 0))), (.d (.lit (.bool false)))] [], [0, 9]⟩,
     ⟨none, none, false, .st 5 (.t 2) (.t 10), [10]⟩,
     ⟨(some 3), none, false, .mov (.k (intV 2)), []⟩])
   (.ret))
  (.skip)))
 (.seq (.reg [⟨(some 11), none, false, .mov (.t 0), [3, 0, 9]⟩,
   ⟨(some 12), none, false, .build [(.d (.lit (.int .i64 0))), .nil, (.d (.lit (.int .i64 0))), (.d (.lit (.int .i64 0))), (.d (.lit (.bool false)))] [(0, 1, (.t 11)), (3, 1, (.k (intV (-1))))], [11]⟩,
   ⟨none, none, false, .st 5 (.t 2) (.t 12), [12]⟩,
   ⟨(some 3), none, false, .mov (.k (intV 0)), []⟩])
 (.ret))),
 [.cell 2 true 5, .tmp 3]⟩
def O11 : List (Nat × List Nat) := []
theorem F11_ok : cFun Try.prog O11 11 = some F11.erase := by kernel_rfl

/-- tracebook/tracebookref13.Same -/
def F12 : AFun := ⟨
 .seq (.reg [⟨(some 2), none, false, .bx (.t 0), [0]⟩,
   ⟨(some 3), none, false, .bx (.t 1), [1]⟩,
   ⟨(some 4), none, false, .mov (.k (boolV false)), [4]⟩])
 (.seq (.reg [⟨(some 5), none, false, .fa 0 (.t 2), []⟩,
   ⟨(some 6), none, false, .ld false 1 (.t 5), [5]⟩,
   ⟨(some 7), none, false, .fa 0 (.t 3), []⟩,
   ⟨(some 8), none, false, .ld false 1 (.t 7), [7]⟩,
   ⟨(some 9), none, false, .bin .eql (.t 6) (.t 8), [6, 8]⟩,
   ⟨(some 10), none, true, .mov (.t 9), [9]⟩,
   ⟨(some 11), (some (10, true)), false, .fa 1 (.t 2), []⟩,
   ⟨(some 12), (some (10, true)), false, .ld false 1 (.t 11), [11]⟩,
   ⟨(some 13), (some (10, true)), false, .b2s (.t 12), [12]⟩,
   ⟨(some 14), (some (10, true)), false, .fa 1 (.t 3), []⟩,
   ⟨(some 15), (some (10, true)), false, .ld false 1 (.t 14), [14]⟩,
   ⟨(some 16), (some (10, true)), false, .b2s (.t 15), [15]⟩,
   ⟨(some 17), (some (10, true)), false, .bin .eql (.t 13) (.t 16), [13, 16]⟩,
   ⟨(some 18), none, false, .pick (.t 10) (.t 17) (.k (boolV false)), [10, 17]⟩,
   ⟨(some 19), none, true, .mov (.t 18), [18]⟩,
   ⟨(some 20), (some (19, true)), false, .fa 2 (.t 2), []⟩,
   ⟨(some 21), (some (19, true)), false, .ld false 1 (.t 20), [20]⟩,
   ⟨(some 22), (some (19, true)), false, .fa 2 (.t 3), []⟩,
   ⟨(some 23), (some (19, true)), false, .ld false 1 (.t 22), [22]⟩,
   ⟨(some 24), (some (19, true)), false, .bin .eql (.t 21) (.t 23), [21, 23]⟩,
   ⟨(some 25), none, false, .pick (.t 19) (.t 24) (.k (boolV false)), [19, 24]⟩,
   ⟨(some 26), none, true, .mov (.t 25), [25]⟩,
   ⟨(some 27), (some (26, true)), false, .fa 3 (.t 2), []⟩,
   ⟨(some 28), (some (26, true)), false, .ld false 1 (.t 27), [27]⟩,
   ⟨(some 29), (some (26, true)), false, .fa 3 (.t 3), []⟩,
   ⟨(some 30), (some (26, true)), false, .ld false 1 (.t 29), [29]⟩,
   ⟨(some 31), (some (26, true)), false, .bin .eql (.t 28) (.t 30), [28, 30]⟩,
   ⟨(some 32), none, false, .pick (.t 26) (.t 31) (.k (boolV false)), [26, 31]⟩,
   ⟨(some 33), none, true, .mov (.t 32), [32]⟩,
   ⟨(some 34), (some (33, true)), false, .fa 4 (.t 2), [2]⟩,
   ⟨(some 35), (some (33, true)), false, .ld false 1 (.t 34), [34]⟩,
   ⟨(some 36), (some (33, true)), false, .fa 4 (.t 3), [3]⟩,
   ⟨(some 37), (some (33, true)), false, .ld false 1 (.t 36), [36]⟩,
   ⟨(some 38), (some (33, true)), false, .pure (.binOp .eql 4 (.tmp 35) (.tmp 37) 4) 4, [35, 37]⟩,
   ⟨(some 39), none, false, .pick (.t 33) (.t 38) (.k (boolV false)), [33, 38]⟩,
   ⟨(some 4), none, false, .mov (.t 39), [39]⟩])
 (.ret)),
 [.tmp 4]⟩
def O12 : List (Nat × List Nat) := []
theorem F12_ok : cFun Try.prog O12 12 = some F12.erase := by kernel_rfl

/-- tracebook/tracebooklaw13.act -/
def F13 : AFun := ⟨
 .seq (.reg [⟨(some 2), none, false, .bx (.t 0), [0]⟩,
   ⟨(some 3), none, false, .bx (.t 1), [1]⟩,
   ⟨(some 4), none, false, .alloc [(.d (.lit (.int .i64 0))), .nil, (.d (.lit (.int .i64 0))), (.d (.lit (.int .i64 0))), (.d (.lit (.bool false)))], []⟩,
   ⟨(some 5), none, false, .mov (.k (intV 0)), [5]⟩])
 (.seq (.seq (.reg [⟨(some 6), none, false, .fa 0 (.t 3), []⟩,
   ⟨(some 7), none, false, .ld false 1 (.t 6), [6]⟩])
 (.block 0 (.seq (.seq (.reg [⟨(some 9), none, false, .bin .eql (.t 7) (.k (intV 3)), []⟩,
    ⟨(some 8), none, false, .mov (.t 9), [9]⟩])
  (.cond (.t 8)
   (.skip)
   (.reg [⟨(some 10), none, false, .bin .eql (.t 7) (.k (intV 4)), [8]⟩,
      ⟨(some 8), none, false, .mov (.t 10), [10]⟩])))
  (.cond (.t 8)
   (.seq (.reg [⟨(some 11), none, false, .ld true 5 (.t 2), [2, 3, 7, 8]⟩,
      ⟨(some 12), none, false, .call 19 [(.t 11)], [11]⟩,
      ⟨(some 13), none, false, .ext (.t 12) 0, []⟩,
      ⟨(some 14), none, false, .ext (.t 12) 1, [12]⟩,
      ⟨none, none, false, .st 5 (.t 4) (.t 13), [13]⟩,
      ⟨(some 5), none, false, .mov (.t 14), [14]⟩])
    (.ret))
   (.seq (.reg [⟨(some 16), none, false, .bin .eql (.t 7) (.k (intV 5)), [8]⟩,
      ⟨(some 15), none, false, .mov (.t 16), [16]⟩])
    (.cond (.t 15)
     (.seq (.reg [⟨(some 17), none, false, .ld true 5 (.t 2), [2, 7, 15]⟩,
        ⟨(some 18), none, false, .fa 1 (.t 3), [3]⟩,
        ⟨(some 19), none, false, .ld false 1 (.t 18), [18]⟩,
        ⟨(some 20), none, false, .call 21 [(.t 17), (.t 19)], [17, 19]⟩,
        ⟨(some 21), none, false, .ext (.t 20) 0, []⟩,
        ⟨(some 22), none, false, .ext (.t 20) 1, [20]⟩,
        ⟨none, none, false, .st 5 (.t 4) (.t 21), [21]⟩,
        ⟨(some 5), none, false, .mov (.t 22), [22]⟩])
      (.ret))
     (.seq (.reg [⟨(some 24), none, false, .bin .eql (.t 7) (.k (intV 6)), [15]⟩,
        ⟨(some 23), none, false, .mov (.t 24), [24]⟩])
      (.cond (.t 23)
       (.seq (.reg [⟨(some 25), none, false, .ld true 5 (.t 2), [2, 7, 23]⟩,
          ⟨(some 26), none, false, .fa 1 (.t 3), [3]⟩,
          ⟨(some 27), none, false, .ld false 1 (.t 26), [26]⟩,
          ⟨(some 28), none, false, .call 20 [(.t 25), (.t 27)], [25, 27]⟩,
          ⟨(some 29), none, false, .ext (.t 28) 0, []⟩,
          ⟨(some 30), none, false, .ext (.t 28) 1, [28]⟩,
          ⟨none, none, false, .st 5 (.t 4) (.t 29), [29]⟩,
          ⟨(some 5), none, false, .mov (.t 30), [30]⟩])
        (.ret))
       (.seq (.reg [⟨(some 32), none, false, .bin .eql (.t 7) (.k (intV 7)), [7, 23]⟩,
          ⟨(some 31), none, false, .mov (.t 32), [32]⟩])
        (.cond (.t 31)
         (.seq (.reg [⟨(some 33), none, false, .ld true 5 (.t 2), [2, 31]⟩,
            ⟨(some 34), none, false, .fa 1 (.t 3), [3]⟩,
            ⟨(some 35), none, false, .ld false 1 (.t 34), [34]⟩,
            ⟨(some 36), none, false, .call 17 [(.t 33), (.t 35)], [33, 35]⟩,
            ⟨none, none, false, .st 5 (.t 4) (.t 36), [36]⟩,
            ⟨(some 5), none, false, .mov (.k (intV 0)), []⟩])
          (.ret))
         (.skip)))))))))))
 (.seq (.reg [⟨(some 37), none, false, .ld true 5 (.t 2), [5, 2, 31, 7]⟩,
   ⟨(some 38), none, false, .fa 2 (.t 3), [3]⟩,
   ⟨(some 39), none, false, .ld false 1 (.t 38), [38]⟩,
   ⟨(some 40), none, false, .call 18 [(.t 37), (.t 39)], [37, 39]⟩,
   ⟨(some 41), none, false, .ext (.t 40) 0, []⟩,
   ⟨(some 42), none, false, .ext (.t 40) 1, [40]⟩,
   ⟨none, none, false, .st 5 (.t 4) (.t 41), [41]⟩,
   ⟨(some 5), none, false, .mov (.t 42), [42]⟩])
 (.ret))),
 [.cell 4 true 5, .tmp 5]⟩
def O13 : List (Nat × List Nat) := []
theorem F13_ok : cFun Try.prog O13 13 = some F13.erase := by kernel_rfl

/-- tracebook/tracebooklaw13.expected -/
def F14 : AFun := ⟨
 .seq (.reg [⟨(some 2), none, false, .bx (.t 0), [0]⟩,
   ⟨(some 3), none, false, .bx (.t 1), [1]⟩,
   ⟨(some 4), none, false, .alloc [(.d (.lit (.int .i64 0))), .nil, (.d (.lit (.int .i64 0))), (.d (.lit (.int .i64 0))), (.d (.lit (.bool false)))], []⟩,
   ⟨(some 5), none, false, .mov (.k (intV 0)), [5]⟩])
 (.seq (.seq (.reg [⟨(some 6), none, false, .fa 0 (.t 3), []⟩,
   ⟨(some 7), none, false, .ld false 1 (.t 6), [6]⟩])
 (.block 0 (.seq (.seq (.reg [⟨(some 9), none, false, .bin .eql (.t 7) (.k (intV 3)), []⟩,
    ⟨(some 8), none, false, .mov (.t 9), [9]⟩])
  (.cond (.t 8)
   (.skip)
   (.reg [⟨(some 10), none, false, .bin .eql (.t 7) (.k (intV 4)), [8]⟩,
      ⟨(some 8), none, false, .mov (.t 10), [10]⟩])))
  (.cond (.t 8)
   (.seq (.reg [⟨(some 11), none, false, .ld true 5 (.t 2), [2, 3, 7, 8]⟩,
      ⟨(some 12), none, false, .call 22 [(.t 11)], [11]⟩,
      ⟨(some 13), none, false, .ext (.t 12) 0, []⟩,
      ⟨(some 14), none, false, .ext (.t 12) 1, [12]⟩,
      ⟨none, none, false, .st 5 (.t 4) (.t 13), [13]⟩,
      ⟨(some 5), none, false, .mov (.t 14), [14]⟩])
    (.ret))
   (.seq (.reg [⟨(some 16), none, false, .bin .eql (.t 7) (.k (intV 5)), [8]⟩,
      ⟨(some 15), none, false, .mov (.t 16), [16]⟩])
    (.cond (.t 15)
     (.seq (.reg [⟨(some 17), none, false, .ld true 5 (.t 2), [2, 7, 15]⟩,
        ⟨(some 18), none, false, .fa 1 (.t 3), [3]⟩,
        ⟨(some 19), none, false, .ld false 1 (.t 18), [18]⟩,
        ⟨(some 20), none, false, .call 23 [(.t 17), (.t 19)], [17, 19]⟩,
        ⟨(some 21), none, false, .ext (.t 20) 0, []⟩,
        ⟨(some 22), none, false, .ext (.t 20) 1, [20]⟩,
        ⟨none, none, false, .st 5 (.t 4) (.t 21), [21]⟩,
        ⟨(some 5), none, false, .mov (.t 22), [22]⟩])
      (.ret))
     (.seq (.reg [⟨(some 24), none, false, .bin .eql (.t 7) (.k (intV 6)), [15]⟩,
        ⟨(some 23), none, false, .mov (.t 24), [24]⟩])
      (.cond (.t 23)
       (.seq (.reg [⟨(some 25), none, false, .ld true 5 (.t 2), [2, 7, 23]⟩,
          ⟨(some 26), none, false, .fa 1 (.t 3), [3]⟩,
          ⟨(some 27), none, false, .ld false 1 (.t 26), [26]⟩,
          ⟨(some 28), none, false, .call 24 [(.t 25), (.t 27)], [25, 27]⟩,
          ⟨(some 29), none, false, .ext (.t 28) 0, []⟩,
          ⟨(some 30), none, false, .ext (.t 28) 1, [28]⟩,
          ⟨none, none, false, .st 5 (.t 4) (.t 29), [29]⟩,
          ⟨(some 5), none, false, .mov (.t 30), [30]⟩])
        (.ret))
       (.seq (.reg [⟨(some 32), none, false, .bin .eql (.t 7) (.k (intV 7)), [7, 23]⟩,
          ⟨(some 31), none, false, .mov (.t 32), [32]⟩])
        (.cond (.t 31)
         (.seq (.reg [⟨(some 33), none, false, .ld true 5 (.t 2), [2, 31]⟩,
            ⟨(some 34), none, false, .fa 1 (.t 3), [3]⟩,
            ⟨(some 35), none, false, .ld false 1 (.t 34), [34]⟩,
            ⟨(some 36), none, false, .call 25 [(.t 33), (.t 35)], [33, 35]⟩,
            ⟨none, none, false, .st 5 (.t 4) (.t 36), [36]⟩,
            ⟨(some 5), none, false, .mov (.k (intV 0)), []⟩])
          (.ret))
         (.skip)))))))))))
 (.seq (.reg [⟨(some 37), none, false, .ld true 5 (.t 2), [5, 2, 31, 7]⟩,
   ⟨(some 38), none, false, .fa 2 (.t 3), [3]⟩,
   ⟨(some 39), none, false, .ld false 1 (.t 38), [38]⟩,
   ⟨(some 40), none, false, .call 26 [(.t 37), (.t 39)], [37, 39]⟩,
   ⟨(some 41), none, false, .ext (.t 40) 0, []⟩,
   ⟨(some 42), none, false, .ext (.t 40) 1, [40]⟩,
   ⟨none, none, false, .st 5 (.t 4) (.t 41), [41]⟩,
   ⟨(some 5), none, false, .mov (.t 42), [42]⟩])
 (.ret))),
 [.cell 4 true 5, .tmp 5]⟩
def O14 : List (Nat × List Nat) := []
theorem F14_ok : cFun Try.prog O14 14 = some F14.erase := by kernel_rfl

/-- tracebook/disk.Check -/
def F15 : AFun := ⟨
 .seq (.reg [⟨(some 1), none, false, .bx (.t 0), [0]⟩,
   ⟨(some 2), none, false, .mov (.k (intV 0)), [2]⟩])
 (.seq (.seq (.reg [⟨(some 3), none, false, .fa 0 (.t 1), []⟩,
   ⟨(some 4), none, false, .ld false 1 (.t 3), [3]⟩,
   ⟨(some 5), none, false, .bin .lss (.t 4) (.k (intV 1)), [4]⟩,
   ⟨(some 6), none, true, .mov (.t 5), [5]⟩,
   ⟨(some 7), (some (6, false)), false, .fa 0 (.t 1), []⟩,
   ⟨(some 8), (some (6, false)), false, .ld false 1 (.t 7), [7]⟩,
   ⟨(some 9), (some (6, false)), false, .bin .gtr (.t 8) (.k (intV 1048576)), [8]⟩,
   ⟨(some 10), none, false, .pick (.t 6) (.k (boolV true)) (.t 9), [6, 9]⟩,
   ⟨(some 11), none, true, .mov (.t 10), [10]⟩,
   ⟨(some 12), (some (11, false)), false, .fa 1 (.t 1), []⟩,
   ⟨(some 13), (some (11, false)), false, .ld false 1 (.t 12), [12]⟩,
   ⟨(some 14), (some (11, false)), false, .len (.t 13), [13]⟩,
   ⟨(some 15), (some (11, false)), false, .fa 0 (.t 1), []⟩,
   ⟨(some 16), (some (11, false)), false, .ld false 1 (.t 15), [15]⟩,
   ⟨(some 17), (some (11, false)), false, .bin .gtr (.t 14) (.t 16), [14, 16]⟩,
   ⟨(some 18), none, false, .pick (.t 11) (.k (boolV true)) (.t 17), [11, 17]⟩,
   ⟨(some 19), none, true, .mov (.t 18), [18]⟩,
   ⟨(some 20), (some (19, false)), false, .fa 2 (.t 1), []⟩,
   ⟨(some 21), (some (19, false)), false, .ld false 1 (.t 20), [20]⟩,
   ⟨(some 22), (some (19, false)), false, .bin .lss (.t 21) (.k (intV 0)), [21]⟩,
   ⟨(some 23), none, false, .pick (.t 19) (.k (boolV true)) (.t 22), [19, 22]⟩,
   ⟨(some 24), none, true, .mov (.t 23), [23]⟩,
   ⟨(some 25), (some (24, false)), false, .fa 2 (.t 1), []⟩,
   ⟨(some 26), (some (24, false)), false, .ld false 1 (.t 25), [25]⟩,
   ⟨(some 27), (some (24, false)), false, .fa 1 (.t 1), []⟩,
   ⟨(some 28), (some (24, false)), false, .ld false 1 (.t 27), [27]⟩,
   ⟨(some 29), (some (24, false)), false, .len (.t 28), [28]⟩,
   ⟨(some 30), (some (24, false)), false, .bin .gtr (.t 26) (.t 29), [26, 29]⟩,
   ⟨(some 31), none, false, .pick (.t 24) (.k (boolV true)) (.t 30), [24, 30]⟩,
   ⟨(some 32), none, true, .mov (.t 31), [31]⟩,
   ⟨(some 33), (some (32, false)), false, .fa 3 (.t 1), []⟩,
   ⟨(some 34), (some (32, false)), false, .ld false 1 (.t 33), [33]⟩,
   ⟨(some 35), (some (32, false)), false, .bin .lss (.t 34) (.k (intV (-1))), [34]⟩,
   ⟨(some 36), none, false, .pick (.t 32) (.k (boolV true)) (.t 35), [32, 35]⟩,
   ⟨(some 37), none, true, .mov (.t 36), [36]⟩,
   ⟨(some 38), (some (37, false)), false, .fa 3 (.t 1), [1]⟩,
   ⟨(some 39), (some (37, false)), false, .ld false 1 (.t 38), [38]⟩,
   ⟨(some 40), (some (37, false)), false, .bin .gtr (.t 39) (.k (intV 1048576)), [39]⟩,
   ⟨(some 41), none, false, .pick (.t 37) (.k (boolV true)) (.t 40), [37, 40]⟩])
 (.cond (.t 41)
  (.seq (.reg [⟨(some 2), none, false, .mov (.k (intV 2)), [41]⟩])
   (.ret))
  (.skip)))
 (.seq (.reg [⟨(some 2), none, false, .mov (.k (intV 0)), [41]⟩])
 (.ret))),
 [.tmp 2]⟩
def O15 : List (Nat × List Nat) := []
theorem F15_ok : cFun Try.prog O15 15 = some F15.erase := by kernel_rfl

/-- tracebook/tracebookref13.Check -/
def F16 : AFun := ⟨
 .seq (.reg [⟨(some 1), none, false, .bx (.t 0), [0]⟩,
   ⟨(some 2), none, false, .mov (.k (intV 0)), [2]⟩])
 (.seq (.seq (.reg [⟨(some 3), none, false, .fa 0 (.t 1), []⟩,
   ⟨(some 4), none, false, .ld false 1 (.t 3), [3]⟩,
   ⟨(some 5), none, false, .bin .lss (.t 4) (.k (intV 1)), [4]⟩,
   ⟨(some 6), none, true, .mov (.t 5), [5]⟩,
   ⟨(some 7), (some (6, false)), false, .fa 0 (.t 1), []⟩,
   ⟨(some 8), (some (6, false)), false, .ld false 1 (.t 7), [7]⟩,
   ⟨(some 9), (some (6, false)), false, .bin .gtr (.t 8) (.k (intV 1048576)), [8]⟩,
   ⟨(some 10), none, false, .pick (.t 6) (.k (boolV true)) (.t 9), [6, 9]⟩,
   ⟨(some 11), none, true, .mov (.t 10), [10]⟩,
   ⟨(some 12), (some (11, false)), false, .fa 1 (.t 1), []⟩,
   ⟨(some 13), (some (11, false)), false, .ld false 1 (.t 12), [12]⟩,
   ⟨(some 14), (some (11, false)), false, .len (.t 13), [13]⟩,
   ⟨(some 15), (some (11, false)), false, .fa 0 (.t 1), []⟩,
   ⟨(some 16), (some (11, false)), false, .ld false 1 (.t 15), [15]⟩,
   ⟨(some 17), (some (11, false)), false, .bin .gtr (.t 14) (.t 16), [14, 16]⟩,
   ⟨(some 18), none, false, .pick (.t 11) (.k (boolV true)) (.t 17), [11, 17]⟩,
   ⟨(some 19), none, true, .mov (.t 18), [18]⟩,
   ⟨(some 20), (some (19, false)), false, .fa 2 (.t 1), []⟩,
   ⟨(some 21), (some (19, false)), false, .ld false 1 (.t 20), [20]⟩,
   ⟨(some 22), (some (19, false)), false, .bin .lss (.t 21) (.k (intV 0)), [21]⟩,
   ⟨(some 23), none, false, .pick (.t 19) (.k (boolV true)) (.t 22), [19, 22]⟩,
   ⟨(some 24), none, true, .mov (.t 23), [23]⟩,
   ⟨(some 25), (some (24, false)), false, .fa 2 (.t 1), []⟩,
   ⟨(some 26), (some (24, false)), false, .ld false 1 (.t 25), [25]⟩,
   ⟨(some 27), (some (24, false)), false, .fa 1 (.t 1), []⟩,
   ⟨(some 28), (some (24, false)), false, .ld false 1 (.t 27), [27]⟩,
   ⟨(some 29), (some (24, false)), false, .len (.t 28), [28]⟩,
   ⟨(some 30), (some (24, false)), false, .bin .gtr (.t 26) (.t 29), [26, 29]⟩,
   ⟨(some 31), none, false, .pick (.t 24) (.k (boolV true)) (.t 30), [24, 30]⟩,
   ⟨(some 32), none, true, .mov (.t 31), [31]⟩,
   ⟨(some 33), (some (32, false)), false, .fa 3 (.t 1), []⟩,
   ⟨(some 34), (some (32, false)), false, .ld false 1 (.t 33), [33]⟩,
   ⟨(some 35), (some (32, false)), false, .bin .lss (.t 34) (.k (intV (-1))), [34]⟩,
   ⟨(some 36), none, false, .pick (.t 32) (.k (boolV true)) (.t 35), [32, 35]⟩,
   ⟨(some 37), none, true, .mov (.t 36), [36]⟩,
   ⟨(some 38), (some (37, false)), false, .fa 3 (.t 1), [1]⟩,
   ⟨(some 39), (some (37, false)), false, .ld false 1 (.t 38), [38]⟩,
   ⟨(some 40), (some (37, false)), false, .bin .gtr (.t 39) (.k (intV 1048576)), [39]⟩,
   ⟨(some 41), none, false, .pick (.t 37) (.k (boolV true)) (.t 40), [37, 40]⟩])
 (.cond (.t 41)
  (.seq (.reg [⟨(some 2), none, false, .mov (.k (intV 2)), [41]⟩])
   (.ret))
  (.skip)))
 (.seq (.reg [⟨(some 2), none, false, .mov (.k (intV 0)), [41]⟩])
 (.ret))),
 [.tmp 2]⟩
def O16 : List (Nat × List Nat) := []
theorem F16_ok : cFun Try.prog O16 16 = some F16.erase := by kernel_rfl

/-- tracebook/disk.Crash -/
def F17 : AFun := ⟨
 .seq (.reg [⟨(some 2), none, false, .bx (.t 0), [0]⟩,
   ⟨(some 4), none, false, .alloc [(.d (.lit (.int .i64 0))), .nil, (.d (.lit (.int .i64 0))), (.d (.lit (.int .i64 0))), (.d (.lit (.bool false)))], []⟩])
 (.seq (.seq (.reg [⟨(some 7), none, false, .ld true 5 (.t 2), []⟩,
   ⟨(some 8), none, false, .call 15 [(.t 7)], [7]⟩,
   ⟨(some 9), none, false, .bin .neq (.t 8) (.k (intV 0)), [8]⟩])
 (.cond (.t 9)
  (.seq (.reg [⟨(some 10), none, false, .ld true 5 (.t 2), [1, 2, 9]⟩,
     ⟨none, none, false, .st 5 (.t 4) (.t 10), [10]⟩])
   (.ret))
  (.skip)))
 (.seq (.reg [⟨(some 11), none, false, .fa 1 (.t 2), [9]⟩,
   ⟨(some 12), none, false, .ld false 1 (.t 11), [11]⟩,
   ⟨(some 13), none, false, .len (.t 12), [12]⟩,
   ⟨(some 5), none, false, .mov (.t 13), [13]⟩])
 (.seq (.seq (.reg [⟨(some 14), none, false, .mov (.t 5), []⟩,
   ⟨(some 15), none, false, .fa 2 (.t 2), []⟩,
   ⟨(some 16), none, false, .ld false 1 (.t 15), [15]⟩,
   ⟨(some 17), none, false, .bin .sub (.t 14) (.t 16), [14, 16]⟩,
   ⟨(some 6), none, false, .mov (.t 17), [17]⟩])
 (.seq (.reg [⟨(some 18), none, false, .mov (.t 1), []⟩,
   ⟨(some 19), none, false, .mov (.t 6), [6]⟩,
   ⟨(some 20), none, false, .bin .lss (.t 18) (.t 19), [18, 19]⟩])
 (.cond (.t 20)
  (.reg [⟨(some 21), none, false, .fa 2 (.t 2), [5, 20]⟩,
     ⟨(some 22), none, false, .ld false 1 (.t 21), [21]⟩,
     ⟨(some 23), none, false, .mov (.t 1), [1]⟩,
     ⟨(some 24), none, false, .mm true (.t 23) (.k (intV 0)), [23]⟩,
     ⟨(some 25), none, false, .bin .add (.t 22) (.t 24), [22, 24]⟩,
     ⟨(some 5), none, false, .mov (.t 25), [25]⟩])
  (.skip))))
 (.seq (.reg [⟨(some 26), none, false, .fa 0 (.t 2), [1, 20]⟩,
   ⟨(some 27), none, false, .ld false 1 (.t 26), [26]⟩,
   ⟨(some 28), none, false, .fa 1 (.t 2), [2]⟩,
   ⟨(some 29), none, false, .ld false 1 (.t 28), [28]⟩,
   ⟨(some 30), none, false, .mov (.t 5), []⟩,
   ⟨(some 31), none, false, .sli 1 (.t 29) none (some (.t 30)), [29, 30]⟩,
   ⟨(some 33), none, false, .mov (.t 5), [5]⟩,
   ⟨(some 32), none, false, .call 27 [(.t 31)], [31]⟩,
   ⟨(some 34), none, false, .build [(.d (.lit (.int .i64 0))), .nil, (.d (.lit (.int .i64 0))), (.d (.lit (.int .i64 0))), (.d (.lit (.bool false)))] [(0, 1, (.t 27)), (1, 1, (.t 32)), (2, 1, (.t 33)), (3, 1, (.k (intV (-1))))], [27, 33, 32]⟩,
   ⟨none, none, false, .st 5 (.t 4) (.t 34), [34]⟩])
 (.ret))))),
 [.cell 4 true 5]⟩
def O17 : List (Nat × List Nat) := [(7, [0, 1, 2, 3, 4, 5, 7, 6, 8, 9])]
theorem F17_ok : cFun Try.prog O17 17 = some F17.erase := by kernel_rfl

/-- tracebook/disk.Append -/
def F18 : AFun := ⟨
 .seq (.reg [⟨(some 2), none, false, .bx (.t 0), [0]⟩,
   ⟨(some 4), none, false, .alloc [(.d (.lit (.int .i64 0))), .nil, (.d (.lit (.int .i64 0))), (.d (.lit (.int .i64 0))), (.d (.lit (.bool false)))], []⟩,
   ⟨(some 5), none, false, .mov (.k (intV 0)), [5]⟩])
 (.seq (.reg [⟨(some 8), none, false, .ld true 5 (.t 2), []⟩,
   ⟨(some 9), none, false, .call 28 [(.t 8)], [8]⟩,
   ⟨(some 7), none, false, .mov (.t 9), [9]⟩,
   ⟨(some 10), none, false, .ext (.t 7) 0, []⟩,
   ⟨(some 11), none, false, .ext (.t 7) 1, [7]⟩,
   ⟨none, none, false, .st 5 (.t 2) (.t 10), [10]⟩,
   ⟨(some 6), none, false, .mov (.t 11), [11]⟩])
 (.seq (.seq (.reg [⟨(some 12), none, false, .mov (.t 6), []⟩,
   ⟨(some 13), none, false, .bin .neq (.t 12) (.k (intV 0)), [12]⟩])
 (.cond (.t 13)
  (.seq (.reg [⟨(some 14), none, false, .ld true 5 (.t 2), [1, 2, 13]⟩,
     ⟨(some 15), none, false, .mov (.t 6), [6]⟩,
     ⟨none, none, false, .st 5 (.t 4) (.t 14), [14]⟩,
     ⟨(some 5), none, false, .mov (.t 15), [15]⟩])
   (.ret))
  (.skip)))
 (.seq (.seq (.reg [⟨(some 16), none, false, .fa 1 (.t 2), [5, 6, 13]⟩,
   ⟨(some 17), none, false, .ld false 1 (.t 16), [16]⟩,
   ⟨(some 18), none, false, .len (.t 17), [17]⟩,
   ⟨(some 19), none, false, .mov (.t 1), []⟩,
   ⟨(some 20), none, false, .len (.t 19), [19]⟩,
   ⟨(some 21), none, false, .bin .add (.t 18) (.t 20), [18, 20]⟩,
   ⟨(some 22), none, false, .fa 0 (.t 2), []⟩,
   ⟨(some 23), none, false, .ld false 1 (.t 22), [22]⟩,
   ⟨(some 24), none, false, .bin .gtr (.t 21) (.t 23), [21, 23]⟩])
 (.cond (.t 24)
  (.seq (.reg [⟨(some 25), none, false, .build [(.d (.lit (.int .i64 0))), .nil, (.d (.lit (.int .i64 0))), (.d (.lit (.int .i64 0))), (.d (.lit (.bool false)))] [], [1, 2, 24]⟩,
     ⟨none, none, false, .st 5 (.t 4) (.t 25), [25]⟩,
     ⟨(some 5), none, false, .mov (.k (intV 6)), []⟩])
   (.ret))
  (.skip)))
 (.seq (.seq (.reg [⟨(some 26), none, false, .fa 3 (.t 2), [5, 24]⟩,
   ⟨(some 27), none, false, .ld false 1 (.t 26), [26]⟩,
   ⟨(some 28), none, false, .bin .geq (.t 27) (.k (intV 0)), [27]⟩,
   ⟨(some 29), none, true, .mov (.t 28), [28]⟩,
   ⟨(some 30), (some (29, true)), false, .fa 3 (.t 2), []⟩,
   ⟨(some 31), (some (29, true)), false, .ld false 1 (.t 30), [30]⟩,
   ⟨(some 32), (some (29, true)), false, .mov (.t 1), []⟩,
   ⟨(some 33), (some (29, true)), false, .len (.t 32), [32]⟩,
   ⟨(some 34), (some (29, true)), false, .bin .lss (.t 31) (.t 33), [31, 33]⟩,
   ⟨(some 35), none, false, .pick (.t 29) (.t 34) (.k (boolV false)), [29, 34]⟩])
 (.cond (.t 35)
  (.seq (.reg [⟨(some 36), none, false, .fa 1 (.t 2), [35]⟩,
     ⟨(some 37), none, false, .ld false 1 (.t 36), [36]⟩,
     ⟨(some 38), none, false, .mov (.t 1), [1]⟩,
     ⟨(some 39), none, false, .fa 3 (.t 2), []⟩,
     ⟨(some 40), none, false, .ld false 1 (.t 39), [39]⟩,
     ⟨(some 41), none, false, .sli 1 (.t 38) none (some (.t 40)), [38, 40]⟩,
     ⟨(some 42), none, false, .app 1 1 (.t 37) (.t 41), [37, 41]⟩,
     ⟨(some 43), none, false, .fa 1 (.t 2), []⟩,
     ⟨none, none, false, .st 1 (.t 43) (.t 42), [42, 43]⟩])
   (.seq (.reg [⟨(some 44), none, false, .fa 3 (.t 2), []⟩,
     ⟨none, none, false, .st 1 (.t 44) (.k (intV 0)), [44]⟩,
     ⟨(some 45), none, false, .fa 4 (.t 2), []⟩,
     ⟨none, none, false, .st 1 (.t 45) (.k (boolV true)), [45]⟩])
   (.seq (.reg [⟨(some 46), none, false, .ld true 5 (.t 2), [2]⟩,
     ⟨none, none, false, .st 5 (.t 4) (.t 46), [46]⟩,
     ⟨(some 5), none, false, .mov (.k (intV 19)), []⟩])
   (.ret))))
  (.skip)))
 (.seq (.reg [⟨(some 47), none, false, .fa 1 (.t 2), [5, 35]⟩,
   ⟨(some 48), none, false, .ld false 1 (.t 47), [47]⟩,
   ⟨(some 49), none, false, .mov (.t 1), []⟩,
   ⟨(some 50), none, false, .app 1 1 (.t 48) (.t 49), [48, 49]⟩,
   ⟨(some 51), none, false, .fa 1 (.t 2), []⟩,
   ⟨none, none, false, .st 1 (.t 51) (.t 50), [50, 51]⟩])
 (.seq (.seq (.reg [⟨(some 52), none, false, .fa 3 (.t 2), []⟩,
   ⟨(some 53), none, false, .ld false 1 (.t 52), [52]⟩,
   ⟨(some 54), none, false, .bin .geq (.t 53) (.k (intV 0)), [53]⟩])
 (.cond (.t 54)
  (.reg [⟨(some 55), none, false, .fa 3 (.t 2), [54]⟩,
     ⟨(some 56), none, false, .ld false 1 (.t 55), [55]⟩,
     ⟨(some 57), none, false, .mov (.t 1), [1]⟩,
     ⟨(some 58), none, false, .len (.t 57), [57]⟩,
     ⟨(some 59), none, false, .bin .sub (.t 56) (.t 58), [56, 58]⟩,
     ⟨(some 60), none, false, .fa 3 (.t 2), []⟩,
     ⟨none, none, false, .st 1 (.t 60) (.t 59), [59, 60]⟩])
  (.skip)))
 (.seq (.reg [⟨(some 61), none, false, .ld true 5 (.t 2), [2, 1, 54]⟩,
   ⟨none, none, false, .st 5 (.t 4) (.t 61), [61]⟩,
   ⟨(some 5), none, false, .mov (.k (intV 0)), []⟩])
 (.ret)))))))),
 [.cell 4 true 5, .tmp 5]⟩
def O18 : List (Nat × List Nat) := [(7, [0, 1, 2, 3, 4, 5, 6, 7, 8])]
theorem F18_ok : cFun Try.prog O18 18 = some F18.erase := by kernel_rfl

/-- tracebook/disk.Sync -/
def F19 : AFun := ⟨
 .seq (.reg [⟨(some 1), none, false, .bx (.t 0), [0]⟩,
   ⟨(some 2), none, false, .alloc [(.d (.lit (.int .i64 0))), .nil, (.d (.lit (.int .i64 0))), (.d (.lit (.int .i64 0))), (.d (.lit (.bool false)))], []⟩,
   ⟨(some 3), none, false, .mov (.k (intV 0)), [3]⟩])
 (.seq (.reg [⟨(some 6), none, false, .ld true 5 (.t 1), []⟩,
   ⟨(some 7), none, false, .call 28 [(.t 6)], [6]⟩,
   ⟨(some 5), none, false, .mov (.t 7), [7]⟩,
   ⟨(some 8), none, false, .ext (.t 5) 0, []⟩,
   ⟨(some 9), none, false, .ext (.t 5) 1, [5]⟩,
   ⟨none, none, false, .st 5 (.t 1) (.t 8), [8]⟩,
   ⟨(some 4), none, false, .mov (.t 9), [9]⟩])
 (.seq (.seq (.reg [⟨(some 10), none, false, .mov (.t 4), []⟩,
   ⟨(some 11), none, false, .bin .neq (.t 10) (.k (intV 0)), [10]⟩])
 (.cond (.t 11)
  (.seq (.reg [⟨(some 12), none, false, .ld true 5 (.t 1), [1, 11]⟩,
     ⟨(some 13), none, false, .mov (.t 4), [4]⟩,
     ⟨none, none, false, .st 5 (.t 2) (.t 12), [12]⟩,
     ⟨(some 3), none, false, .mov (.t 13), [13]⟩])
   (.ret))
  (.skip)))
 (.seq (.seq (.reg [⟨(some 14), none, false, .fa 3 (.t 1), [3, 4, 11]⟩,
   ⟨(some 15), none, false, .ld false 1 (.t 14), [14]⟩,
   ⟨(some 16), none, false, .bin .eql (.t 15) (.k (intV 0)), [15]⟩])
 (.cond (.t 16)
  (.seq (.reg [⟨(some 17), none, false, .fa 4 (.t 1), [16]⟩,
     ⟨none, none, false, .st 1 (.t 17) (.k (boolV true)), [17]⟩])
   (.seq (.reg [⟨(some 18), none, false, .ld true 5 (.t 1), [1]⟩,
     ⟨none, none, false, .st 5 (.t 2) (.t 18), [18]⟩,
     ⟨(some 3), none, false, .mov (.k (intV 19)), []⟩])
   (.ret)))
  (.skip)))
 (.seq (.reg [⟨(some 19), none, false, .fa 1 (.t 1), [3, 16]⟩,
   ⟨(some 20), none, false, .ld false 1 (.t 19), [19]⟩,
   ⟨(some 21), none, false, .len (.t 20), [20]⟩,
   ⟨(some 22), none, false, .fa 2 (.t 1), []⟩,
   ⟨none, none, false, .st 1 (.t 22) (.t 21), [21, 22]⟩])
 (.seq (.reg [⟨(some 23), none, false, .ld true 5 (.t 1), [1]⟩,
   ⟨none, none, false, .st 5 (.t 2) (.t 23), [23]⟩,
   ⟨(some 3), none, false, .mov (.k (intV 0)), []⟩])
 (.ret)))))),
 [.cell 2 true 5, .tmp 3]⟩
def O19 : List (Nat × List Nat) := []
theorem F19_ok : cFun Try.prog O19 19 = some F19.erase := by kernel_rfl

/-- tracebook/disk.Arm -/
def F20 : AFun := ⟨
 .seq (.reg [⟨(some 2), none, false, .bx (.t 0), [0]⟩,
   ⟨(some 4), none, false, .alloc [(.d (.lit (.int .i64 0))), .nil, (.d (.lit (.int .i64 0))), (.d (.lit (.int .i64 0))), (.d (.lit (.bool false)))], []⟩,
   ⟨(some 5), none, false, .mov (.k (intV 0)), [5]⟩])
 (.seq (.reg [⟨(some 8), none, false, .ld true 5 (.t 2), []⟩,
   ⟨(some 9), none, false, .call 28 [(.t 8)], [8]⟩,
   ⟨(some 7), none, false, .mov (.t 9), [9]⟩,
   ⟨(some 10), none, false, .ext (.t 7) 0, []⟩,
   ⟨(some 11), none, false, .ext (.t 7) 1, [7]⟩,
   ⟨none, none, false, .st 5 (.t 2) (.t 10), [10]⟩,
   ⟨(some 6), none, false, .mov (.t 11), [11]⟩])
 (.seq (.seq (.reg [⟨(some 12), none, false, .mov (.t 6), []⟩,
   ⟨(some 13), none, false, .bin .neq (.t 12) (.k (intV 0)), [12]⟩])
 (.cond (.t 13)
  (.seq (.reg [⟨(some 14), none, false, .ld true 5 (.t 2), [1, 2, 13]⟩,
     ⟨(some 15), none, false, .mov (.t 6), [6]⟩,
     ⟨none, none, false, .st 5 (.t 4) (.t 14), [14]⟩,
     ⟨(some 5), none, false, .mov (.t 15), [15]⟩])
   (.ret))
  (.skip)))
 (.seq (.seq (.reg [⟨(some 16), none, false, .mov (.t 1), [5, 6, 13]⟩,
   ⟨(some 17), none, false, .bin .lss (.t 16) (.k (intV 0)), [16]⟩,
   ⟨(some 18), none, true, .mov (.t 17), [17]⟩,
   ⟨(some 19), (some (18, false)), false, .mov (.t 1), []⟩,
   ⟨(some 20), (some (18, false)), false, .bin .gtr (.t 19) (.k (intV 1048576)), [19]⟩,
   ⟨(some 21), none, false, .pick (.t 18) (.k (boolV true)) (.t 20), [18, 20]⟩])
 (.cond (.t 21)
  (.seq (.reg [⟨(some 22), none, false, .build [(.d (.lit (.int .i64 0))), .nil, (.d (.lit (.int .i64 0))), (.d (.lit (.int .i64 0))), (.d (.lit (.bool false)))] [], [1, 2, 21]⟩,
     ⟨none, none, false, .st 5 (.t 4) (.t 22), [22]⟩,
     ⟨(some 5), none, false, .mov (.k (intV 2)), []⟩])
   (.ret))
  (.skip)))
 (.seq (.reg [⟨(some 23), none, false, .mov (.t 1), [5, 1, 21]⟩,
   ⟨(some 24), none, false, .fa 3 (.t 2), []⟩,
   ⟨none, none, false, .st 1 (.t 24) (.t 23), [23, 24]⟩])
 (.seq (.reg [⟨(some 25), none, false, .ld true 5 (.t 2), [2]⟩,
   ⟨none, none, false, .st 5 (.t 4) (.t 25), [25]⟩,
   ⟨(some 5), none, false, .mov (.k (intV 0)), []⟩])
 (.ret)))))),
 [.cell 4 true 5, .tmp 5]⟩
def O20 : List (Nat × List Nat) := []
theorem F20_ok : cFun Try.prog O20 20 = some F20.erase := by kernel_rfl

/-- tracebook/disk.Truncate -/
def F21 : AFun := ⟨
 .seq (.reg [⟨(some 2), none, false, .bx (.t 0), [0]⟩,
   ⟨(some 4), none, false, .alloc [(.d (.lit (.int .i64 0))), .nil, (.d (.lit (.int .i64 0))), (.d (.lit (.int .i64 0))), (.d (.lit (.bool false)))], []⟩,
   ⟨(some 5), none, false, .mov (.k (intV 0)), [5]⟩])
 (.seq (.reg [⟨(some 8), none, false, .ld true 5 (.t 2), []⟩,
   ⟨(some 9), none, false, .call 28 [(.t 8)], [8]⟩,
   ⟨(some 7), none, false, .mov (.t 9), [9]⟩,
   ⟨(some 10), none, false, .ext (.t 7) 0, []⟩,
   ⟨(some 11), none, false, .ext (.t 7) 1, [7]⟩,
   ⟨none, none, false, .st 5 (.t 2) (.t 10), [10]⟩,
   ⟨(some 6), none, false, .mov (.t 11), [11]⟩])
 (.seq (.seq (.reg [⟨(some 12), none, false, .mov (.t 6), []⟩,
   ⟨(some 13), none, false, .bin .neq (.t 12) (.k (intV 0)), [12]⟩])
 (.cond (.t 13)
  (.seq (.reg [⟨(some 14), none, false, .ld true 5 (.t 2), [1, 2, 13]⟩,
     ⟨(some 15), none, false, .mov (.t 6), [6]⟩,
     ⟨none, none, false, .st 5 (.t 4) (.t 14), [14]⟩,
     ⟨(some 5), none, false, .mov (.t 15), [15]⟩])
   (.ret))
  (.skip)))
 (.seq (.seq (.reg [⟨(some 16), none, false, .mov (.t 1), [5, 6, 13]⟩,
   ⟨(some 17), none, false, .bin .lss (.t 16) (.k (intV 0)), [16]⟩,
   ⟨(some 18), none, true, .mov (.t 17), [17]⟩,
   ⟨(some 19), (some (18, false)), false, .mov (.t 1), []⟩,
   ⟨(some 20), (some (18, false)), false, .fa 1 (.t 2), []⟩,
   ⟨(some 21), (some (18, false)), false, .ld false 1 (.t 20), [20]⟩,
   ⟨(some 22), (some (18, false)), false, .len (.t 21), [21]⟩,
   ⟨(some 23), (some (18, false)), false, .bin .gtr (.t 19) (.t 22), [19, 22]⟩,
   ⟨(some 24), none, false, .pick (.t 18) (.k (boolV true)) (.t 23), [18, 23]⟩])
 (.cond (.t 24)
  (.seq (.reg [⟨(some 25), none, false, .build [(.d (.lit (.int .i64 0))), .nil, (.d (.lit (.int .i64 0))), (.d (.lit (.int .i64 0))), (.d (.lit (.bool false)))] [], [1, 2, 24]⟩,
     ⟨none, none, false, .st 5 (.t 4) (.t 25), [25]⟩,
     ⟨(some 5), none, false, .mov (.k (intV 2)), []⟩])
   (.ret))
  (.skip)))
 (.seq (.reg [⟨(some 26), none, false, .fa 1 (.t 2), [5, 24]⟩,
   ⟨(some 27), none, false, .ld false 1 (.t 26), [26]⟩,
   ⟨(some 28), none, false, .mov (.t 1), []⟩,
   ⟨(some 29), none, false, .sli 1 (.t 27) none (some (.t 28)), [27, 28]⟩,
   ⟨(some 30), none, false, .fa 2 (.t 2), []⟩,
   ⟨(some 31), none, false, .ld false 1 (.t 30), [30]⟩,
   ⟨(some 32), none, false, .mov (.t 1), [1]⟩,
   ⟨(some 33), none, false, .mm false (.t 31) (.t 32), [31, 32]⟩,
   ⟨(some 34), none, false, .fa 1 (.t 2), []⟩,
   ⟨none, none, false, .st 1 (.t 34) (.t 29), [29, 34]⟩,
   ⟨(some 35), none, false, .fa 2 (.t 2), []⟩,
   ⟨none, none, false, .st 1 (.t 35) (.t 33), [33, 35]⟩])
 (.seq (.reg [⟨(some 36), none, false, .ld true 5 (.t 2), [2]⟩,
   ⟨none, none, false, .st 5 (.t 4) (.t 36), [36]⟩,
   ⟨(some 5), none, false, .mov (.k (intV 0)), []⟩])
 (.ret)))))),
 [.cell 4 true 5, .tmp 5]⟩
def O21 : List (Nat × List Nat) := [(6, [0, 1, 2, 3, 4, 5, 6, 7, 8, 9, 10, 11])]
theorem F21_ok : cFun Try.prog O21 21 = some F21.erase := by kernel_rfl

/-- tracebook/tracebookref13.Sync -/
def F22 : AFun := ⟨
 .seq (.reg [⟨(some 1), none, false, .bx (.t 0), [0]⟩,
   ⟨(some 2), none, false, .alloc [(.d (.lit (.int .i64 0))), .nil, (.d (.lit (.int .i64 0))), (.d (.lit (.int .i64 0))), (.d (.lit (.bool false)))], []⟩,
   ⟨(some 3), none, false, .mov (.k (intV 0)), [3]⟩])
 (.seq (.reg [⟨(some 6), none, false, .ld true 5 (.t 1), []⟩,
   ⟨(some 7), none, false, .call 29 [(.t 6)], [6]⟩,
   ⟨(some 5), none, false, .mov (.t 7), [7]⟩,
   ⟨(some 8), none, false, .ext (.t 5) 0, []⟩,
   ⟨(some 9), none, false, .ext (.t 5) 1, [5]⟩,
   ⟨none, none, false, .st 5 (.t 1) (.t 8), [8]⟩,
   ⟨(some 4), none, false, .mov (.t 9), [9]⟩])
 (.seq (.seq (.reg [⟨(some 10), none, false, .mov (.t 4), []⟩,
   ⟨(some 11), none, false, .bin .neq (.t 10) (.k (intV 0)), [10]⟩])
 (.cond (.t 11)
  (.seq (.reg [⟨(some 12), none, false, .ld true 5 (.t 1), [1, 11]⟩,
     ⟨(some 13), none, false, .mov (.t 4), [4]⟩,
     ⟨none, none, false, .st 5 (.t 2) (.t 12), [12]⟩,
     ⟨(some 3), none, false, .mov (.t 13), [13]⟩])
   (.ret))
  (.skip)))
 (.seq (.seq (.reg [⟨(some 14), none, false, .fa 3 (.t 1), [3, 4, 11]⟩,
   ⟨(some 15), none, false, .ld false 1 (.t 14), [14]⟩,
   ⟨(some 16), none, false, .bin .eql (.t 15) (.k (intV 0)), [15]⟩])
 (.cond (.t 16)
  (.seq (.reg [⟨(some 17), none, false, .fa 4 (.t 1), [16]⟩,
     ⟨none, none, false, .st 1 (.t 17) (.k (boolV true)), [17]⟩])
   (.seq (.reg [⟨(some 18), none, false, .ld true 5 (.t 1), [1]⟩,
     ⟨none, none, false, .st 5 (.t 2) (.t 18), [18]⟩,
     ⟨(some 3), none, false, .mov (.k (intV 19)), []⟩])
   (.ret)))
  (.skip)))
 (.seq (.reg [⟨(some 19), none, false, .fa 1 (.t 1), [3, 16]⟩,
   ⟨(some 20), none, false, .ld false 1 (.t 19), [19]⟩,
   ⟨(some 21), none, false, .len (.t 20), [20]⟩,
   ⟨(some 22), none, false, .fa 2 (.t 1), []⟩,
   ⟨none, none, false, .st 1 (.t 22) (.t 21), [21, 22]⟩])
 (.seq (.reg [⟨(some 23), none, false, .ld true 5 (.t 1), [1]⟩,
   ⟨none, none, false, .st 5 (.t 2) (.t 23), [23]⟩,
   ⟨(some 3), none, false, .mov (.k (intV 0)), []⟩])
 (.ret)))))),
 [.cell 2 true 5, .tmp 3]⟩
def O22 : List (Nat × List Nat) := []
theorem F22_ok : cFun Try.prog O22 22 = some F22.erase := by kernel_rfl

/-- tracebook/tracebookref13.Truncate -/
def F23 : AFun := ⟨
 .seq (.reg [⟨(some 2), none, false, .bx (.t 0), [0]⟩,
   ⟨(some 4), none, false, .alloc [(.d (.lit (.int .i64 0))), .nil, (.d (.lit (.int .i64 0))), (.d (.lit (.int .i64 0))), (.d (.lit (.bool false)))], []⟩,
   ⟨(some 5), none, false, .mov (.k (intV 0)), [5]⟩])
 (.seq (.reg [⟨(some 8), none, false, .ld true 5 (.t 2), []⟩,
   ⟨(some 9), none, false, .call 29 [(.t 8)], [8]⟩,
   ⟨(some 7), none, false, .mov (.t 9), [9]⟩,
   ⟨(some 10), none, false, .ext (.t 7) 0, []⟩,
   ⟨(some 11), none, false, .ext (.t 7) 1, [7]⟩,
   ⟨none, none, false, .st 5 (.t 2) (.t 10), [10]⟩,
   ⟨(some 6), none, false, .mov (.t 11), [11]⟩])
 (.seq (.seq (.reg [⟨(some 12), none, false, .mov (.t 6), []⟩,
   ⟨(some 13), none, false, .bin .neq (.t 12) (.k (intV 0)), [12]⟩])
 (.cond (.t 13)
  (.seq (.reg [⟨(some 14), none, false, .ld true 5 (.t 2), [1, 2, 13]⟩,
     ⟨(some 15), none, false, .mov (.t 6), [6]⟩,
     ⟨none, none, false, .st 5 (.t 4) (.t 14), [14]⟩,
     ⟨(some 5), none, false, .mov (.t 15), [15]⟩])
   (.ret))
  (.skip)))
 (.seq (.seq (.reg [⟨(some 16), none, false, .mov (.t 1), [5, 6, 13]⟩,
   ⟨(some 17), none, false, .bin .lss (.t 16) (.k (intV 0)), [16]⟩,
   ⟨(some 18), none, true, .mov (.t 17), [17]⟩,
   ⟨(some 19), (some (18, false)), false, .mov (.t 1), []⟩,
   ⟨(some 20), (some (18, false)), false, .fa 1 (.t 2), []⟩,
   ⟨(some 21), (some (18, false)), false, .ld false 1 (.t 20), [20]⟩,
   ⟨(some 22), (some (18, false)), false, .len (.t 21), [21]⟩,
   ⟨(some 23), (some (18, false)), false, .bin .gtr (.t 19) (.t 22), [19, 22]⟩,
   ⟨(some 24), none, false, .pick (.t 18) (.k (boolV true)) (.t 23), [18, 23]⟩])
 (.cond (.t 24)
  (.seq (.reg [⟨(some 25), none, false, .build [(.d (.lit (.int .i64 0))), .nil, (.d (.lit (.int .i64 0))), (.d (.lit (.int .i64 0))), (.d (.lit (.bool false)))] [], [1, 2, 24]⟩,
     ⟨none, none, false, .st 5 (.t 4) (.t 25), [25]⟩,
     ⟨(some 5), none, false, .mov (.k (intV 2)), []⟩])
   (.ret))
  (.skip)))
 (.seq (.reg [⟨(some 26), none, false, .lits 1 [], [5, 24]⟩,
   ⟨(some 27), none, false, .fa 1 (.t 2), []⟩,
   ⟨(some 28), none, false, .ld false 1 (.t 27), [27]⟩,
   ⟨(some 29), none, false, .mov (.t 1), []⟩,
   ⟨(some 30), none, false, .sli 1 (.t 28) none (some (.t 29)), [28, 29]⟩,
   ⟨(some 31), none, false, .app 1 1 (.t 26) (.t 30), [26, 30]⟩,
   ⟨(some 32), none, false, .fa 1 (.t 2), []⟩,
   ⟨none, none, false, .st 1 (.t 32) (.t 31), [31, 32]⟩])
 (.seq (.reg [⟨(some 33), none, false, .fa 2 (.t 2), []⟩,
   ⟨(some 34), none, false, .ld false 1 (.t 33), [33]⟩,
   ⟨(some 35), none, false, .mov (.t 1), [1]⟩,
   ⟨(some 36), none, false, .mm false (.t 34) (.t 35), [34, 35]⟩,
   ⟨(some 37), none, false, .fa 2 (.t 2), []⟩,
   ⟨none, none, false, .st 1 (.t 37) (.t 36), [36, 37]⟩])
 (.seq (.reg [⟨(some 38), none, false, .ld true 5 (.t 2), [2]⟩,
   ⟨none, none, false, .st 5 (.t 4) (.t 38), [38]⟩,
   ⟨(some 5), none, false, .mov (.k (intV 0)), []⟩])
 (.ret))))))),
 [.cell 4 true 5, .tmp 5]⟩
def O23 : List (Nat × List Nat) := []
theorem F23_ok : cFun Try.prog O23 23 = some F23.erase := by kernel_rfl

/-- tracebook/tracebookref13.Arm -/
def F24 : AFun := ⟨
 .seq (.reg [⟨(some 2), none, false, .bx (.t 0), [0]⟩,
   ⟨(some 4), none, false, .alloc [(.d (.lit (.int .i64 0))), .nil, (.d (.lit (.int .i64 0))), (.d (.lit (.int .i64 0))), (.d (.lit (.bool false)))], []⟩,
   ⟨(some 5), none, false, .mov (.k (intV 0)), [5]⟩])
 (.seq (.reg [⟨(some 8), none, false, .ld true 5 (.t 2), []⟩,
   ⟨(some 9), none, false, .call 29 [(.t 8)], [8]⟩,
   ⟨(some 7), none, false, .mov (.t 9), [9]⟩,
   ⟨(some 10), none, false, .ext (.t 7) 0, []⟩,
   ⟨(some 11), none, false, .ext (.t 7) 1, [7]⟩,
   ⟨none, none, false, .st 5 (.t 2) (.t 10), [10]⟩,
   ⟨(some 6), none, false, .mov (.t 11), [11]⟩])
 (.seq (.seq (.reg [⟨(some 12), none, false, .mov (.t 6), []⟩,
   ⟨(some 13), none, false, .bin .neq (.t 12) (.k (intV 0)), [12]⟩])
 (.cond (.t 13)
  (.seq (.reg [⟨(some 14), none, false, .ld true 5 (.t 2), [1, 2, 13]⟩,
     ⟨(some 15), none, false, .mov (.t 6), [6]⟩,
     ⟨none, none, false, .st 5 (.t 4) (.t 14), [14]⟩,
     ⟨(some 5), none, false, .mov (.t 15), [15]⟩])
   (.ret))
  (.skip)))
 (.seq (.seq (.reg [⟨(some 16), none, false, .mov (.t 1), [5, 6, 13]⟩,
   ⟨(some 17), none, false, .bin .lss (.t 16) (.k (intV 0)), [16]⟩,
   ⟨(some 18), none, true, .mov (.t 17), [17]⟩,
   ⟨(some 19), (some (18, false)), false, .mov (.t 1), []⟩,
   ⟨(some 20), (some (18, false)), false, .bin .gtr (.t 19) (.k (intV 1048576)), [19]⟩,
   ⟨(some 21), none, false, .pick (.t 18) (.k (boolV true)) (.t 20), [18, 20]⟩])
 (.cond (.t 21)
  (.seq (.reg [⟨(some 22), none, false, .build [(.d (.lit (.int .i64 0))), .nil, (.d (.lit (.int .i64 0))), (.d (.lit (.int .i64 0))), (.d (.lit (.bool false)))] [], [1, 2, 21]⟩,
     ⟨none, none, false, .st 5 (.t 4) (.t 22), [22]⟩,
     ⟨(some 5), none, false, .mov (.k (intV 2)), []⟩])
   (.ret))
  (.skip)))
 (.seq (.reg [⟨(some 23), none, false, .mov (.t 1), [5, 1, 21]⟩,
   ⟨(some 24), none, false, .fa 3 (.t 2), []⟩,
   ⟨none, none, false, .st 1 (.t 24) (.t 23), [23, 24]⟩])
 (.seq (.reg [⟨(some 25), none, false, .ld true 5 (.t 2), [2]⟩,
   ⟨none, none, false, .st 5 (.t 4) (.t 25), [25]⟩,
   ⟨(some 5), none, false, .mov (.k (intV 0)), []⟩])
 (.ret)))))),
 [.cell 4 true 5, .tmp 5]⟩
def O24 : List (Nat × List Nat) := []
theorem F24_ok : cFun Try.prog O24 24 = some F24.erase := by kernel_rfl

/-- tracebook/tracebookref13.Crash -/
def F25 : AFun := ⟨
 .seq (.reg [⟨(some 2), none, false, .bx (.t 0), [0]⟩,
   ⟨(some 4), none, false, .alloc [(.d (.lit (.int .i64 0))), .nil, (.d (.lit (.int .i64 0))), (.d (.lit (.int .i64 0))), (.d (.lit (.bool false)))], []⟩])
 (.seq (.seq (.reg [⟨(some 6), none, false, .ld true 5 (.t 2), []⟩,
   ⟨(some 7), none, false, .call 16 [(.t 6)], [6]⟩,
   ⟨(some 8), none, false, .bin .neq (.t 7) (.k (intV 0)), [7]⟩])
 (.cond (.t 8)
  (.seq (.reg [⟨(some 9), none, false, .ld true 5 (.t 2), [1, 2, 8]⟩,
     ⟨none, none, false, .st 5 (.t 4) (.t 9), [9]⟩])
   (.ret))
  (.skip)))
 (.seq (.reg [⟨(some 10), none, false, .fa 2 (.t 2), [8]⟩,
   ⟨(some 11), none, false, .ld false 1 (.t 10), [10]⟩,
   ⟨(some 12), none, false, .mov (.t 1), [1]⟩,
   ⟨(some 13), none, false, .fa 1 (.t 2), []⟩,
   ⟨(some 14), none, false, .ld false 1 (.t 13), [13]⟩,
   ⟨(some 15), none, false, .len (.t 14), [14]⟩,
   ⟨(some 16), none, false, .fa 2 (.t 2), []⟩,
   ⟨(some 17), none, false, .ld false 1 (.t 16), [16]⟩,
   ⟨(some 18), none, false, .bin .sub (.t 15) (.t 17), [15, 17]⟩,
   ⟨(some 19), none, false, .mm false (.t 12) (.t 18), [12, 18]⟩,
   ⟨(some 20), none, false, .mm true (.k (intV 0)) (.t 19), [19]⟩,
   ⟨(some 21), none, false, .bin .add (.t 11) (.t 20), [11, 20]⟩,
   ⟨(some 5), none, false, .mov (.t 21), [21]⟩])
 (.seq (.reg [⟨(some 22), none, false, .lits 1 [], []⟩,
   ⟨(some 23), none, false, .fa 1 (.t 2), []⟩,
   ⟨(some 24), none, false, .ld false 1 (.t 23), [23]⟩,
   ⟨(some 25), none, false, .mov (.t 5), []⟩,
   ⟨(some 26), none, false, .sli 1 (.t 24) none (some (.t 25)), [24, 25]⟩,
   ⟨(some 27), none, false, .app 1 1 (.t 22) (.t 26), [22, 26]⟩,
   ⟨(some 28), none, false, .fa 1 (.t 2), []⟩,
   ⟨none, none, false, .st 1 (.t 28) (.t 27), [27, 28]⟩])
 (.seq (.reg [⟨(some 29), none, false, .mov (.t 5), [5]⟩,
   ⟨(some 30), none, false, .fa 2 (.t 2), []⟩,
   ⟨none, none, false, .st 1 (.t 30) (.t 29), [29, 30]⟩])
 (.seq (.reg [⟨(some 31), none, false, .fa 3 (.t 2), []⟩,
   ⟨none, none, false, .st 1 (.t 31) (.k (intV (-1))), [31]⟩])
 (.seq (.reg [⟨(some 32), none, false, .fa 4 (.t 2), []⟩,
   ⟨none, none, false, .st 1 (.t 32) (.k (boolV false)), [32]⟩])
 (.seq (.reg [⟨(some 33), none, false, .ld true 5 (.t 2), [2]⟩,
   ⟨none, none, false, .st 5 (.t 4) (.t 33), [33]⟩])
 (.ret)))))))),
 [.cell 4 true 5]⟩
def O25 : List (Nat × List Nat) := []
theorem F25_ok : cFun Try.prog O25 25 = some F25.erase := by kernel_rfl

/-- tracebook/tracebookref13.Append -/
def F26 : AFun := ⟨
 .seq (.reg [⟨(some 2), none, false, .bx (.t 0), [0]⟩,
   ⟨(some 4), none, false, .alloc [(.d (.lit (.int .i64 0))), .nil, (.d (.lit (.int .i64 0))), (.d (.lit (.int .i64 0))), (.d (.lit (.bool false)))], []⟩,
   ⟨(some 5), none, false, .mov (.k (intV 0)), [5]⟩])
 (.seq (.reg [⟨(some 9), none, false, .ld true 5 (.t 2), []⟩,
   ⟨(some 10), none, false, .call 29 [(.t 9)], [9]⟩,
   ⟨(some 8), none, false, .mov (.t 10), [10]⟩,
   ⟨(some 11), none, false, .ext (.t 8) 0, []⟩,
   ⟨(some 12), none, false, .ext (.t 8) 1, [8]⟩,
   ⟨none, none, false, .st 5 (.t 2) (.t 11), [11]⟩,
   ⟨(some 6), none, false, .mov (.t 12), [12]⟩])
 (.seq (.seq (.reg [⟨(some 13), none, false, .mov (.t 6), []⟩,
   ⟨(some 14), none, false, .bin .neq (.t 13) (.k (intV 0)), [13]⟩])
 (.cond (.t 14)
  (.seq (.reg [⟨(some 15), none, false, .ld true 5 (.t 2), [1, 2, 14]⟩,
     ⟨(some 16), none, false, .mov (.t 6), [6]⟩,
     ⟨none, none, false, .st 5 (.t 4) (.t 15), [15]⟩,
     ⟨(some 5), none, false, .mov (.t 16), [16]⟩])
   (.ret))
  (.skip)))
 (.seq (.seq (.reg [⟨(some 17), none, false, .fa 1 (.t 2), [5, 6, 14]⟩,
   ⟨(some 18), none, false, .ld false 1 (.t 17), [17]⟩,
   ⟨(some 19), none, false, .len (.t 18), [18]⟩,
   ⟨(some 20), none, false, .mov (.t 1), []⟩,
   ⟨(some 21), none, false, .len (.t 20), [20]⟩,
   ⟨(some 22), none, false, .bin .add (.t 19) (.t 21), [19, 21]⟩,
   ⟨(some 23), none, false, .fa 0 (.t 2), []⟩,
   ⟨(some 24), none, false, .ld false 1 (.t 23), [23]⟩,
   ⟨(some 25), none, false, .bin .gtr (.t 22) (.t 24), [22, 24]⟩])
 (.cond (.t 25)
  (.seq (.reg [⟨(some 26), none, false, .build [(.d (.lit (.int .i64 0))), .nil, (.d (.lit (.int .i64 0))), (.d (.lit (.int .i64 0))), (.d (.lit (.bool false)))] [], [1, 2, 25]⟩,
     ⟨none, none, false, .st 5 (.t 4) (.t 26), [26]⟩,
     ⟨(some 5), none, false, .mov (.k (intV 6)), []⟩])
   (.ret))
  (.skip)))
 (.seq (.reg [⟨(some 27), none, false, .fa 3 (.t 2), [5, 25]⟩,
   ⟨(some 28), none, false, .ld false 1 (.t 27), [27]⟩,
   ⟨(some 29), none, false, .bin .geq (.t 28) (.k (intV 0)), [28]⟩,
   ⟨(some 30), none, true, .mov (.t 29), [29]⟩,
   ⟨(some 31), (some (30, true)), false, .fa 3 (.t 2), []⟩,
   ⟨(some 32), (some (30, true)), false, .ld false 1 (.t 31), [31]⟩,
   ⟨(some 33), (some (30, true)), false, .mov (.t 1), []⟩,
   ⟨(some 34), (some (30, true)), false, .len (.t 33), [33]⟩,
   ⟨(some 35), (some (30, true)), false, .bin .lss (.t 32) (.t 34), [32, 34]⟩,
   ⟨(some 36), none, false, .pick (.t 30) (.t 35) (.k (boolV false)), [30, 35]⟩,
   ⟨(some 7), none, false, .mov (.t 36), [36]⟩])
 (.seq (.seq (.reg [⟨(some 37), none, false, .mov (.t 7), []⟩])
 (.cond (.t 37)
  (.reg [⟨(some 38), none, false, .mov (.t 1), [1, 37]⟩,
     ⟨(some 39), none, false, .fa 3 (.t 2), []⟩,
     ⟨(some 40), none, false, .ld false 1 (.t 39), [39]⟩,
     ⟨(some 41), none, false, .sli 1 (.t 38) none (some (.t 40)), [38, 40]⟩,
     ⟨(some 1), none, false, .mov (.t 41), [41]⟩])
  (.skip)))
 (.seq (.reg [⟨(some 42), none, false, .lits 1 [], [37]⟩,
   ⟨(some 43), none, false, .fa 1 (.t 2), []⟩,
   ⟨(some 44), none, false, .ld false 1 (.t 43), [43]⟩,
   ⟨(some 45), none, false, .app 1 1 (.t 42) (.t 44), [42, 44]⟩,
   ⟨(some 46), none, false, .mov (.t 1), []⟩,
   ⟨(some 47), none, false, .app 1 1 (.t 45) (.t 46), [45, 46]⟩,
   ⟨(some 48), none, false, .fa 1 (.t 2), []⟩,
   ⟨none, none, false, .st 1 (.t 48) (.t 47), [47, 48]⟩])
 (.seq (.seq (.reg [⟨(some 49), none, false, .fa 3 (.t 2), []⟩,
   ⟨(some 50), none, false, .ld false 1 (.t 49), [49]⟩,
   ⟨(some 51), none, false, .bin .geq (.t 50) (.k (intV 0)), [50]⟩])
 (.cond (.t 51)
  (.reg [⟨(some 52), none, false, .fa 3 (.t 2), [51]⟩,
     ⟨(some 53), none, false, .ld false 1 (.t 52), [52]⟩,
     ⟨(some 54), none, false, .mov (.t 1), [1]⟩,
     ⟨(some 55), none, false, .len (.t 54), [54]⟩,
     ⟨(some 56), none, false, .bin .sub (.t 53) (.t 55), [53, 55]⟩,
     ⟨(some 57), none, false, .fa 3 (.t 2), []⟩,
     ⟨none, none, false, .st 1 (.t 57) (.t 56), [56, 57]⟩])
  (.skip)))
 (.seq (.seq (.reg [⟨(some 58), none, false, .mov (.t 7), [7, 1, 51]⟩])
 (.cond (.t 58)
  (.seq (.reg [⟨(some 59), none, false, .fa 4 (.t 2), [58]⟩,
     ⟨none, none, false, .st 1 (.t 59) (.k (boolV true)), [59]⟩])
   (.seq (.reg [⟨(some 60), none, false, .ld true 5 (.t 2), [2]⟩,
     ⟨none, none, false, .st 5 (.t 4) (.t 60), [60]⟩,
     ⟨(some 5), none, false, .mov (.k (intV 19)), []⟩])
   (.ret)))
  (.skip)))
 (.seq (.reg [⟨(some 61), none, false, .ld true 5 (.t 2), [5, 2, 58]⟩,
   ⟨none, none, false, .st 5 (.t 4) (.t 61), [61]⟩,
   ⟨(some 5), none, false, .mov (.k (intV 0)), []⟩])
 (.ret)))))))))),
 [.cell 4 true 5, .tmp 5]⟩
def O26 : List (Nat × List Nat) := []
theorem F26_ok : cFun Try.prog O26 26 = some F26.erase := by kernel_rfl

/-- slices.Clone[[]byte,byte] -/
def F27 : AFun := ⟨
 .seq (.reg [⟨(some 2), none, false, .mov (.k (.w (.c .nil))), [2]⟩])
 (.seq (.seq (.reg [⟨(some 3), none, false, .mov (.t 0), []⟩,
   ⟨(some 4), none, false, .isn false (.t 3), [3]⟩])
 (.cond (.t 4)
  (.seq (.reg [⟨(some 2), none, false, .mov (.k (.w (.c .nil))), [0, 4]⟩])
   (.ret))
  (.skip)))
 (.seq (.reg [⟨(some 5), none, false, .lits 1 [], [2, 4]⟩,
   ⟨(some 6), none, false, .mov (.t 0), [0]⟩,
   ⟨(some 7), none, false, .app 1 1 (.t 5) (.t 6), [5, 6]⟩,
   ⟨(some 2), none, false, .mov (.t 7), [7]⟩])
 (.ret))),
 [.tmp 2]⟩
def O27 : List (Nat × List Nat) := []
theorem F27_ok : cFun Try.prog O27 27 = some F27.erase := by kernel_rfl

/-- tracebook/disk.up -/
def F28 : AFun := ⟨
 .seq (.reg [⟨(some 1), none, false, .bx (.t 0), [0]⟩,
   ⟨(some 2), none, false, .alloc [(.d (.lit (.int .i64 0))), .nil, (.d (.lit (.int .i64 0))), (.d (.lit (.int .i64 0))), (.d (.lit (.bool false)))], []⟩,
   ⟨(some 3), none, false, .mov (.k (intV 0)), [3]⟩])
 (.seq (.seq (.reg [⟨(some 5), none, false, .ld true 5 (.t 1), []⟩,
   ⟨(some 6), none, false, .call 15 [(.t 5)], [5]⟩,
   ⟨(some 4), none, false, .mov (.t 6), [6]⟩])
 (.seq (.reg [⟨(some 7), none, false, .mov (.t 4), []⟩,
   ⟨(some 8), none, false, .bin .neq (.t 7) (.k (intV 0)), [7]⟩])
 (.cond (.t 8)
  (.seq (.reg [⟨(some 9), none, false, .build [(.d (.lit (.int .i64 0))), .nil, (.d (.lit (.int .i64 0))), (.d (.lit (.int .i64 0))), (.d (.lit (.bool false)))] [], [1, 8]⟩,
     ⟨(some 10), none, false, .mov (.t 4), [4]⟩,
     ⟨none, none, false, .st 5 (.t 2) (.t 9), [9]⟩,
     ⟨(some 3), none, false, .mov (.t 10), [10]⟩])
   (.ret))
  (.skip))))
 (.seq (.seq (.reg [⟨(some 11), none, false, .fa 4 (.t 1), [3, 4, 8]⟩,
   ⟨(some 12), none, false, .ld false 1 (.t 11), [11]⟩])
 (.cond (.t 12)
  (.seq (.reg [⟨(some 13), none, false, .ld true 5 (.t 1), [1, 12]⟩,
     ⟨none, none, false, .st 5 (.t 2) (.t 13), [13]⟩,
     ⟨(some 3), none, false, .mov (.k (intV 19)), []⟩])
   (.ret))
  (.skip)))
 (.seq (.reg [⟨(some 14), none, false, .fa 1 (.t 1), [3, 12]⟩,
   ⟨(some 15), none, false, .ld false 1 (.t 14), [14]⟩,
   ⟨(some 16), none, false, .call 27 [(.t 15)], [15]⟩,
   ⟨(some 17), none, false, .fa 1 (.t 1), []⟩,
   ⟨none, none, false, .st 1 (.t 17) (.t 16), [16, 17]⟩])
 (.seq (.reg [⟨(some 18), none, false, .ld true 5 (.t 1), [1]⟩,
   ⟨none, none, false, .st 5 (.t 2) (.t 18), [18]⟩,
   ⟨(some 3), none, false, .mov (.k (intV 0)), []⟩])
 (.ret))))),
 [.cell 2 true 5, .tmp 3]⟩
def O28 : List (Nat × List Nat) := []
theorem F28_ok : cFun Try.prog O28 28 = some F28.erase := by kernel_rfl

/-- tracebook/tracebookref13.ready -/
def F29 : AFun := ⟨
 .seq (.reg [⟨(some 1), none, false, .bx (.t 0), [0]⟩,
   ⟨(some 2), none, false, .alloc [(.d (.lit (.int .i64 0))), .nil, (.d (.lit (.int .i64 0))), (.d (.lit (.int .i64 0))), (.d (.lit (.bool false)))], []⟩,
   ⟨(some 3), none, false, .mov (.k (intV 0)), [3]⟩])
 (.seq (.reg [⟨(some 5), none, false, .ld true 5 (.t 1), []⟩,
   ⟨(some 6), none, false, .call 16 [(.t 5)], [5]⟩,
   ⟨(some 4), none, false, .mov (.t 6), [6]⟩])
 (.seq (.seq (.reg [⟨(some 7), none, false, .mov (.t 4), []⟩,
   ⟨(some 8), none, false, .bin .neq (.t 7) (.k (intV 0)), [7]⟩])
 (.cond (.t 8)
  (.seq (.reg [⟨(some 9), none, false, .build [(.d (.lit (.int .i64 0))), .nil, (.d (.lit (.int .i64 0))), (.d (.lit (.int .i64 0))), (.d (.lit (.bool false)))] [], [1, 8]⟩,
     ⟨(some 10), none, false, .mov (.t 4), [4]⟩,
     ⟨none, none, false, .st 5 (.t 2) (.t 9), [9]⟩,
     ⟨(some 3), none, false, .mov (.t 10), [10]⟩])
   (.ret))
  (.skip)))
 (.seq (.seq (.reg [⟨(some 11), none, false, .fa 4 (.t 1), [3, 4, 8]⟩,
   ⟨(some 12), none, false, .ld false 1 (.t 11), [11]⟩])
 (.cond (.t 12)
  (.seq (.reg [⟨(some 13), none, false, .ld true 5 (.t 1), [1, 12]⟩,
     ⟨none, none, false, .st 5 (.t 2) (.t 13), [13]⟩,
     ⟨(some 3), none, false, .mov (.k (intV 19)), []⟩])
   (.ret))
  (.skip)))
 (.seq (.reg [⟨(some 14), none, false, .ld true 5 (.t 1), [3, 1, 12]⟩,
   ⟨none, none, false, .st 5 (.t 2) (.t 14), [14]⟩,
   ⟨(some 3), none, false, .mov (.k (intV 0)), []⟩])
 (.ret))))),
 [.cell 2 true 5, .tmp 3]⟩
def O29 : List (Nat × List Nat) := []
theorem F29_ok : cFun Try.prog O29 29 = some F29.erase := by kernel_rfl

end Go.Proofs.Ytbdcgchgpdclaaa
