/- Merged from the texts: Code2 AmU1 Da1 Da2 Da3 Da4 Da5 Da6 AmN4 Da7 Da8 Dy1 Dy2 Dy3 Dy4 Dy5 Dy6 Dy7 Dy8 Dy9 AmB1 AmB2 AmB3 AmB4 AmB5 AmC1 Dab De1 De6 -/
import Derived.Lib.Strings
import Derived.Lib.Slices
import Derived.Lib.Walk
import Derived.Lib.Bytealg
import Derived.ProofKit
import Derived.ChangeArms
import Derived.DataReads
import Derived.Carry
import Derived.Below
import Derived.ChangeSame
import Derived.WalkKit
import Derived.OpenShut
import Derived.JoinedOf
import Derived.Test.YtcajnlkkjdhjdaaGreatHf8
set_option linter.unusedSimpArgs false
set_option linter.unusedVariables false
namespace Go.Proofs.YtcajnlkkjdhjdaaGreat
open Go Go.AM
/- cmp_isNaN_ValueKind -/
def c_cmp_isNaN_ValueKind : AFun := ⟨.seq (.reg [⟨(some 2), none, false, .mov (.k (boolV false)), [2]⟩])
(.seq (.reg [⟨(some 3), none, false, .mov (.t 0), []⟩,
 ⟨(some 4), none, false, .mov (.t 0), [0]⟩,
 ⟨(some 5), none, false, .bin .neq (.t 3) (.t 4), [3, 4]⟩,
 ⟨(some 2), none, false, .mov (.t 5), [5]⟩])
(.ret)),
 [.tmp 2]⟩
def o_cmp_isNaN_ValueKind : List (Nat × List Nat) := []
theorem c_cmp_isNaN_ValueKind_ok : cFun Tryz.prog o_cmp_isNaN_ValueKind 90 = some c_cmp_isNaN_ValueKind.erase := by kernel_rfl

/- cmp_isNaN_string -/
def c_cmp_isNaN_string : AFun := ⟨.seq (.reg [⟨(some 2), none, false, .mov (.k (boolV false)), [2]⟩])
(.seq (.reg [⟨(some 3), none, false, .mov (.t 0), []⟩,
 ⟨(some 4), none, false, .mov (.t 0), [0]⟩,
 ⟨(some 5), none, false, .bin .neq (.t 3) (.t 4), [3, 4]⟩,
 ⟨(some 2), none, false, .mov (.t 5), [5]⟩])
(.ret)),
 [.tmp 2]⟩
def o_cmp_isNaN_string : List (Nat × List Nat) := []
theorem c_cmp_isNaN_string_ok : cFun Tryz.prog o_cmp_isNaN_string 91 = some c_cmp_isNaN_string.erase := by kernel_rfl

/- cmp_isNaN_int -/
def c_cmp_isNaN_int : AFun := ⟨.seq (.reg [⟨(some 2), none, false, .mov (.k (boolV false)), [2]⟩])
(.seq (.reg [⟨(some 3), none, false, .mov (.t 0), []⟩,
 ⟨(some 4), none, false, .mov (.t 0), [0]⟩,
 ⟨(some 5), none, false, .bin .neq (.t 3) (.t 4), [3, 4]⟩,
 ⟨(some 2), none, false, .mov (.t 5), [5]⟩])
(.ret)),
 [.tmp 2]⟩
def o_cmp_isNaN_int : List (Nat × List Nat) := []
theorem c_cmp_isNaN_int_ok : cFun Tryz.prog o_cmp_isNaN_int 92 = some c_cmp_isNaN_int.erase := by kernel_rfl

/- slices_Index_string -/
def c_slices_Index_string_L0 : ACode := (.seq (.reg [⟨(some 9), none, false, .bin .lss (.t 8) (.t 7), []⟩])
(.seq (.cond (.t 9)
(.skip)
(.exit 0))
(.seq (.block 1 (.seq (.reg [⟨(some 10), none, false, .mov (.t 8), [9]⟩,
 ⟨(some 5), none, false, .mov (.t 10), [10]⟩])
(.seq (.reg [⟨(some 11), none, false, .mov (.t 1), []⟩,
 ⟨(some 12), none, false, .mov (.t 0), []⟩,
 ⟨(some 13), none, false, .mov (.t 5), []⟩,
 ⟨(some 14), none, false, .ia 1 (.t 12) (.t 13), [12, 13]⟩,
 ⟨(some 15), none, false, .ld false 1 (.t 14), [14]⟩,
 ⟨(some 16), none, false, .bin .eql (.t 11) (.t 15), [11, 15]⟩])
(.cond (.t 16)
(.seq (.reg [⟨(some 17), none, false, .mov (.t 5), [0, 1, 7, 8, 5, 16]⟩,
 ⟨(some 4), none, false, .mov (.t 17), [17]⟩])
(.ret))
(.skip)))))
(.reg [⟨(some 18), none, false, .bin .add (.t 8) (.k (intV 1)), [4, 8, 5, 16, 9]⟩,
 ⟨(some 8), none, false, .mov (.t 18), [18]⟩]))))
def c_slices_Index_string : AFun := ⟨.seq (.reg [⟨(some 4), none, false, .mov (.k (intV 0)), [4]⟩])
(.seq (.seq (.reg [⟨(some 6), none, false, .mov (.t 0), []⟩,
 ⟨(some 7), none, false, .len (.t 6), [6]⟩,
 ⟨(some 8), none, false, .mov (.k (intV 0)), []⟩])
(.block 0 (.loop [0, 1, 7, 8] c_slices_Index_string_L0)))
(.seq (.reg [⟨(some 4), none, false, .mov (.k (intV (-1))), [0, 1, 7, 8]⟩])
(.ret))),
 [.tmp 4]⟩
def o_slices_Index_string : List (Nat × List Nat) := []
theorem c_slices_Index_string_ok : cFun Tryz.prog o_slices_Index_string 93 = some c_slices_Index_string.erase := by kernel_rfl

/- syntax_uses_1 -/
def c_syntax_uses_1 : AFun := ⟨.seq (.reg [⟨(some 3), none, false, .mov (.k (boolV false)), [3]⟩])
(.seq (.reg [⟨(some 4), none, false, .mov (.t 0), [0]⟩,
 ⟨(some 5), none, false, .fa 0 (.t 1), [1]⟩,
 ⟨(some 6), none, false, .ld false 1 (.t 5), [5]⟩,
 ⟨(some 7), none, false, .call 95 [(.t 4), (.t 6)], [4, 6]⟩,
 ⟨(some 3), none, false, .mov (.t 7), [7]⟩])
(.ret)),
 [.tmp 3]⟩
def o_syntax_uses_1 : List (Nat × List Nat) := []
theorem c_syntax_uses_1_ok : cFun Tryz.prog o_syntax_uses_1 94 = some c_syntax_uses_1.erase := by kernel_rfl

/- slices_Contains_StepOp -/
def c_slices_Contains_StepOp : AFun := ⟨.seq (.reg [⟨(some 4), none, false, .mov (.k (boolV false)), [4]⟩])
(.seq (.reg [⟨(some 5), none, false, .mov (.t 0), [0]⟩,
 ⟨(some 6), none, false, .mov (.t 1), [1]⟩,
 ⟨(some 7), none, false, .call 113 [(.t 5), (.t 6)], [5, 6]⟩,
 ⟨(some 8), none, false, .bin .geq (.t 7) (.k (intV 0)), [7]⟩,
 ⟨(some 4), none, false, .mov (.t 8), [8]⟩])
(.ret)),
 [.tmp 4]⟩
def o_slices_Contains_StepOp : List (Nat × List Nat) := []
theorem c_slices_Contains_StepOp_ok : cFun Tryz.prog o_slices_Contains_StepOp 95 = some c_slices_Contains_StepOp.erase := by kernel_rfl

/- syntax_zero -/
def c_syntax_zero : AFun := ⟨.seq (.reg [⟨(some 1), none, false, .bx (.t 0), [0]⟩,
 ⟨(some 2), none, false, .mov (.k (boolV false)), [2]⟩])
(.seq (.reg [⟨(some 3), none, false, .fa 0 (.t 1), []⟩,
 ⟨(some 4), none, false, .ld false 1 (.t 3), [3]⟩,
 ⟨(some 5), none, false, .bin .eql (.t 4) (.k (intV 0)), [4]⟩,
 ⟨(some 6), none, true, .mov (.t 5), [5]⟩,
 ⟨(some 7), (some (6, true)), false, .fa 1 (.t 1), []⟩,
 ⟨(some 8), (some (6, true)), false, .ld false 1 (.t 7), [7]⟩,
 ⟨(some 9), (some (6, true)), false, .bin .eql (.t 8) (.k (.w (.c (.d (.lit (.string ⟨#[]⟩)))))), [8]⟩,
 ⟨(some 10), none, false, .pick (.t 6) (.t 9) (.k (boolV false)), [6, 9, 8, 8, 7, 7]⟩,
 ⟨(some 11), none, true, .mov (.t 10), [10]⟩,
 ⟨(some 12), (some (11, true)), false, .fa 2 (.t 1), []⟩,
 ⟨(some 13), (some (11, true)), false, .ld true 3 (.t 12), [12]⟩,
 ⟨(some 14), (some (11, true)), false, .build [(.d (.lit (.int .i64 0))), (.d (.lit (.int .i64 0))), (.d (.lit (.string ⟨#[]⟩)))] [], []⟩,
 ⟨(some 15), (some (11, true)), false, .eqa false [0, 0, 1] (.t 13) (.t 14), [13, 14]⟩,
 ⟨(some 16), none, false, .pick (.t 11) (.t 15) (.k (boolV false)), [11, 15, 13, 14, 14, 13, 12, 12]⟩,
 ⟨(some 17), none, true, .mov (.t 16), [16]⟩,
 ⟨(some 18), (some (17, true)), false, .fa 5 (.t 1), [1]⟩,
 ⟨(some 19), (some (17, true)), false, .ld false 1 (.t 18), [18]⟩,
 ⟨(some 20), (some (17, true)), false, .len (.t 19), [19]⟩,
 ⟨(some 21), (some (17, true)), false, .bin .eql (.t 20) (.k (intV 0)), [20]⟩,
 ⟨(some 22), none, false, .pick (.t 17) (.t 21) (.k (boolV false)), [17, 21, 20, 20, 19, 19, 18, 18, 1]⟩,
 ⟨(some 2), none, false, .mov (.t 22), [22]⟩])
(.ret)),
 [.tmp 2]⟩
def o_syntax_zero : List (Nat × List Nat) := []
theorem c_syntax_zero_ok : cFun Tryz.prog o_syntax_zero 96 = some c_syntax_zero.erase := by kernel_rfl

/- syntax_measure -/
def c_syntax_measure_L0 : ACode := (.seq (.reg [⟨(some 16), none, false, .bin .lss (.t 15) (.t 14), []⟩])
(.seq (.cond (.t 16)
(.skip)
(.exit 0))
(.seq (.block 1 (.seq (.reg [⟨(some 17), none, false, .ia 6 (.t 13) (.t 15), [16]⟩,
 ⟨(some 18), none, false, .ld true 6 (.t 17), [17]⟩,
 ⟨(some 8), none, false, .alloc [(.d (.lit (.int .i64 0))), (.d (.lit (.string ⟨#[]⟩))), (.d (.lit (.int .i64 0))), (.d (.lit (.int .i64 0))), (.d (.lit (.string ⟨#[]⟩))), .nil], []⟩,
 ⟨none, none, false, .st 6 (.t 8) (.t 18), [18]⟩])
(.seq (.seq (.reg [⟨(some 19), none, false, .mov (.t 1), []⟩,
 ⟨(some 20), none, false, .bin .gtr (.t 19) (.k (intV 200)), [19]⟩])
(.cond (.t 20)
(.exit 0)
(.skip)))
(.seq (.reg [⟨(some 9), none, false, .mov (.k (intV 0)), [20, 9]⟩])
(.seq (.reg [⟨(some 22), none, false, .ld true 6 (.t 8), [8]⟩,
 ⟨(some 23), none, false, .mov (.t 1), [1]⟩,
 ⟨(some 24), none, false, .call 97 [(.t 22), (.t 23)], [22, 23]⟩,
 ⟨(some 21), none, false, .mov (.t 24), [24]⟩,
 ⟨(some 25), none, false, .ext (.t 21) 0, []⟩,
 ⟨(some 26), none, false, .ext (.t 21) 1, [21]⟩,
 ⟨(some 1), none, false, .mov (.t 25), [25]⟩,
 ⟨(some 9), none, false, .mov (.t 26), [26]⟩])
(.reg [⟨(some 27), none, false, .mov (.t 6), [6]⟩,
 ⟨(some 28), none, false, .mov (.t 9), [9]⟩,
 ⟨(some 29), none, false, .mm true (.t 27) (.t 28), [27, 28]⟩,
 ⟨(some 6), none, false, .mov (.t 29), [29]⟩]))))))
(.reg [⟨(some 30), none, false, .bin .add (.t 15) (.k (intV 1)), [15, 16]⟩,
 ⟨(some 15), none, false, .mov (.t 30), [30]⟩]))))
def c_syntax_measure : AFun := ⟨.seq (.reg [⟨(some 2), none, false, .bx (.t 0), [0]⟩,
 ⟨(some 4), none, false, .mov (.k (intV 0)), [4]⟩,
 ⟨(some 5), none, false, .mov (.k (intV 0)), [5]⟩])
(.seq (.reg [⟨(some 10), none, false, .mov (.t 1), [1]⟩,
 ⟨(some 11), none, false, .bin .add (.t 10) (.k (intV 1)), [10]⟩,
 ⟨(some 1), none, false, .mov (.t 11), [11]⟩])
(.seq (.reg [⟨(some 6), none, false, .mov (.k (intV 0)), []⟩])
(.seq (.seq (.reg [⟨(some 12), none, false, .fa 5 (.t 2), [2]⟩,
 ⟨(some 13), none, false, .ld false 1 (.t 12), [12]⟩,
 ⟨(some 14), none, false, .len (.t 13), []⟩,
 ⟨(some 15), none, false, .mov (.k (intV 0)), []⟩])
(.block 0 (.loop [1, 6, 13, 14, 15] c_syntax_measure_L0)))
(.seq (.reg [⟨(some 31), none, false, .mov (.t 1), [13, 14, 1, 15]⟩,
 ⟨(some 32), none, false, .mov (.t 6), [6]⟩,
 ⟨(some 33), none, false, .bin .add (.t 32) (.k (intV 1)), [32]⟩,
 ⟨(some 4), none, false, .mov (.t 31), [31]⟩,
 ⟨(some 5), none, false, .mov (.t 33), [33]⟩])
(.ret))))),
 [.tmp 4, .tmp 5]⟩
def o_syntax_measure : List (Nat × List Nat) := []
theorem c_syntax_measure_ok : cFun Tryz.prog o_syntax_measure 97 = some c_syntax_measure.erase := by kernel_rfl

/- syntax_nodes -/
def c_syntax_nodes_L0 : ACode := (.seq (.reg [⟨(some 16), none, false, .bin .lss (.t 15) (.t 14), []⟩])
(.seq (.cond (.t 16)
(.skip)
(.exit 0))
(.seq (.block 1 (.seq (.reg [⟨(some 17), none, false, .ia 6 (.t 13) (.t 15), [16]⟩,
 ⟨(some 18), none, false, .ld true 6 (.t 17), [17]⟩,
 ⟨(some 5), none, false, .alloc [(.d (.lit (.int .i64 0))), (.d (.lit (.string ⟨#[]⟩))), (.d (.lit (.int .i64 0))), (.d (.lit (.int .i64 0))), (.d (.lit (.string ⟨#[]⟩))), .nil], []⟩,
 ⟨none, none, false, .st 6 (.t 5) (.t 18), [18]⟩])
(.seq (.reg [⟨(some 19), none, false, .ld true 6 (.t 5), [5]⟩,
 ⟨(some 20), none, false, .call 98 [(.t 19)], [19]⟩,
 ⟨(some 6), none, false, .mov (.t 20), [20]⟩])
(.seq (.reg [⟨(some 21), none, false, .mov (.t 6), []⟩,
 ⟨(some 22), none, false, .bin .neq (.t 21) (.k (intV 0)), [21]⟩])
(.cond (.t 22)
(.seq (.reg [⟨(some 23), none, false, .mov (.t 6), [13, 14, 15, 6, 22]⟩,
 ⟨(some 2), none, false, .mov (.t 23), [23]⟩])
(.ret))
(.skip))))))
(.reg [⟨(some 24), none, false, .bin .add (.t 15) (.k (intV 1)), [2, 15, 6, 22, 16]⟩,
 ⟨(some 15), none, false, .mov (.t 24), [24]⟩]))))
def c_syntax_nodes : AFun := ⟨.seq (.reg [⟨(some 1), none, false, .bx (.t 0), [0]⟩,
 ⟨(some 2), none, false, .mov (.k (intV 0)), [2]⟩])
(.seq (.seq (.reg [⟨(some 7), none, false, .ld true 6 (.t 1), []⟩,
 ⟨(some 8), none, false, .call 114 [(.t 7)], [7]⟩,
 ⟨(some 3), none, false, .mov (.t 8), [8]⟩])
(.seq (.reg [⟨(some 9), none, false, .mov (.t 3), []⟩,
 ⟨(some 10), none, false, .bin .neq (.t 9) (.k (intV 0)), [9]⟩])
(.cond (.t 10)
(.seq (.reg [⟨(some 11), none, false, .mov (.t 3), [1, 3, 10]⟩,
 ⟨(some 2), none, false, .mov (.t 11), [11]⟩])
(.ret))
(.skip))))
(.seq (.seq (.reg [⟨(some 12), none, false, .fa 5 (.t 1), [2, 1, 3, 10]⟩,
 ⟨(some 13), none, false, .ld false 1 (.t 12), [12]⟩,
 ⟨(some 14), none, false, .len (.t 13), []⟩,
 ⟨(some 15), none, false, .mov (.k (intV 0)), []⟩])
(.block 0 (.loop [13, 14, 15] c_syntax_nodes_L0)))
(.seq (.reg [⟨(some 2), none, false, .mov (.k (intV 0)), [13, 14, 15]⟩])
(.ret)))),
 [.tmp 2]⟩
def o_syntax_nodes : List (Nat × List Nat) := []
theorem c_syntax_nodes_ok : cFun Tryz.prog o_syntax_nodes 98 = some c_syntax_nodes.erase := by kernel_rfl

/- syntax_list_add -/
def c_syntax_list_add : AFun := ⟨.seq (.reg [⟨(some 4), none, false, .mov (.k (intV 0)), [4]⟩])
(.seq (.seq (.reg [⟨(some 5), none, false, .mov (.t 1), []⟩,
 ⟨(some 6), none, false, .call 56 [(.t 5)], [5]⟩,
 ⟨(some 7), none, false, .bnot (.t 6), [6]⟩])
(.cond (.t 7)
(.seq (.reg [⟨(some 4), none, false, .mov (.k (intV 3)), [0, 1, 7]⟩])
(.ret))
(.skip)))
(.seq (.seq (.reg [⟨(some 8), none, false, .mov (.t 0), [4, 7]⟩,
 ⟨(some 9), none, false, .nc (.t 8), [8]⟩,
 ⟨(some 10), none, false, .fa 0 (.t 9), [9]⟩,
 ⟨(some 11), none, false, .ld false 1 (.t 10), [10]⟩,
 ⟨(some 12), none, false, .mov (.t 1), []⟩,
 ⟨(some 13), none, false, .call 77 [(.t 11), (.t 12)], [11, 12]⟩])
(.cond (.t 13)
(.seq (.reg [⟨(some 4), none, false, .mov (.k (intV 4)), [0, 1, 13]⟩])
(.ret))
(.skip)))
(.seq (.reg [⟨(some 14), none, false, .mov (.t 0), [4, 13]⟩,
 ⟨(some 15), none, false, .mov (.t 0), [0]⟩,
 ⟨(some 16), none, false, .nc (.t 15), [15]⟩,
 ⟨(some 17), none, false, .fa 0 (.t 16), [16]⟩,
 ⟨(some 18), none, false, .ld false 1 (.t 17), [17]⟩,
 ⟨(some 19), none, false, .mov (.t 1), [1]⟩,
 ⟨(some 20), none, false, .lits 1 [(.t 19)], [19]⟩,
 ⟨(some 21), none, false, .app 1 16 (.t 18) (.t 20), [18, 20]⟩,
 ⟨(some 22), none, false, .nc (.t 14), [14]⟩,
 ⟨(some 23), none, false, .fa 0 (.t 22), [22]⟩,
 ⟨none, none, false, .st 1 (.t 23) (.t 21), [21, 23]⟩])
(.seq (.reg [⟨(some 4), none, false, .mov (.k (intV 0)), []⟩])
(.ret))))),
 [.tmp 4]⟩
def o_syntax_list_add : List (Nat × List Nat) := []
theorem c_syntax_list_add_ok : cFun Tryz.prog o_syntax_list_add 99 = some c_syntax_list_add.erase := by kernel_rfl

/- syntax_list_all -/
def c_syntax_list_all_L0 : ACode := (.seq (.reg [⟨(some 11), none, false, .bin .lss (.t 10) (.t 9), []⟩])
(.seq (.cond (.t 11)
(.skip)
(.exit 0))
(.seq (.block 1 (.seq (.reg [⟨(some 12), none, false, .ia 1 (.t 8) (.t 10), [11]⟩,
 ⟨(some 13), none, false, .ld false 1 (.t 12), [12]⟩,
 ⟨(some 6), none, false, .mov (.t 13), [13]⟩])
(.seq (.reg [⟨(some 14), none, false, .mov (.t 0), []⟩,
 ⟨(some 15), none, false, .mov (.t 6), [6]⟩,
 ⟨(some 16), none, false, .callh 99 [(.t 14), (.t 15)], [14, 15]⟩,
 ⟨(some 7), none, false, .mov (.t 16), [16]⟩])
(.seq (.reg [⟨(some 17), none, false, .mov (.t 7), []⟩,
 ⟨(some 18), none, false, .bin .neq (.t 17) (.k (intV 0)), [17]⟩])
(.cond (.t 18)
(.seq (.reg [⟨(some 19), none, false, .mov (.t 7), [0, 8, 9, 10, 7, 18]⟩,
 ⟨(some 4), none, false, .mov (.t 19), [19]⟩])
(.ret))
(.skip))))))
(.reg [⟨(some 20), none, false, .bin .add (.t 10) (.k (intV 1)), [4, 10, 7, 18, 11]⟩,
 ⟨(some 10), none, false, .mov (.t 20), [20]⟩]))))
def c_syntax_list_all : AFun := ⟨.seq (.reg [⟨(some 4), none, false, .mov (.k (intV 0)), [4]⟩])
(.seq (.seq (.reg [⟨(some 8), none, false, .mov (.t 1), [1]⟩,
 ⟨(some 9), none, false, .len (.t 8), []⟩,
 ⟨(some 10), none, false, .mov (.k (intV 0)), []⟩])
(.block 0 (.loop [0, 8, 9, 10] c_syntax_list_all_L0)))
(.seq (.reg [⟨(some 4), none, false, .mov (.k (intV 0)), [0, 8, 9, 10]⟩])
(.ret))),
 [.tmp 4]⟩
def o_syntax_list_all : List (Nat × List Nat) := [(1000004, [2])]
theorem c_syntax_list_all_ok : cFun Tryz.prog o_syntax_list_all 100 = some c_syntax_list_all.erase := by kernel_rfl

/- slices_rotateCmpFunc_Change -/
def c_slices_rotateCmpFunc_Change_L0 : ACode := (.seq (.seq (.reg [⟨(some 18), none, false, .mov (.t 10), []⟩,
 ⟨(some 19), none, false, .mov (.t 11), []⟩,
 ⟨(some 20), none, false, .bin .neq (.t 18) (.t 19), [18, 19]⟩])
(.cond (.t 20)
(.skip)
(.exit 0)))
(.block 1 (.seq (.reg [⟨(some 21), none, false, .mov (.t 10), [20]⟩,
 ⟨(some 22), none, false, .mov (.t 11), []⟩,
 ⟨(some 23), none, false, .bin .gtr (.t 21) (.t 22), [21, 22]⟩])
(.cond (.t 23)
(.seq (.reg [⟨(some 24), none, false, .mov (.t 0), [23]⟩,
 ⟨(some 25), none, false, .mov (.t 2), []⟩,
 ⟨(some 26), none, false, .mov (.t 10), []⟩,
 ⟨(some 27), none, false, .bin .sub (.t 25) (.t 26), [25, 26]⟩,
 ⟨(some 28), none, false, .mov (.t 2), []⟩,
 ⟨(some 29), none, false, .mov (.t 11), []⟩,
 ⟨(some 30), none, false, .mov (.t 4), []⟩,
 ⟨(some 31), none, false, .callh 116 [(.t 24), (.t 27), (.t 28), (.t 29), (.t 30)], [24, 27, 28, 29, 30, 31]⟩])
(.reg [⟨(some 32), none, false, .mov (.t 10), [10]⟩,
 ⟨(some 33), none, false, .mov (.t 11), []⟩,
 ⟨(some 34), none, false, .bin .sub (.t 32) (.t 33), [32, 33]⟩,
 ⟨(some 10), none, false, .mov (.t 34), [34]⟩]))
(.seq (.reg [⟨(some 35), none, false, .mov (.t 0), [23]⟩,
 ⟨(some 36), none, false, .mov (.t 2), []⟩,
 ⟨(some 37), none, false, .mov (.t 10), []⟩,
 ⟨(some 38), none, false, .bin .sub (.t 36) (.t 37), [36, 37]⟩,
 ⟨(some 39), none, false, .mov (.t 2), []⟩,
 ⟨(some 40), none, false, .mov (.t 11), []⟩,
 ⟨(some 41), none, false, .bin .add (.t 39) (.t 40), [39, 40]⟩,
 ⟨(some 42), none, false, .mov (.t 10), []⟩,
 ⟨(some 43), none, false, .bin .sub (.t 41) (.t 42), [41, 42]⟩,
 ⟨(some 44), none, false, .mov (.t 10), []⟩,
 ⟨(some 45), none, false, .mov (.t 4), []⟩,
 ⟨(some 46), none, false, .callh 116 [(.t 35), (.t 38), (.t 43), (.t 44), (.t 45)], [35, 38, 43, 44, 45, 46]⟩])
(.reg [⟨(some 47), none, false, .mov (.t 11), [11]⟩,
 ⟨(some 48), none, false, .mov (.t 10), []⟩,
 ⟨(some 49), none, false, .bin .sub (.t 47) (.t 48), [47, 48]⟩,
 ⟨(some 11), none, false, .mov (.t 49), [49]⟩]))))))
def c_slices_rotateCmpFunc_Change : AFun := ⟨.seq (.reg [⟨(some 12), none, false, .mov (.t 2), []⟩,
 ⟨(some 13), none, false, .mov (.t 1), [1]⟩,
 ⟨(some 14), none, false, .bin .sub (.t 12) (.t 13), [12, 13]⟩,
 ⟨(some 10), none, false, .mov (.t 14), [14]⟩])
(.seq (.reg [⟨(some 15), none, false, .mov (.t 3), [3]⟩,
 ⟨(some 16), none, false, .mov (.t 2), []⟩,
 ⟨(some 17), none, false, .bin .sub (.t 15) (.t 16), [15, 16]⟩,
 ⟨(some 11), none, false, .mov (.t 17), [17]⟩])
(.seq (.block 0 (.loop [0, 2, 4, 10, 11] c_slices_rotateCmpFunc_Change_L0))
(.reg [⟨(some 50), none, false, .mov (.t 0), [0, 11, 20]⟩,
 ⟨(some 51), none, false, .mov (.t 2), []⟩,
 ⟨(some 52), none, false, .mov (.t 10), []⟩,
 ⟨(some 53), none, false, .bin .sub (.t 51) (.t 52), [51, 52]⟩,
 ⟨(some 54), none, false, .mov (.t 2), [2]⟩,
 ⟨(some 55), none, false, .mov (.t 10), [10]⟩,
 ⟨(some 56), none, false, .mov (.t 4), [4]⟩,
 ⟨(some 57), none, false, .callh 116 [(.t 50), (.t 53), (.t 54), (.t 55), (.t 56)], [50, 53, 54, 55, 56, 57]⟩]))),
 []⟩
def o_slices_rotateCmpFunc_Change : List (Nat × List Nat) := [(1000004, [7]), (1000006, [11]), (1000008, [7])]
theorem c_slices_rotateCmpFunc_Change_ok : cFun Tryz.prog o_slices_rotateCmpFunc_Change 102 = some c_slices_rotateCmpFunc_Change.erase := by kernel_rfl

/- slices_Index_StepOp -/
def c_slices_Index_StepOp_L0 : ACode := (.seq (.reg [⟨(some 9), none, false, .bin .lss (.t 8) (.t 7), []⟩])
(.seq (.cond (.t 9)
(.skip)
(.exit 0))
(.seq (.block 1 (.seq (.reg [⟨(some 10), none, false, .mov (.t 8), [9]⟩,
 ⟨(some 5), none, false, .mov (.t 10), [10]⟩])
(.seq (.reg [⟨(some 11), none, false, .mov (.t 1), []⟩,
 ⟨(some 12), none, false, .mov (.t 0), []⟩,
 ⟨(some 13), none, false, .mov (.t 5), []⟩,
 ⟨(some 14), none, false, .ia 1 (.t 12) (.t 13), [12, 13]⟩,
 ⟨(some 15), none, false, .ld false 1 (.t 14), [14]⟩,
 ⟨(some 16), none, false, .bin .eql (.t 11) (.t 15), [11, 15]⟩])
(.cond (.t 16)
(.seq (.reg [⟨(some 17), none, false, .mov (.t 5), [0, 1, 7, 8, 5, 16]⟩,
 ⟨(some 4), none, false, .mov (.t 17), [17]⟩])
(.ret))
(.skip)))))
(.reg [⟨(some 18), none, false, .bin .add (.t 8) (.k (intV 1)), [4, 8, 5, 16, 9]⟩,
 ⟨(some 8), none, false, .mov (.t 18), [18]⟩]))))
def c_slices_Index_StepOp : AFun := ⟨.seq (.reg [⟨(some 4), none, false, .mov (.k (intV 0)), [4]⟩])
(.seq (.seq (.reg [⟨(some 6), none, false, .mov (.t 0), []⟩,
 ⟨(some 7), none, false, .len (.t 6), [6]⟩,
 ⟨(some 8), none, false, .mov (.k (intV 0)), []⟩])
(.block 0 (.loop [0, 1, 7, 8] c_slices_Index_StepOp_L0)))
(.seq (.reg [⟨(some 4), none, false, .mov (.k (intV (-1))), [0, 1, 7, 8]⟩])
(.ret))),
 [.tmp 4]⟩
def o_slices_Index_StepOp : List (Nat × List Nat) := []
theorem c_slices_Index_StepOp_ok : cFun Tryz.prog o_slices_Index_StepOp 113 = some c_slices_Index_StepOp.erase := by kernel_rfl

/- syntax_node -/
def c_syntax_node : AFun := ⟨.seq (.reg [⟨(some 1), none, false, .bx (.t 0), [0]⟩,
 ⟨(some 2), none, false, .mov (.k (intV 0)), [2]⟩])
(.seq (.reg [⟨(some 3), none, false, .mov (.k (intV 2)), []⟩,
 ⟨(some 4), none, false, .mov (.k (boolV false)), []⟩,
 ⟨(some 5), none, false, .mov (.k (boolV false)), []⟩])
(.seq (.block 0 (.seq (.reg [⟨(some 7), none, false, .fa 0 (.t 1), []⟩,
 ⟨(some 8), none, false, .ld false 1 (.t 7), [7]⟩,
 ⟨(some 9), none, false, .bin .eql (.t 8) (.k (intV 1)), [8]⟩,
 ⟨(some 6), none, false, .mov (.t 9), [9]⟩])
(.cond (.t 6)
(.reg [⟨(some 3), none, false, .mov (.k (intV 0)), [5, 6]⟩,
 ⟨(some 5), none, false, .mov (.k (boolV true)), []⟩])
(.seq (.reg [⟨(some 11), none, false, .fa 0 (.t 1), [6]⟩,
 ⟨(some 12), none, false, .ld false 1 (.t 11), [11]⟩,
 ⟨(some 13), none, false, .bin .eql (.t 12) (.k (intV 2)), [12]⟩,
 ⟨(some 10), none, false, .mov (.t 13), [13]⟩])
(.cond (.t 10)
(.reg [⟨(some 3), none, false, .mov (.k (intV 0)), [4, 10]⟩,
 ⟨(some 4), none, false, .mov (.k (boolV true)), []⟩])
(.seq (.reg [⟨(some 15), none, false, .fa 0 (.t 1), [10]⟩,
 ⟨(some 16), none, false, .ld false 1 (.t 15), [15]⟩,
 ⟨(some 17), none, false, .bin .eql (.t 16) (.k (intV 3)), [16]⟩,
 ⟨(some 18), none, true, .mov (.t 17), [17]⟩,
 ⟨(some 19), (some (18, false)), false, .fa 0 (.t 1), []⟩,
 ⟨(some 20), (some (18, false)), false, .ld false 1 (.t 19), [19]⟩,
 ⟨(some 21), (some (18, false)), false, .bin .eql (.t 20) (.k (intV 4)), [20]⟩,
 ⟨(some 22), none, false, .pick (.t 18) (.k (boolV true)) (.t 21), [18, 21, 20, 20, 19, 19]⟩,
 ⟨(some 14), none, false, .mov (.t 22), [22]⟩])
(.cond (.t 14)
(.reg [⟨(some 3), none, false, .mov (.k (intV 1)), [14]⟩])
(.seq (.reg [⟨(some 24), none, false, .fa 0 (.t 1), [14]⟩,
 ⟨(some 25), none, false, .ld false 1 (.t 24), [24]⟩,
 ⟨(some 26), none, false, .bin .eql (.t 25) (.k (intV 16)), [25]⟩,
 ⟨(some 23), none, false, .mov (.t 26), [26]⟩])
(.cond (.t 23)
(.reg [⟨(some 27), none, false, .fa 5 (.t 1), [3, 4, 23]⟩,
 ⟨(some 28), none, false, .ld false 1 (.t 27), [27]⟩,
 ⟨(some 29), none, false, .len (.t 28), [28]⟩,
 ⟨(some 3), none, false, .mov (.t 29), [29]⟩,
 ⟨(some 4), none, false, .mov (.k (boolV true)), []⟩])
(.seq (.reg [⟨(some 31), none, false, .fa 0 (.t 1), [23]⟩,
 ⟨(some 32), none, false, .ld false 1 (.t 31), [31]⟩,
 ⟨(some 33), none, false, .bin .lss (.t 32) (.k (intV 5)), [32]⟩,
 ⟨(some 34), none, true, .mov (.t 33), [33]⟩,
 ⟨(some 35), (some (34, false)), false, .fa 0 (.t 1), []⟩,
 ⟨(some 36), (some (34, false)), false, .ld false 1 (.t 35), [35]⟩,
 ⟨(some 37), (some (34, false)), false, .bin .gtr (.t 36) (.k (intV 15)), [36]⟩,
 ⟨(some 38), none, false, .pick (.t 34) (.k (boolV true)) (.t 37), [34, 37, 36, 36, 35, 35]⟩,
 ⟨(some 30), none, false, .mov (.t 38), [38]⟩])
(.cond (.t 30)
(.seq (.reg [⟨(some 2), none, false, .mov (.k (intV 1)), [1, 3, 4, 5, 30]⟩])
(.ret))
(.skip))))))))))))
(.seq (.block 1 (.seq (.seq (.reg [⟨(some 40), none, false, .fa 5 (.t 1), [2, 30]⟩,
 ⟨(some 41), none, false, .ld false 1 (.t 40), [40]⟩,
 ⟨(some 42), none, false, .len (.t 41), [41]⟩,
 ⟨(some 43), none, false, .mov (.t 3), []⟩,
 ⟨(some 44), none, false, .bin .neq (.t 42) (.t 43), [42, 43]⟩,
 ⟨(some 39), none, false, .mov (.t 44), [44]⟩])
(.cond (.t 39)
(.skip)
(.seq (.reg [⟨(some 45), none, false, .fa 1 (.t 1), [39]⟩,
 ⟨(some 46), none, false, .ld false 1 (.t 45), [45]⟩,
 ⟨(some 47), none, false, .bin .neq (.t 46) (.k (.w (.c (.d (.lit (.string ⟨#[]⟩)))))), [46]⟩,
 ⟨(some 48), none, true, .mov (.t 47), [47]⟩,
 ⟨(some 49), (some (48, true)), false, .mov (.t 4), []⟩,
 ⟨(some 50), (some (48, true)), false, .bnot (.t 49), [49]⟩,
 ⟨(some 51), none, false, .pick (.t 48) (.t 50) (.k (boolV false)), [48, 50, 49, 49]⟩,
 ⟨(some 39), none, false, .mov (.t 51), [51]⟩])
(.cond (.t 39)
(.skip)
(.reg [⟨(some 52), none, false, .fa 2 (.t 1), [39]⟩,
 ⟨(some 53), none, false, .ld true 3 (.t 52), [52]⟩,
 ⟨(some 54), none, false, .build [(.d (.lit (.int .i64 0))), (.d (.lit (.int .i64 0))), (.d (.lit (.string ⟨#[]⟩)))] [], []⟩,
 ⟨(some 55), none, false, .eqa true [0, 0, 1] (.t 53) (.t 54), [53, 54]⟩,
 ⟨(some 56), none, true, .mov (.t 55), [55]⟩,
 ⟨(some 57), (some (56, true)), false, .mov (.t 5), []⟩,
 ⟨(some 58), (some (56, true)), false, .bnot (.t 57), [57]⟩,
 ⟨(some 59), none, false, .pick (.t 56) (.t 58) (.k (boolV false)), [56, 58, 57, 57]⟩,
 ⟨(some 39), none, false, .mov (.t 59), [59]⟩])))))
(.cond (.t 39)
(.seq (.reg [⟨(some 2), none, false, .mov (.k (intV 1)), [1, 3, 4, 5, 39]⟩])
(.ret))
(.seq (.reg [⟨(some 61), none, false, .mov (.t 5), [5, 39]⟩,
 ⟨(some 60), none, false, .mov (.t 61), [61]⟩])
(.cond (.t 60)
(.seq (.reg [⟨(some 62), none, false, .fa 2 (.t 1), [1, 3, 4, 60]⟩,
 ⟨(some 63), none, false, .ld true 3 (.t 62), [62]⟩,
 ⟨(some 64), none, false, .call 122 [(.t 63)], [63]⟩,
 ⟨(some 2), none, false, .mov (.t 64), [64]⟩])
(.ret))
(.seq (.reg [⟨(some 66), none, false, .mov (.t 4), [4, 60]⟩,
 ⟨(some 67), none, true, .mov (.t 66), [66]⟩,
 ⟨(some 68), (some (67, true)), false, .fa 1 (.t 1), []⟩,
 ⟨(some 69), (some (67, true)), false, .ld false 1 (.t 68), [68]⟩,
 ⟨(some 70), (some (67, true)), false, .call 56 [(.t 69)], [69]⟩,
 ⟨(some 71), (some (67, true)), false, .bnot (.t 70), [70]⟩,
 ⟨(some 72), none, false, .pick (.t 67) (.t 71) (.k (boolV false)), [67, 71, 70, 70, 69, 69, 68, 68]⟩,
 ⟨(some 65), none, false, .mov (.t 72), [72]⟩])
(.cond (.t 65)
(.seq (.reg [⟨(some 2), none, false, .mov (.k (intV 3)), [1, 3, 65]⟩])
(.ret))
(.seq (.reg [⟨(some 74), none, false, .fa 0 (.t 1), [65]⟩,
 ⟨(some 75), none, false, .ld false 1 (.t 74), [74]⟩,
 ⟨(some 76), none, false, .bin .eql (.t 75) (.k (intV 16)), [75]⟩,
 ⟨(some 77), none, true, .mov (.t 76), [76]⟩,
 ⟨(some 78), (some (77, true)), false, .fa 1 (.t 1), []⟩,
 ⟨(some 79), (some (77, true)), false, .ld false 1 (.t 78), [78]⟩,
 ⟨(some 80), (some (77, true)), false, .call 123 [(.t 79)], [79]⟩,
 ⟨(some 81), (some (77, true)), false, .bin .eql (.t 80) (.k (intV 0)), [80]⟩,
 ⟨(some 82), none, false, .pick (.t 77) (.t 81) (.k (boolV false)), [77, 81, 80, 80, 79, 79, 78, 78]⟩,
 ⟨(some 73), none, false, .mov (.t 82), [82]⟩])
(.cond (.t 73)
(.seq (.reg [⟨(some 2), none, false, .mov (.k (intV 5)), [1, 3, 73]⟩])
(.ret))
(.seq (.reg [⟨(some 84), none, false, .fa 0 (.t 1), [73]⟩,
 ⟨(some 85), none, false, .ld false 1 (.t 84), [84]⟩,
 ⟨(some 86), none, false, .bin .eql (.t 85) (.k (intV 16)), [85]⟩,
 ⟨(some 87), none, true, .mov (.t 86), [86]⟩,
 ⟨(some 88), (some (87, true)), false, .fa 1 (.t 1), [1]⟩,
 ⟨(some 89), (some (87, true)), false, .ld false 1 (.t 88), [88]⟩,
 ⟨(some 90), (some (87, true)), false, .call 123 [(.t 89)], [89]⟩,
 ⟨(some 91), (some (87, true)), false, .mov (.t 3), [3]⟩,
 ⟨(some 92), (some (87, true)), false, .bin .neq (.t 90) (.t 91), [90, 91]⟩,
 ⟨(some 93), none, false, .pick (.t 87) (.t 92) (.k (boolV false)), [87, 92, 90, 91, 91, 3, 90, 89, 89, 88, 88, 1]⟩,
 ⟨(some 83), none, false, .mov (.t 93), [93]⟩])
(.cond (.t 83)
(.seq (.reg [⟨(some 2), none, false, .mov (.k (intV 1)), [83]⟩])
(.ret))
(.skip))))))))))))
(.seq (.reg [⟨(some 2), none, false, .mov (.k (intV 0)), [83, 1, 3, 4, 5, 30]⟩])
(.ret))))),
 [.tmp 2]⟩
def o_syntax_node : List (Nat × List Nat) := []
theorem c_syntax_node_ok : cFun Tryz.prog o_syntax_node 114 = some c_syntax_node.erase := by kernel_rfl

/- slices_swapRangeCmpFunc_Change -/
def c_slices_swapRangeCmpFunc_Change_L0 : ACode := (.seq (.seq (.reg [⟨(some 11), none, false, .mov (.t 10), []⟩,
 ⟨(some 12), none, false, .mov (.t 3), []⟩,
 ⟨(some 13), none, false, .bin .lss (.t 11) (.t 12), [11, 12]⟩])
(.cond (.t 13)
(.skip)
(.exit 0)))
(.seq (.block 1 (.reg [⟨(some 16), none, false, .mov (.t 0), [13]⟩,
 ⟨(some 17), none, false, .mov (.t 1), []⟩,
 ⟨(some 18), none, false, .mov (.t 10), []⟩,
 ⟨(some 19), none, false, .bin .add (.t 17) (.t 18), [17, 18]⟩,
 ⟨(some 20), none, false, .mov (.t 0), []⟩,
 ⟨(some 21), none, false, .mov (.t 2), []⟩,
 ⟨(some 22), none, false, .mov (.t 10), []⟩,
 ⟨(some 23), none, false, .bin .add (.t 21) (.t 22), [21, 22]⟩,
 ⟨(some 24), none, false, .mov (.t 0), []⟩,
 ⟨(some 25), none, false, .mov (.t 2), []⟩,
 ⟨(some 26), none, false, .mov (.t 10), []⟩,
 ⟨(some 27), none, false, .bin .add (.t 25) (.t 26), [25, 26]⟩,
 ⟨(some 28), none, false, .ia 2 (.t 24) (.t 27), [24, 27]⟩,
 ⟨(some 29), none, false, .ld true 2 (.t 28), [28]⟩,
 ⟨(some 30), none, false, .mov (.t 0), []⟩,
 ⟨(some 31), none, false, .mov (.t 1), []⟩,
 ⟨(some 32), none, false, .mov (.t 10), []⟩,
 ⟨(some 33), none, false, .bin .add (.t 31) (.t 32), [31, 32]⟩,
 ⟨(some 34), none, false, .ia 2 (.t 30) (.t 33), [30, 33]⟩,
 ⟨(some 35), none, false, .ld true 2 (.t 34), [34]⟩,
 ⟨(some 36), none, false, .ia 2 (.t 16) (.t 19), [16, 19]⟩,
 ⟨none, none, false, .st 2 (.t 36) (.t 29), [29, 36]⟩,
 ⟨(some 37), none, false, .ia 2 (.t 20) (.t 23), [20, 23]⟩,
 ⟨none, none, false, .st 2 (.t 37) (.t 35), [35, 37]⟩]))
(.reg [⟨(some 14), none, false, .mov (.t 10), [10, 13]⟩,
 ⟨(some 15), none, false, .bin .add (.t 14) (.k (intV 1)), [14]⟩,
 ⟨(some 10), none, false, .mov (.t 15), [15]⟩])))
def c_slices_swapRangeCmpFunc_Change : AFun := ⟨.seq (.reg [⟨(some 10), none, false, .mov (.k (intV 0)), [4]⟩])
(.block 0 (.loop [0, 1, 2, 3, 10] c_slices_swapRangeCmpFunc_Change_L0)),
 []⟩
def o_slices_swapRangeCmpFunc_Change : List (Nat × List Nat) := [(3, [0, 1, 2, 3, 4, 5, 6, 7, 8, 9, 10, 11, 12, 13, 14, 15, 16, 17, 18, 19, 20, 21, 22, 23])]
theorem c_slices_swapRangeCmpFunc_Change_ok : cFun Tryz.prog o_slices_swapRangeCmpFunc_Change 116 = some c_slices_swapRangeCmpFunc_Change.erase := by kernel_rfl

/- syntax_constant -/
def c_syntax_constant_L0 : ACode := (.seq (.reg [⟨(some 17), none, false, .bin .lss (.t 16) (.t 15), []⟩])
(.seq (.cond (.t 17)
(.skip)
(.exit 0))
(.seq (.block 1 (.seq (.reg [⟨(some 18), none, false, .mov (.t 16), [17]⟩,
 ⟨(some 4), none, false, .mov (.t 18), [18]⟩])
(.seq (.reg [⟨(some 19), none, false, .fa 2 (.t 1), []⟩,
 ⟨(some 20), none, false, .ld false 1 (.t 19), [19]⟩,
 ⟨(some 21), none, false, .mov (.t 4), [4]⟩,
 ⟨(some 22), none, false, .six (.t 20) (.t 21), [20, 21]⟩,
 ⟨(some 5), none, false, .mov (.t 22), [22]⟩])
(.seq (.reg [⟨(some 23), none, false, .mov (.t 5), []⟩,
 ⟨(some 24), none, false, .bin .lss (.t 23) (.k (.w (.c (.d (.lit (.int .u8 32)))))), [23]⟩,
 ⟨(some 25), none, true, .mov (.t 24), [24]⟩,
 ⟨(some 26), (some (25, false)), false, .mov (.t 5), []⟩,
 ⟨(some 27), (some (25, false)), false, .bin .gtr (.t 26) (.k (.w (.c (.d (.lit (.int .u8 126)))))), [26]⟩,
 ⟨(some 28), none, false, .pick (.t 25) (.k (boolV true)) (.t 27), [25, 27, 26, 26]⟩,
 ⟨(some 29), none, true, .mov (.t 28), [28]⟩,
 ⟨(some 30), (some (29, false)), false, .mov (.t 5), [5]⟩,
 ⟨(some 31), (some (29, false)), false, .bin .eql (.t 30) (.k (.w (.c (.d (.lit (.int .u8 34)))))), [30]⟩,
 ⟨(some 32), none, false, .pick (.t 29) (.k (boolV true)) (.t 31), [29, 31, 30, 30, 5]⟩])
(.cond (.t 32)
(.seq (.reg [⟨(some 2), none, false, .mov (.k (intV 10)), [1, 15, 16, 32]⟩])
(.ret))
(.skip))))))
(.reg [⟨(some 33), none, false, .bin .add (.t 16) (.k (intV 1)), [2, 16, 32, 17]⟩,
 ⟨(some 16), none, false, .mov (.t 33), [33]⟩]))))
def c_syntax_constant : AFun := ⟨.seq (.reg [⟨(some 1), none, false, .bx (.t 0), [0]⟩,
 ⟨(some 2), none, false, .mov (.k (intV 0)), [2]⟩])
(.seq (.seq (.reg [⟨(some 6), none, false, .fa 0 (.t 1), []⟩,
 ⟨(some 7), none, false, .ld false 1 (.t 6), [6]⟩,
 ⟨(some 8), none, false, .ld true 3 (.t 1), []⟩,
 ⟨(some 9), none, false, .call 40 [(.t 7), (.t 8)], [7, 8]⟩,
 ⟨(some 3), none, false, .mov (.t 9), [9]⟩])
(.seq (.reg [⟨(some 10), none, false, .mov (.t 3), []⟩,
 ⟨(some 11), none, false, .bin .neq (.t 10) (.k (intV 0)), [10]⟩])
(.cond (.t 11)
(.seq (.reg [⟨(some 12), none, false, .mov (.t 3), [1, 3, 11]⟩,
 ⟨(some 2), none, false, .mov (.t 12), [12]⟩])
(.ret))
(.skip))))
(.seq (.seq (.reg [⟨(some 13), none, false, .fa 2 (.t 1), [2, 3, 11]⟩,
 ⟨(some 14), none, false, .ld false 1 (.t 13), [13]⟩,
 ⟨(some 15), none, false, .slen (.t 14), [14]⟩,
 ⟨(some 16), none, false, .mov (.k (intV 0)), []⟩])
(.block 0 (.loop [1, 15, 16] c_syntax_constant_L0)))
(.seq (.reg [⟨(some 2), none, false, .mov (.k (intV 0)), [1, 15, 16]⟩])
(.ret)))),
 [.tmp 2]⟩
def o_syntax_constant : List (Nat × List Nat) := []
theorem c_syntax_constant_ok : cFun Tryz.prog o_syntax_constant 122 = some c_syntax_constant.erase := by kernel_rfl

/- syntax_arity -/
def c_syntax_arity : AFun := ⟨.seq (.reg [⟨(some 2), none, false, .mov (.k (intV 0)), [2]⟩])
(.seq (.seq (.reg [⟨(some 3), none, false, .mov (.t 0), [0]⟩])
(.block 0 (.seq (.seq (.reg [⟨(some 5), none, false, .bin .eql (.t 3) (.k (.w (.c (.d (.lit (.string ⟨#[109, 105, 110]⟩)))))), []⟩,
 ⟨(some 4), none, false, .mov (.t 5), [5]⟩])
(.cond (.t 4)
(.skip)
(.seq (.reg [⟨(some 6), none, false, .bin .eql (.t 3) (.k (.w (.c (.d (.lit (.string ⟨#[109, 97, 120]⟩)))))), [4]⟩,
 ⟨(some 4), none, false, .mov (.t 6), [6]⟩])
(.cond (.t 4)
(.skip)
(.seq (.reg [⟨(some 7), none, false, .bin .eql (.t 3) (.k (.w (.c (.d (.lit (.string ⟨#[104, 97, 115]⟩)))))), [4]⟩,
 ⟨(some 4), none, false, .mov (.t 7), [7]⟩])
(.cond (.t 4)
(.skip)
(.reg [⟨(some 8), none, false, .bin .eql (.t 3) (.k (.w (.c (.d (.lit (.string ⟨#[115, 116, 97, 114, 116, 115]⟩)))))), [4]⟩,
 ⟨(some 4), none, false, .mov (.t 8), [8]⟩])))))))
(.cond (.t 4)
(.seq (.reg [⟨(some 2), none, false, .mov (.k (intV 2)), [3, 4]⟩])
(.ret))
(.seq (.seq (.reg [⟨(some 10), none, false, .bin .eql (.t 3) (.k (.w (.c (.d (.lit (.string ⟨#[97, 98, 115]⟩)))))), [4]⟩,
 ⟨(some 9), none, false, .mov (.t 10), [10]⟩])
(.cond (.t 9)
(.skip)
(.reg [⟨(some 11), none, false, .bin .eql (.t 3) (.k (.w (.c (.d (.lit (.string ⟨#[108, 101, 110]⟩)))))), [3, 9]⟩,
 ⟨(some 9), none, false, .mov (.t 11), [11]⟩])))
(.cond (.t 9)
(.seq (.reg [⟨(some 2), none, false, .mov (.k (intV 1)), [3, 9]⟩])
(.ret))
(.skip)))))))
(.seq (.reg [⟨(some 2), none, false, .mov (.k (intV 0)), [3, 9]⟩])
(.ret))),
 [.tmp 2]⟩
def o_syntax_arity : List (Nat × List Nat) := []
theorem c_syntax_arity_ok : cFun Tryz.prog o_syntax_arity 123 = some c_syntax_arity.erase := by kernel_rfl

end Go.Proofs.YtcajnlkkjdhjdaaGreat

namespace Go.AM

theorem beqS_iff (x y : ByteArray) : beqS x y = true ↔ x = y := by
  unfold beqS
  rw [ByteArray.toList_eq, ByteArray.toList_eq]
  constructor
  · intro h
    have h := eq_of_beq h
    cases x; cases y
    simpa using h
  · rintro rfl; exact beq_self_eq_true _
theorem beqS_self (x : ByteArray) : beqS x x = true := (beqS_iff x x).2 rfl
theorem beqS_false (x y : ByteArray) : beqS x y = false ↔ x ≠ y := by
  cases h : beqS x y
  · exact ⟨fun _ e => (by rw [(beqS_iff x y).2 e] at h; cases h), fun _ => rfl⟩
  · exact ⟨fun e => (by cases e), fun e => absurd ((beqS_iff x y).1 h) e⟩
theorem beqS_comm (x y : ByteArray) : beqS x y = beqS y x := by
  cases h : beqS y x
  · exact (beqS_false x y).2 fun e => (beqS_false y x).1 h e.symm
  · rw [(beqS_iff y x).1 h]; exact beqS_self _

/-- Lists of bytes in order. -/
theorem bytesLess_cons (x y : UInt8) (xs ys : List UInt8) : Op.bytesLess (x :: xs) (y :: ys) = true ↔ x < y ∨ (x = y ∧ Op.bytesLess xs ys = true) := by
  simp [Op.bytesLess]
theorem bytesLess_irrefl : ∀ (l : List UInt8), Op.bytesLess l l = false
  | [] => rfl
  | x :: r => by
    have := bytesLess_irrefl r
    simp [Op.bytesLess, this]
theorem bytesLess_trans : ∀ (a b c : List UInt8), Op.bytesLess a b = true → Op.bytesLess b c = true → Op.bytesLess a c = true
  | _, _, [], _, h => by simp [Op.bytesLess] at h
  | _, [], _ :: _, h, _ => by simp [Op.bytesLess] at h
  | [], _ :: _, _ :: _, _, _ => rfl
  | x :: xs, y :: ys, z :: zs, h1, h2 => by
    rw [bytesLess_cons] at h1 h2 ⊢
    rcases h1 with h1 | ⟨rfl, h1⟩
    · rcases h2 with h2 | ⟨rfl, h2⟩
      · exact .inl (UInt8.lt_trans h1 h2)
      · exact .inl h1
    · rcases h2 with h2 | ⟨rfl, h2⟩
      · exact .inl h2
      · exact .inr ⟨rfl, bytesLess_trans xs ys zs h1 h2⟩
theorem bytesLess_tri : ∀ (a b : List UInt8), Op.bytesLess a b = false → Op.bytesLess b a = false → a = b
  | [], [], _, _ => rfl
  | [], y :: ys, h, _ => by simp [Op.bytesLess] at h
  | x :: xs, [], _, h => by simp [Op.bytesLess] at h
  | x :: xs, y :: ys, h1, h2 => by
    have g1 : ¬ (x < y ∨ (x = y ∧ Op.bytesLess xs ys = true)) := fun h => by rw [(bytesLess_cons x y xs ys).2 h] at h1; cases h1
    have g2 : ¬ (y < x ∨ (y = x ∧ Op.bytesLess ys xs = true)) := fun h => by rw [(bytesLess_cons y x ys xs).2 h] at h2; cases h2
    have hxy : x = y := by
      rcases UInt8.lt_or_lt_of_ne (a := x) (b := y) |> fun f => Decidable.em (x = y) with h | h
      · exact h
      · rcases UInt8.lt_or_lt_of_ne h with h | h
        · exact absurd (.inl h) g1
        · exact absurd (.inl h) g2
    subst hxy
    rw [bytesLess_tri xs ys ?_ ?_]
    · cases h : Op.bytesLess xs ys
      · rfl
      · exact absurd (.inr ⟨rfl, h⟩) g1
    · cases h : Op.bytesLess ys xs
      · rfl
      · exact absurd (.inr ⟨rfl, h⟩) g2
theorem ltS_irrefl (x : ByteArray) : ltS x x = false := bytesLess_irrefl _
theorem ltS_trans {x y z : ByteArray} (h1 : ltS x y = true) (h2 : ltS y z = true) : ltS x z = true := bytesLess_trans _ _ _ h1 h2
theorem ltS_tri {x y : ByteArray} (h1 : ltS x y = false) (h2 : ltS y x = false) : x = y := by
  have h := bytesLess_tri _ _ h1 h2
  exact (beqS_iff x y).1 (by unfold beqS; rw [h]; exact beq_self_eq_true _)
theorem ltS_asymm {x y : ByteArray} (h : ltS x y = true) : ltS y x = false := by
  cases g : ltS y x
  · rfl
  · have := ltS_trans h g
    rw [ltS_irrefl] at this; cases this
end Go.AM

namespace Go.Proofs
set_option maxHeartbeats 1000000 in
set_option maxRecDepth 100000 in
/-- The index of a byte in a string, or -1. -/
theorem Tryz.stringslite_IndexByte (s : ByteArray) (c : Int) (w : World) :
    Calls Tryz.prog 101 #[.string s, .int .u8 c] w fun e w' => e = .returned (.int .i64 (Lib.indexByte s.data.toList c.toNat.toUInt8)) ∧ w' = w := by
  go_enter Tryz.func101, Tryz.ntmps101
  go_wp2
  rw [run_callFunc_extern Tryz.func115 (by kernel_rfl) (by kernel_rfl) (by kernel_rfl) (e := Extern.BytealgIndexByte.indexByte) (by kernel_rfl), Lib.run_indexByteString]
  simp only [Result.andThen]
  rw [Oper.upon_value]
  go_wp2
  go_ret
  exact ⟨rfl, rfl⟩
end Go.Proofs
namespace Go.Proofs.YtcajnlkkjdhjdaaGreat
open Go Go.AM

def int (n : Int) : C := .d (.lit (.int .i64 n))
def str (b : ByteArray) : C := .d (.lit (.string b))
def bool (n : Bool) : C := .d (.lit (.bool n))
def rI (n : Int) : Res := ⟨.w (.c (int n)), []⟩
def rB (n : Bool) : Res := ⟨.w (.c (bool n)), []⟩

/-- A function without effect that gives one value: its contract. -/
theorem sat_pure {P : Program} {k : Nat} {args : List W} {x : Value} (hk : callable P k = true) (hx : x.oneCell' = true)
    (h : ∀ (w : World) (A : Nat → Prop) (vals : List Value), WRs (fun _ => ⟨none, 0⟩) w A args vals → Calls P k vals.toArray w fun e w' => e = .returned x ∧ w' = w) :
    Sat P k args (fun r => r = ⟨.w (.c (.d (.lit x))), []⟩) := by
  refine ⟨hk, fun w A vals hA hw => (h w A vals hw).mono ?_⟩
  rintro e w' ⟨rfl, rfl⟩
  refine ⟨x, _, rfl, rfl, ⟨Nat.le_refl _, fun _ => ⟨none, 0⟩, ?_, ?_, ?_, ?_, ?_, ?_⟩, Grows.refl _ _⟩
  · simp only [VR, WR, CR, RD]; exact ⟨trivial, hx⟩
  · intro p y hp; cases hp
  · intro p q y z b hp; cases hp
  · intro p y b hp; cases hp
  · intro p y hp; cases hp
  · intro p y hp; cases hp

theorem wrs_lit1 {ι : Nat → Gh} {w : World} {A : Nat → Prop} {vals : List Value} {x : Value} (h : WRs ι w A [.c (.d (.lit x))] vals) : vals = [x] := by
  match vals, h with
  | [v], h => simp only [WRs, WR, CR, RD] at h; rw [h.1.1]
theorem wrs_lit2 {ι : Nat → Gh} {w : World} {A : Nat → Prop} {vals : List Value} {x y : Value} (h : WRs ι w A [.c (.d (.lit x)), .c (.d (.lit y))] vals) : vals = [x, y] := by
  match vals, h with
  | [v, u], h => simp only [WRs, WR, CR, RD] at h; rw [h.1.1, h.2.1.1]

def byteAt (s : ByteArray) (c : Int) : Int := Lib.indexByte s.data.toList c.toNat.toUInt8
theorem sat_sl_IndexByte (s : ByteArray) (c : Int) : Sat Pg k_internal_stringslite_IndexByte [.c (str s), .c (.d (.lit (.int .u8 c)))] (fun r => r = rI (byteAt s c)) := by
  refine sat_pure (by kernel_rfl) rfl fun w A vals h => ?_
  rw [wrs_lit2 h]
  exact Tryz.stringslite_IndexByte s c w

attribute [local irreducible] Sat
set_option maxRecDepth 100000
def T0 : Tab Pg := ⟨fun _ _ => none, fun _ _ _ h => by cases h⟩

theorem sat_IndexByte (s : ByteArray) (c : Int) : Sat Pg k_strings_IndexByte [.c (str s), .c (.d (.lit (.int .u8 c)))] (fun r => r = rI (byteAt s c)) := by
  refine Sat_of T0 c_strings_IndexByte_ok (by kernel_rfl) ?_
  refine Sat.mono (sat_sl_IndexByte s c) ?_
  rintro _ rfl
  rfl

structure Val where
  k : Int
  n : Int
  s : ByteArray
def Val.ds (v : Val) : List D := [.lit (.int .i64 v.k), .lit (.int .i64 v.n), .lit (.string v.s)]
def Val.w (v : Val) : W := .agg [int v.k, int v.n, str v.s]

def inB (n : Int) : Bool := decide (n ≥ -1000000000000000) && decide (n ≤ 1000000000000000)
theorem sat_num_In (n : Int) : Sat Pg k_num_In [.c (int n)] (fun r => r = rB (inB n)) := by
  refine Sat_of T0 c_num_In_ok (by kernel_rfl) ?_
  conv => whnf
  rfl

theorem ne_self' (n : Int) : (n != n) = false := by simp
theorem beqS_self (b : ByteArray) : beqS b b = true := by unfold beqS; simp
theorem sat_isNaN_int (n : Int) : Sat Pg k_cmp_isNaN_int [.c (int n)] (fun r => r = rB false) := by
  refine Sat_of T0 c_cmp_isNaN_int_ok (by kernel_rfl) ?_
  conv => whnf
  exact congrArg rB (ne_self' n)
theorem sat_isNaN_ValueKind (n : Int) : Sat Pg k_cmp_isNaN_ValueKind [.c (int n)] (fun r => r = rB false) := by
  refine Sat_of T0 c_cmp_isNaN_ValueKind_ok (by kernel_rfl) ?_
  conv => whnf
  exact congrArg rB (ne_self' n)
theorem sat_isNaN_string (b : ByteArray) : Sat Pg k_cmp_isNaN_string [.c (str b)] (fun r => r = rB false) := by
  refine Sat_of T0 c_cmp_isNaN_string_ok (by kernel_rfl) ?_
  conv => whnf
  exact congrArg rB (show (!beqS b b) = false by rw [beqS_self]; rfl)

def T1f (k : FuncId) (l : List W) : Option W :=
  match l with
  | [.c (.d (.lit (.int .i64 n)))] => bif Nat.beq k k_num_In then some (.c (bool (inB n))) else bif Nat.beq k k_cmp_isNaN_int || Nat.beq k k_cmp_isNaN_ValueKind then some (.c (bool false)) else none
  | [.c (.d (.lit (.string _)))] => bif Nat.beq k k_cmp_isNaN_string then some (.c (bool false)) else none
  | [.c (.d (.lit (.string s))), .c (.d (.lit (.int .u8 c)))] => bif Nat.beq k k_strings_IndexByte then some (.c (int (byteAt s c))) else none
  | _ => none
theorem bif_some {c : Bool} {w z : W} {y : Option W} (h : (bif c then some w else y) = some z) : (c = true ∧ z = w) ∨ (c = false ∧ y = some z) := by
  cases c
  · exact .inr ⟨rfl, h⟩
  · cases h; exact .inl ⟨rfl, rfl⟩
theorem T1ok (k : FuncId) (l : List W) (w : W) (h : T1f k l = some w) : Sat Pg k l (fun r => r = ⟨.w w, []⟩) := by
  unfold T1f at h
  split at h
  · rcases bif_some h with ⟨h1, rfl⟩ | ⟨_, h⟩
    · rw [Nat.eq_of_beq_eq_true h1]; exact sat_num_In _
    · rcases bif_some h with ⟨h1, rfl⟩ | ⟨_, h⟩
      · rw [Bool.or_eq_true] at h1
        rcases h1 with h1 | h1
        · rw [Nat.eq_of_beq_eq_true h1]; exact sat_isNaN_int _
        · rw [Nat.eq_of_beq_eq_true h1]; exact sat_isNaN_ValueKind _
      · cases h
  · rcases bif_some h with ⟨h1, rfl⟩ | ⟨_, h⟩
    · rw [Nat.eq_of_beq_eq_true h1]; exact sat_isNaN_string _
    · cases h
  · rcases bif_some h with ⟨h1, rfl⟩ | ⟨_, h⟩
    · rw [Nat.eq_of_beq_eq_true h1]; exact sat_IndexByte _ _
    · cases h
  · cases h
def T1 : Tab Pg := ⟨T1f, T1ok⟩

def cmpI (a b : Int) : Int := bif decide (a < b) then -1 else bif decide (a > b) then 1 else 0
def cmpS (a b : ByteArray) : Int := bif ltS a b then -1 else bif beqS a b then 0 else 1

theorem sat_Compare_int (a b : Int) : Sat Pg k_cmp_Compare_int [.c (int a), .c (int b)] (fun r => r = rI (cmpI a b)) := by
  unfold cmpI
  refine Sat_of T1 c_cmp_Compare_int_ok (by kernel_rfl) ?_
  repeat' (conv => whnf
           refine cond_i (fun h => ?_) (fun h => ?_))
  all_goals refine congrArg rI ?_
  all_goals simp only [*, cond_true, cond_false]
theorem sat_Compare_ValueKind (a b : Int) : Sat Pg k_cmp_Compare_ValueKind [.c (int a), .c (int b)] (fun r => r = rI (cmpI a b)) := by
  unfold cmpI
  refine Sat_of T1 c_cmp_Compare_ValueKind_ok (by kernel_rfl) ?_
  repeat' (conv => whnf
           refine cond_i (fun h => ?_) (fun h => ?_))
  all_goals refine congrArg rI ?_
  all_goals simp only [*, cond_true, cond_false]
theorem sat_Compare_string (a b : ByteArray) : Sat Pg k_cmp_Compare_string [.c (str a), .c (str b)] (fun r => r = rI (cmpS a b)) := by
  unfold cmpS
  refine Sat_of T1 c_cmp_Compare_string_ok (by kernel_rfl) ?_
  repeat' (conv => whnf
           refine cond_i (fun h => ?_) (fun h => ?_))
  all_goals refine congrArg rI ?_
  · rw [h]; rfl
  · cases h1 : ltS a b <;> cases h2 : beqS a b <;> simp_all
  · cases h1 : ltS a b <;> cases h2 : beqS a b <;> simp_all

def signs : ByteArray := ⟨#[95, 46, 58, 47, 60, 62, 36, 42, 126, 45]⟩
def letterB (c : Int) : Bool := (decide (c ≥ 97) && decide (c ≤ 122)) || (decide (c ≥ 65) && decide (c ≤ 90)) || (decide (c ≥ 48) && decide (c ≤ 57)) || decide (byteAt signs c ≥ 0)
theorem sat_letter (c : Int) : Sat Pg k_intern_letter [.c (.d (.lit (.int .u8 c)))] (fun r => r = rB (letterB c)) := by
  refine Sat_of T1 c_intern_letter_ok (by kernel_rfl) ?_
  conv => whnf
  rfl

def valErr (k : Int) (v : Val) : Int :=
  bif v.k != 0 && (v.k != k || !(k == 1 || k == 2 || k == 3)) then 14 else
  bif (v.k == 1 && v.n != 0 && v.n != 1) then 2 else bif (v.k == 2 && !inB v.n) then 2 else
  bif v.k == 3 && decide ((v.s.size : Int) > 200) then 7 else
  bif v.k != 3 && !beqS v.s ⟨#[]⟩ then 1 else bif (v.k == 0 || v.k == 3) && v.n != 0 then 1 else 0

theorem sat_column_Value (k : Int) (v : Val) : Sat Pg k_column_Value [.c (int k), v.w] (fun r => r = rI (valErr k v)) := by
  obtain ⟨a, n, s⟩ := v
  unfold valErr
  refine Sat_of T1 c_column_Value_ok (by kernel_rfl) ?_
  repeat' (conv => whnf
           refine cond_i (fun h => ?_) (fun h => ?_))
  all_goals refine congrArg rI ?_
  all_goals first | (simp only [*, cond_true, cond_false]; done) | simp_all only [Bool.false_eq_true]

end Go.Proofs.YtcajnlkkjdhjdaaGreat

namespace Go.Proofs.YtcajnlkkjdhjdaaGreat
open Go Go.AM
attribute [local irreducible] Sat LoopP
set_option maxRecDepth 100000

def T2f (k : FuncId) (l : List W) : Option W :=
  match l with
  | [.c (.d (.lit (.int .u8 c)))] => bif Nat.beq k k_intern_letter then some (.c (bool (letterB c))) else none
  | [.c (.d (.lit (.int .i64 m))), .c (.d (.lit (.int .i64 n)))] => bif Nat.beq k k_cmp_Compare_int || Nat.beq k k_cmp_Compare_ValueKind then some (.c (int (cmpI m n))) else none
  | [.c (.d (.lit (.string m))), .c (.d (.lit (.string n)))] => bif Nat.beq k k_cmp_Compare_string then some (.c (int (cmpS m n))) else none
  | [.c (.d (.lit (.int .i64 t))), .agg [.d (.lit (.int .i64 k1)), .d (.lit (.int .i64 n)), .d (.lit (.string s))]] => bif Nat.beq k k_column_Value then some (.c (int (valErr t ⟨k1, n, s⟩))) else none
  | _ => T1f k l
theorem T2ok (k : FuncId) (l : List W) (w : W) (h : T2f k l = some w) : Sat Pg k l (fun r => r = ⟨.w w, []⟩) := by
  unfold T2f at h
  split at h
  · rcases bif_some h with ⟨h1, rfl⟩ | ⟨_, h⟩
    · rw [Nat.eq_of_beq_eq_true h1]; exact sat_letter _
    · cases h
  · rcases bif_some h with ⟨h1, rfl⟩ | ⟨_, h⟩
    · rw [Bool.or_eq_true] at h1
      rcases h1 with h1 | h1
      · rw [Nat.eq_of_beq_eq_true h1]; exact sat_Compare_int _ _
      · rw [Nat.eq_of_beq_eq_true h1]; exact sat_Compare_ValueKind _ _
    · cases h
  · rcases bif_some h with ⟨h1, rfl⟩ | ⟨_, h⟩
    · rw [Nat.eq_of_beq_eq_true h1]; exact sat_Compare_string _ _
    · cases h
  · rcases bif_some h with ⟨h1, rfl⟩ | ⟨_, h⟩
    · rw [Nat.eq_of_beq_eq_true h1]; exact sat_column_Value _ ⟨_, _, _⟩
    · cases h
  · exact T1ok k l w h
def T2 : Tab Pg := ⟨T2f, T2ok⟩

def ordV (a b : Val) : Int := bif a.k != b.k then cmpI a.k b.k else bif a.k == 3 then cmpS a.s b.s else bif a.k == 1 || a.k == 2 then cmpI a.n b.n else 0
theorem sat_table_Order (a b : Val) : Sat Pg k_table_Order [a.w, b.w] (fun r => r = rI (ordV a b)) := by
  obtain ⟨a1, a2, a3⟩ := a
  obtain ⟨b1, b2, b3⟩ := b
  unfold ordV
  refine Sat_of T2 c_table_Order_ok (by kernel_rfl) ?_
  repeat' (conv => whnf
           refine cond_i (fun h => ?_) (fun h => ?_))
  all_goals refine congrArg rI ?_
  all_goals first | (simp only [*, cond_true, cond_false]; done) | simp_all only [Bool.false_eq_true]

/-- The bytes of a string from i on. -/
def namL : List UInt8 → Int
  | [] => 0
  | c :: r => bif !letterB c.toNat then 3 else namL r
def namErr (s : ByteArray) : Int := bif beqS s ⟨#[]⟩ || decide ((s.size : Int) > 40) then 3 else namL s.data.toList

theorem drop_cons {α : Type} {l : List α} {i : Nat} (h : i < l.length) : l.drop i = l[i] :: l.drop (i + 1) := List.drop_eq_getElem_cons h
theorem size_list (s : ByteArray) : s.data.toList.length = s.size := by simp
theorem size_le (s : ByteArray) (h : (s.size : Int) ≤ 40) : s.size ≤ 9223372036854775807 := by omega

theorem sat_intern_Name (s : ByteArray) : Sat Pg k_intern_Name [.c (str s)] (fun r => r = rI (namErr s)) := by
  unfold namErr
  refine Sat_of T2 c_intern_Name_ok (by kernel_rfl) ?_
  conv => whnf
  refine cond_i (fun h => ?_) (fun h => ?_)
  · rw [h]; rfl
  · rw [h]
    simp only [Bool.or_eq_false_iff, decide_eq_false_iff_not] at h
    conv => whnf
    refine loopI (P := Pg) (f := T2.f) (body := c_intern_Name_L0) s.size (fun i => ⟨[(0, .w (.c (str s))), (12, intV s.size), (13, intV i)], []⟩) (fun i => namL s.data.toList = namL (s.data.toList.drop i)) ⟨rfl, normW_of ?_⟩ ?_
    · conv => whnf
      rfl
    · intro i hi hR
      conv => whnf
      refine cond_i (fun h1 => ?_) (fun h1 => ?_)
      · have hlt : i < s.size := by have := of_decide_eq_true h1; omega
        have hlt' : i < s.data.toList.length := by rw [size_list]; exact hlt
        rw [drop_cons hlt'] at hR
        conv => whnf
        refine ⟨⟨by omega, by omega⟩, ?_⟩
        have hb : s.data.toList.getD ((i : Int)).toNat 0 = s.data.toList[i] := by simp [List.getD, List.getElem?_eq_getElem hlt']
        rw [hb]
        generalize s.data.toList[i] = b at hR
        conv => whnf
        refine cond_i (fun h2 => ?_) (fun h2 => ?_)
        · conv => whnf
          simp only [namL, h2, cond_true] at hR
          exact congrArg rI hR.symm
        · conv => whnf
          simp only [namL, h2, cond_false] at hR
          refine ⟨hlt, hR, normW_of ?_⟩
          conv => whnf
          rw [wrapS hlt (by omega)]
          rfl
      · have hge : s.size ≤ i := by have := of_decide_eq_false h1; omega
        rw [List.drop_eq_nil_of_le (by rw [size_list]; exact hge)] at hR
        conv => whnf
        exact congrArg rI hR.symm
end Go.Proofs.YtcajnlkkjdhjdaaGreat

namespace Go.Proofs.YtcajnlkkjdhjdaaGreat
open Go Go.AM
attribute [local irreducible] Sat LoopP
set_option maxRecDepth 100000

def rowD (r : List Val) : List (List D) := r.map Val.ds
def rowC (r : List Val) : W := .c (.d (.sl (rowD r)))
theorem rowD_len (r : List Val) : (rowD r).length = r.length := by simp [rowD]
theorem rowD_get {r : List Val} {i : Nat} (h : i < r.length) : (rowD r)[((i : Int)).toNat]? = some (r[i]).ds := by simp [rowD, List.getElem?_eq_getElem h]

/-- Lists compared by the first elements that differ. -/
def cmpL {α : Type} (c : α → α → Int) : List α → List α → Int
  | [], [] => 0
  | [], _ :: _ => -1
  | _ :: _, [] => 1
  | x :: xs, y :: ys => bif c x y != 0 then c x y else cmpL c xs ys

theorem cmpL_end {α : Type} (c : α → α → Int) {a b : List α} {i : Nat} (h : a.length ≤ i) : cmpL c (a.drop i) (b.drop i) = bif decide (((b.length : Int)) > i) then -1 else 0 := by
  rw [List.drop_eq_nil_of_le h]
  by_cases hb : i < b.length
  · rw [drop_cons hb]
    have : decide (((b.length : Int)) > i) = true := decide_eq_true (by omega)
    rw [this]; rfl
  · rw [List.drop_eq_nil_of_le (by omega)]
    have : decide (((b.length : Int)) > i) = false := decide_eq_false (by omega)
    rw [this]; rfl

theorem sat_CompareFunc (g : FuncId) (c : Val → Val → Int) (hc : ∀ x y, Sat Pg g [x.w, y.w] (fun r => r = rI (c x y))) (a b : List Val) :
    Sat Pg k_slices_CompareFunc_Value [rowC a, rowC b, .c (.d (.fn g []))] (fun r => r = rI (cmpL c a b)) := by
  refine sat_len 0 (by kernel_rfl) rfl fun hlen => ?_
  rw [rowD_len] at hlen
  refine Sat_of T2 c_slices_CompareFunc_Value_ok (by kernel_rfl) ?_
  conv => whnf
  refine loopI (P := Pg) (f := T2.f) (body := c_slices_CompareFunc_Value_L0) a.length (fun i => ⟨[(0, .w (rowC a)), (1, .w (rowC b)), (2, .w (.c (.d (.fn g [])))), (11, .w (rowC a)), (12, intV (rowD a).length), (13, intV i)], []⟩)
    (fun i => i ≤ b.length ∧ cmpL c a b = cmpL c (a.drop i) (b.drop i)) ⟨⟨Nat.zero_le _, rfl⟩, normW_of ?_⟩ ?_
  · conv => whnf
    rfl
  · intro i hi hR
    obtain ⟨hib, hR⟩ := hR
    conv => whnf
    refine cond_i (fun h1 => ?_) (fun h1 => ?_)
    · have hlt : i < a.length := by have := of_decide_eq_true h1; rw [rowD_len] at this; omega
      conv => whnf
      refine ⟨by omega, _, rowD_get hlt, rfl, ?_⟩
      conv => whnf
      refine cond_i (fun h2 => ?_) (fun h2 => ?_)
      · have hge : b.length ≤ i := by have := of_decide_eq_true h2; rw [rowD_len] at this; omega
        rw [drop_cons hlt, List.drop_eq_nil_of_le hge] at hR
        conv => whnf
        exact congrArg rI hR.symm
      · have hlb : i < b.length := by have := of_decide_eq_false h2; rw [rowD_len] at this; omega
        conv => whnf
        refine ⟨by omega, _, rowD_get hlb, rfl, ?_⟩
        conv => whnf
        refine Sat.mono (hc a[i] b[i]) ?_
        rintro _ rfl
        rw [drop_cons hlt, drop_cons hlb] at hR
        conv => whnf
        refine cond_i (fun h3 => ?_) (fun h3 => ?_)
        · simp only [cmpL, h3, cond_true] at hR
          conv => whnf
          exact congrArg rI hR.symm
        · simp only [cmpL, h3, cond_false] at hR
          conv => whnf
          refine ⟨hlt, ⟨hlb, hR⟩, normW_of ?_⟩
          conv => whnf
          rw [wrapS hlt hlen]
          rfl
    · have hge : a.length ≤ i := by have := of_decide_eq_false h1; rw [rowD_len] at this; omega
      have hia : i = a.length := by omega
      rw [cmpL_end c hge] at hR
      subst hia
      conv => whnf
      refine cond_i (fun h2 => ?_) (fun h2 => ?_)
      · have : decide (((b.length : Int)) > a.length) = true := decide_eq_true (by have := of_decide_eq_true h2; rw [rowD_len, rowD_len] at this; omega)
        rw [this] at hR
        conv => whnf
        exact congrArg rI hR.symm
      · have : decide (((b.length : Int)) > a.length) = false := decide_eq_false (by have := of_decide_eq_false h2; rw [rowD_len, rowD_len] at this; omega)
        rw [this] at hR
        conv => whnf
        exact congrArg rI hR.symm

def ordR (a b : List Val) : Int := cmpL ordV a b
theorem sat_delta_order (a b : List Val) : Sat Pg k_delta_order [rowC a, rowC b] (fun r => r = rI (ordR a b)) := by
  refine Sat_of T2 c_delta_order_ok (by kernel_rfl) ?_
  conv => whnf
  refine Sat.mono (sat_CompareFunc k_table_Order ordV sat_table_Order a b) ?_
  rintro _ rfl
  rfl

structure Col where
  name : ByteArray
  t : Int
def Col.ds (c : Col) : List D := [.lit (.string c.name), .lit (.int .i64 c.t)]
def Col.w (c : Col) : W := .agg [str c.name, int c.t]
def colD (r : List Col) : List (List D) := r.map Col.ds
theorem colD_len (r : List Col) : (colD r).length = r.length := by simp [colD]
theorem colD_get {r : List Col} {i : Nat} (h : i < r.length) : (colD r)[((i : Int)).toNat]? = some (r[i]).ds := by simp [colD, List.getElem?_eq_getElem h]

/-- The first place at which p holds, counted from i on. -/
def findI {α : Type} (p : α → Bool) : Int → List α → Int
  | _, [] => -1
  | i, x :: r => bif p x then i else findI p (i + 1) r

theorem sat_IndexFunc_Column (g : FuncId) (cap : List D) (p : Col → Bool) (hp : ∀ x : Col, Sat Pg g [x.w, .c (.fp cap)] (fun r => r = rB (p x))) (l : List Col) :
    Sat Pg k_slices_IndexFunc_Column [.c (.d (.sl (colD l))), .c (.d (.fn g [cap]))] (fun r => r = rI (findI p 0 l)) := by
  refine sat_len 0 (by kernel_rfl) rfl fun hlen => ?_
  rw [colD_len] at hlen
  refine Sat_of T2 c_slices_IndexFunc_Column_ok (by kernel_rfl) ?_
  conv => whnf
  refine loopI (P := Pg) (f := T2.f) (body := c_slices_IndexFunc_Column_L0) l.length (fun i => ⟨[(0, .w (.c (.d (.sl (colD l))))), (1, .w (.c (.d (.fn g [cap])))), (7, intV (colD l).length), (8, intV i)], []⟩)
    (fun i => findI p 0 l = findI p i (l.drop i)) ⟨rfl, normW_of ?_⟩ ?_
  · conv => whnf
    rfl
  · intro i hi hR
    conv => whnf
    refine cond_i (fun h1 => ?_) (fun h1 => ?_)
    · have hlt : i < l.length := by have := of_decide_eq_true h1; rw [colD_len] at this; omega
      conv => whnf
      refine ⟨by omega, _, colD_get hlt, rfl, ?_⟩
      conv => whnf
      refine Sat.mono (hp l[i]) ?_
      rintro _ rfl
      rw [drop_cons hlt] at hR
      conv => whnf
      refine cond_i (fun h3 => ?_) (fun h3 => ?_)
      · simp only [findI, h3, cond_true] at hR
        conv => whnf
        exact congrArg rI hR.symm
      · simp only [findI, h3, cond_false] at hR
        conv => whnf
        refine ⟨hlt, hR, normW_of ?_⟩
        conv => whnf
        rw [wrapS hlt hlen]
        rfl
    · have hge : l.length ≤ i := by have := of_decide_eq_false h1; rw [colD_len] at this; omega
      rw [List.drop_eq_nil_of_le hge] at hR
      conv => whnf
      exact congrArg rI hR.symm

theorem sat_table_Col_1 (x : Col) (name : ByteArray) : Sat Pg k_table_Col_1 [x.w, .c (.fp [.lit (.string name)])] (fun r => r = rB (beqS x.name name)) := by
  obtain ⟨a, b⟩ := x
  refine Sat_of T2 c_table_Col_1_ok (by kernel_rfl) ?_
  conv => whnf
  rfl
def colAt (l : List Col) (name : ByteArray) : Int := findI (fun x => beqS x.name name) 0 l
theorem sat_table_Col (l : List Col) (rows : C) (name : ByteArray) (hr : ∃ d, rows = .d d) : Sat Pg k_table_Col [.agg [.d (.sl (colD l)), rows], .c (str name)] (fun r => r = rI (colAt l name)) := by
  obtain ⟨d, rfl⟩ := hr
  refine Sat_of T2 c_table_Col_ok (by kernel_rfl) ?_
  conv => whnf
  refine Sat.mono (sat_IndexFunc_Column k_table_Col_1 [.lit (.string name)] (fun x => beqS x.name name) (fun x => sat_table_Col_1 x name) l) ?_
  rintro _ rfl
  rfl
end Go.Proofs.YtcajnlkkjdhjdaaGreat

namespace Go.Proofs.YtcajnlkkjdhjdaaGreat
open Go Go.AM
attribute [local irreducible] Sat LoopP
set_option maxRecDepth 100000

def T3f (k : FuncId) (l : List W) : Option W :=
  match l with
  | [.c (.d (.lit (.string s)))] => bif Nat.beq k k_intern_Name then some (.c (int (namErr s))) else T2f k l
  | [.agg [.d (.lit (.int .i64 k1)), .d (.lit (.int .i64 n1)), .d (.lit (.string s1))], .agg [.d (.lit (.int .i64 k2)), .d (.lit (.int .i64 n2)), .d (.lit (.string s2))]] =>
    bif Nat.beq k k_table_Order then some (.c (int (ordV ⟨k1, n1, s1⟩ ⟨k2, n2, s2⟩))) else none
  | _ => T2f k l
theorem T3ok (k : FuncId) (l : List W) (w : W) (h : T3f k l = some w) : Sat Pg k l (fun r => r = ⟨.w w, []⟩) := by
  unfold T3f at h
  split at h
  · rcases bif_some h with ⟨h1, rfl⟩ | ⟨_, h⟩
    · rw [Nat.eq_of_beq_eq_true h1]; exact sat_intern_Name _
    · exact T2ok k _ w h
  · rcases bif_some h with ⟨h1, rfl⟩ | ⟨_, h⟩
    · rw [Nat.eq_of_beq_eq_true h1]; exact sat_table_Order ⟨_, _, _⟩ ⟨_, _, _⟩
    · cases h
  · exact T2ok k l w h
def T3 : Tab Pg := ⟨T3f, T3ok⟩

def valuesL : List Col → List Val → Int
  | c :: cs, v :: vs => bif valErr c.t v != 0 then valErr c.t v else valuesL cs vs
  | _, _ => 0
def valuesErr (cols : List Col) (row : List Val) : Int := bif ((row.length : Int)) != cols.length then 10 else valuesL cols row

theorem valuesL_nil (cols : List Col) : valuesL cols [] = 0 := by cases cols <;> rfl

theorem sat_delta_values (cols : List Col) (row : List Val) : Sat Pg k_delta_values [.c (.d (.sl (colD cols))), rowC row] (fun r => r = rI (valuesErr cols row)) := by
  refine sat_len 1 (by kernel_rfl) rfl fun hlen => ?_
  rw [rowD_len] at hlen
  unfold valuesErr
  refine Sat_of T3 c_delta_values_ok (by kernel_rfl) ?_
  conv => whnf
  rw [rowD_len, colD_len]
  refine cond_i (fun h => ?_) (fun h => ?_)
  · rw [h]; rfl
  · rw [h]
    have hl : row.length = cols.length := by simp only [bne_eq_false_iff_eq] at h; omega
    conv => whnf
    refine loopI (P := Pg) (f := T3.f) (body := c_delta_values_L0) row.length (fun i => ⟨[(0, .w (.c (.d (.sl (colD cols))))), (13, .w (rowC row)), (14, intV (rowD row).length), (15, intV i)], []⟩)
      (fun i => valuesL cols row = valuesL (cols.drop i) (row.drop i)) ⟨rfl, normW_of ?_⟩ ?_
    · conv => whnf
      rfl
    · intro i hi hR
      conv => whnf
      refine cond_i (fun h1 => ?_) (fun h1 => ?_)
      · have hlt : i < row.length := by have := of_decide_eq_true h1; rw [rowD_len] at this; omega
        have hlc : i < cols.length := by omega
        rw [drop_cons hlt, drop_cons hlc] at hR
        conv => whnf
        refine ⟨by omega, _, rowD_get hlt, rfl, ?_⟩
        conv => whnf
        refine ⟨by omega, _, colD_get hlc, rfl, ?_⟩
        conv => whnf
        refine cond_i (fun h3 => ?_) (fun h3 => ?_)
        · have h3 : (valErr cols[i].t row[i] != 0) = true := h3
          simp only [valuesL, h3, cond_true] at hR
          conv => whnf
          exact congrArg rI hR.symm
        · have h3 : (valErr cols[i].t row[i] != 0) = false := h3
          simp only [valuesL, h3, cond_false] at hR
          conv => whnf
          refine ⟨hlt, hR, normW_of ?_⟩
          conv => whnf
          rw [wrapS hlt hlen]
          rfl
      · have hge : row.length ≤ i := by have := of_decide_eq_false h1; rw [rowD_len] at this; omega
        rw [List.drop_eq_nil_of_le hge, valuesL_nil] at hR
        conv => whnf
        exact congrArg rI hR.symm

structure Tbl where
  cols : List Col
  rows : List (List Val)
def rowsD (l : List (List Val)) : List (List D) := l.map fun r => [D.sl (rowD r)]
def Tbl.w (t : Tbl) : W := .agg [.d (.sl (colD t.cols)), .d (.sl (rowsD t.rows))]
def Tbl.ds (t : Tbl) : List D := [.sl (colD t.cols), .sl (rowsD t.rows)]
theorem rowsD_len (r : List (List Val)) : (rowsD r).length = r.length := by simp [rowsD]
theorem rowsD_get {r : List (List Val)} {i : Nat} (h : i < r.length) : (rowsD r)[((i : Int)).toNat]? = some [D.sl (rowD r[i])] := by simp [rowsD, List.getElem?_eq_getElem h]

def colsL (all : List Col) : Nat → List Col → Int
  | _, [] => 0
  | i, c :: r => bif namErr c.name != 0 then namErr c.name else bif decide (colAt (all.take i) c.name ≥ 0) then 4 else bif c.t != 1 && c.t != 2 && c.t != 3 then 14 else colsL all (i + 1) r
def rowsL (cols : List Col) : List (List Val) → Int
  | [] => 0
  | r :: rs => bif ((r.length : Int)) != cols.length then 10 else bif valuesL cols r != 0 then valuesL cols r else rowsL cols rs
def tblErr (t : Tbl) : Int :=
  bif decide ((t.cols.length : Int) > 32) || decide ((t.rows.length : Int) > 20000) then 7 else bif colsL t.cols 0 t.cols != 0 then colsL t.cols 0 t.cols else rowsL t.cols t.rows

theorem colD_take (l : List Col) (i : Nat) : (colD l).take i = colD (l.take i) := by simp [colD, List.map_take]
theorem colD_sz (l : List Col) : ∀ y ∈ colD l, y.length = 2 := by
  intro y hy
  simp only [colD, List.mem_map] at hy
  obtain ⟨x, _, rfl⟩ := hy
  rfl

set_option maxHeartbeats 1000000 in
theorem sat_table_Check (t : Tbl) : Sat Pg k_table_Check [t.w] (fun r => r = rI (tblErr t)) := by
  obtain ⟨cols, rows⟩ := t
  unfold tblErr
  refine sat_bnd (by kernel_rfl) fun hb => ?_
  have hb := hb _ (List.mem_singleton.2 rfl)
  refine Sat_of T3 c_table_Check_ok (by kernel_rfl) ?_
  conv => whnf
  rw [rowsD_len, colD_len]
  refine cond_i (fun h => ?_) (fun h => ?_)
  · rw [h]; rfl
  · rw [h]
    simp only [Bool.or_eq_false_iff, decide_eq_false_iff_not] at h
    simp only [cond_false]
    conv => whnf
    refine loopI (P := Pg) (f := T3.f) (body := c_table_Check_L0) cols.length (fun i => ⟨[(1, cV (.ptr 1 0)), (22, .w (.c (.d (.sl (colD cols))))), (23, intV (colD cols).length), (24, intV i)], [(1, .box [.d (.sl (colD cols)), .d (.sl (rowsD rows))])]⟩)
      (fun i => colsL cols 0 cols = colsL cols i (cols.drop i)) ⟨rfl, normW_of ?_⟩ ?_
    · conv => whnf
      rfl
    · intro i hi hR
      conv => whnf
      refine cond_i (fun h1 => ?_) (fun h1 => ?_)
      · have hlt : i < cols.length := by have := of_decide_eq_true h1; rw [colD_len] at this; omega
        rw [drop_cons hlt] at hR
        conv => whnf
        refine ⟨by omega, _, colD_get hlt, rfl, ?_⟩
        conv => whnf
        refine cond_i (fun h3 => ?_) (fun h3 => ?_)
        · have h3 : (namErr cols[i].name != 0) = true := h3
          simp only [colsL, h3, cond_true] at hR
          conv => whnf
          rw [hR, h3]
          rfl
        · have h3 : (namErr cols[i].name != 0) = false := h3
          simp only [colsL, h3, cond_false] at hR
          conv => whnf
          refine ⟨by simp only [orI]; omega, by simp only [orI]; rw [colD_len]; omega, ?_⟩
          have ht : (colD cols).take (orI (some ((i : Int))) ((colD cols).length : Int)).toNat = colD (cols.take i) := by simp only [orI, Int.toNat_natCast]; exact colD_take cols i
          rw [ht]
          conv => whnf
          refine Sat.mono (sat_table_Col (cols.take i) (.d (.sl [])) cols[i].name ⟨_, rfl⟩) ?_
          rintro _ rfl
          conv => whnf
          refine cond_i (fun h4 => ?_) (fun h4 => ?_)
          · have h4 : decide (colAt (cols.take i) cols[i].name ≥ 0) = true := h4
            simp only [h4, cond_true] at hR
            conv => whnf
            rw [hR]
            rfl
          · have h4 : decide (colAt (cols.take i) cols[i].name ≥ 0) = false := h4
            simp only [h4, cond_false] at hR
            conv => whnf
            refine cond_i (fun h5 => ?_) (fun h5 => ?_)
            · have h5 : (cols[i].t != 1 && cols[i].t != 2 && cols[i].t != 3) = true := h5
              simp only [h5, cond_true] at hR
              conv => whnf
              rw [hR]
              rfl
            · have h5 : (cols[i].t != 1 && cols[i].t != 2 && cols[i].t != 3) = false := h5
              simp only [h5, cond_false] at hR
              conv => whnf
              refine ⟨hlt, hR, normW_of ?_⟩
              conv => whnf
              rw [wrapS hlt (by omega)]
              rfl
      · have hge : cols.length ≤ i := by have := of_decide_eq_false h1; rw [colD_len] at this; omega
        rw [List.drop_eq_nil_of_le hge] at hR
        have hc0 : (colsL cols 0 cols != 0) = false := by rw [hR]; rfl
        rw [hc0]
        simp only [cond_false]
        conv => whnf
        refine loopI (P := Pg) (f := T3.f) (body := c_table_Check_L2) rows.length (fun i => ⟨[(1, cV (.ptr 1 0)), (59, .w (.c (.d (.sl (rowsD rows))))), (60, intV (rowsD rows).length), (61, intV i)], [(1, .box [.d (.sl (colD cols)), .d (.sl (rowsD rows))])]⟩)
          (fun i => rowsL cols rows = rowsL cols (rows.drop i)) ⟨rfl, normW_of ?_⟩ ?_
        · conv => whnf
          rfl
        · clear hR hge h1 hi i
          intro i hi hR
          conv => whnf
          refine cond_i (fun h1 => ?_) (fun h1 => ?_)
          · have hlt : i < rows.length := by have := of_decide_eq_true h1; rw [rowsD_len] at this; omega
            rw [drop_cons hlt] at hR
            have hrl : (rows[i]).length ≤ 9223372036854775807 := by
              have := hb (.d (.sl (rowsD rows))) (by simp [Tbl.w])
              simp only [bndC, bnd] at this
              have := bnds_iff.1 this.2 [D.sl (rowD rows[i])] (by simp only [rowsD, List.mem_map]; exact ⟨rows[i], List.getElem_mem _, rfl⟩)
              simp only [bndc, bnd] at this
              have := this.1.1
              rwa [rowD_len] at this
            conv => whnf
            refine ⟨by omega, _, rowsD_get hlt, rfl, ?_⟩
            generalize rows[i] = row at hR hrl
            conv => whnf
            rw [rowD_len, colD_len]
            refine cond_i (fun h3 => ?_) (fun h3 => ?_)
            · simp only [rowsL, h3, cond_true] at hR
              conv => whnf
              exact congrArg rI hR.symm
            · simp only [rowsL, h3, cond_false] at hR
              have hl : row.length = cols.length := by simp only [bne_eq_false_iff_eq] at h3; omega
              conv => whnf
              refine loopI (P := Pg) (f := T3.f) (body := c_table_Check_L1) row.length (fun j => ⟨[(1, cV (.ptr 1 0)), (59, .w (.c (.d (.sl (rowsD rows))))), (60, intV (rowsD rows).length), (61, intV i), (71, .w (rowC row)), (72, intV (rowD row).length), (73, intV j)], [(1, .box [.d (.sl (colD cols)), .d (.sl (rowsD rows))])]⟩)
                (fun j => valuesL cols row = valuesL (cols.drop j) (row.drop j)) ⟨rfl, normW_of ?_⟩ ?_
              · conv => whnf
                rfl
              · intro j hj hV
                conv => whnf
                refine cond_i (fun h4 => ?_) (fun h4 => ?_)
                · have hlj : j < row.length := by have := of_decide_eq_true h4; rw [rowD_len] at this; omega
                  have hlc : j < cols.length := by omega
                  rw [drop_cons hlj, drop_cons hlc] at hV
                  conv => whnf
                  refine ⟨by omega, _, rowD_get hlj, rfl, ?_⟩
                  conv => whnf
                  refine ⟨by omega, _, colD_get hlc, rfl, ?_⟩
                  conv => whnf
                  refine cond_i (fun h5 => ?_) (fun h5 => ?_)
                  · have h5 : (valErr cols[j].t row[j] != 0) = true := h5
                    simp only [valuesL, h5, cond_true] at hV
                    rw [hV, h5] at hR
                    conv => whnf
                    exact congrArg rI hR.symm
                  · have h5 : (valErr cols[j].t row[j] != 0) = false := h5
                    simp only [valuesL, h5, cond_false] at hV
                    conv => whnf
                    refine ⟨hlj, hV, normW_of ?_⟩
                    conv => whnf
                    rw [wrapS hlj hrl]
                    rfl
                · have hge : row.length ≤ j := by have := of_decide_eq_false h4; rw [rowD_len] at this; omega
                  rw [List.drop_eq_nil_of_le hge, valuesL_nil] at hV
                  rw [hV] at hR
                  conv => whnf
                  refine ⟨hlt, hR, normW_of ?_⟩
                  conv => whnf
                  rw [wrapS hlt (by omega)]
                  rfl
          · have hge : rows.length ≤ i := by have := of_decide_eq_false h1; rw [rowsD_len] at this; omega
            rw [List.drop_eq_nil_of_le hge] at hR
            conv => whnf
            exact congrArg rI hR.symm
end Go.Proofs.YtcajnlkkjdhjdaaGreat

namespace Go.Proofs.YtcajnlkkjdhjdaaGreat
open Go Go.AM
attribute [local irreducible] Sat LoopP
set_option maxRecDepth 100000

def eqV (a b : Val) : Bool := (a.k == b.k) && ((a.n == b.n) && (beqS a.s b.s && true))
def allEq {α : Type} (e : α → α → Bool) : List α → List α → Bool
  | [], [] => true
  | x :: xs, y :: ys => bif !e x y then false else allEq e xs ys
  | _, _ => false
def sameRow (a b : List Val) : Bool := bif ((a.length : Int)) != b.length then false else allEq eqV a b
theorem allEq_end {α : Type} (e : α → α → Bool) {a b : List α} {i : Nat} (h : a.length ≤ i) (hl : a.length = b.length) : allEq e (a.drop i) (b.drop i) = true := by
  rw [List.drop_eq_nil_of_le h, List.drop_eq_nil_of_le (by omega)]; rfl
theorem lens {α β : Type} {a : List α} {b : List β} (h : (((a.length : Int)) != (b.length : Int)) = false) : a.length = b.length := by simp only [bne_eq_false_iff_eq] at h; omega

theorem sat_ref33_Same (a b : List Val) : Sat Pg k_ref33_Same [rowC a, rowC b] (fun r => r = rB (sameRow a b)) := by
  refine sat_len 0 (by kernel_rfl) rfl fun hlen => ?_
  rw [rowD_len] at hlen
  unfold sameRow
  refine Sat_of T3 c_ref33_Same_ok (by kernel_rfl) ?_
  conv => whnf
  rw [rowD_len, rowD_len]
  refine cond_i (fun h => ?_) (fun h => ?_)
  · rw [h]; rfl
  · rw [h]
    have hl := lens h
    simp only [cond_false]
    conv => whnf
    refine loopI (P := Pg) (f := T3.f) (body := c_ref33_Same_L0) a.length (fun i => ⟨[(0, .w (rowC a)), (1, .w (rowC b)), (5, intV i)], []⟩) (fun i => allEq eqV a b = allEq eqV (a.drop i) (b.drop i)) ⟨rfl, normW_of ?_⟩ ?_
    · conv => whnf
      rfl
    · intro i hi hR
      conv => whnf
      refine cond_i (fun h1 => ?_) (fun h1 => ?_)
      · have hlt : i < a.length := by have := of_decide_eq_true h1; rw [rowD_len] at this; omega
        have hlb : i < b.length := by omega
        rw [drop_cons hlt, drop_cons hlb] at hR
        conv => whnf
        refine ⟨by omega, _, rowD_get hlt, rfl, ?_⟩
        conv => whnf
        refine ⟨by omega, _, rowD_get hlb, rfl, ?_⟩
        conv => whnf
        refine cond_i (fun h2 => ?_) (fun h2 => ?_)
        · have h2 : (!eqV a[i] b[i]) = true := h2
          simp only [allEq, h2, cond_true] at hR
          conv => whnf
          exact congrArg rB hR.symm
        · have h2 : (!eqV a[i] b[i]) = false := h2
          simp only [allEq, h2, cond_false] at hR
          conv => whnf
          refine ⟨hlt, hR, normW_of ?_⟩
          conv => whnf
          rw [wrapS hlt hlen]
          rfl
      · have hge : a.length ≤ i := by have := of_decide_eq_false h1; rw [rowD_len] at this; omega
        rw [allEq_end _ hge hl] at hR
        conv => whnf
        exact congrArg rB hR.symm

def eqC (a b : Col) : Bool := beqS a.name b.name && ((a.t == b.t) && true)
def sameCols (a b : List Col) : Bool := bif ((a.length : Int)) != b.length then false else allEq eqC a b
theorem sat_Equal_Column (a b : List Col) : Sat Pg k_slices_Equal_Column [.c (.d (.sl (colD a))), .c (.d (.sl (colD b)))] (fun r => r = rB (sameCols a b)) := by
  refine sat_len 0 (by kernel_rfl) rfl fun hlen => ?_
  rw [colD_len] at hlen
  unfold sameCols
  refine Sat_of T3 c_slices_Equal_Column_ok (by kernel_rfl) ?_
  conv => whnf
  rw [colD_len, colD_len]
  refine cond_i (fun h => ?_) (fun h => ?_)
  · rw [h]; rfl
  · rw [h]
    have hl := lens h
    simp only [cond_false]
    conv => whnf
    refine loopI (P := Pg) (f := T3.f) (body := c_slices_Equal_Column_L0) a.length (fun i => ⟨[(0, .w (.c (.d (.sl (colD a))))), (1, .w (.c (.d (.sl (colD b))))), (12, intV (colD a).length), (13, intV i)], []⟩) (fun i => allEq eqC a b = allEq eqC (a.drop i) (b.drop i)) ⟨rfl, normW_of ?_⟩ ?_
    · conv => whnf
      rfl
    · intro i hi hR
      conv => whnf
      refine cond_i (fun h1 => ?_) (fun h1 => ?_)
      · have hlt : i < a.length := by have := of_decide_eq_true h1; rw [colD_len] at this; omega
        have hlb : i < b.length := by omega
        rw [drop_cons hlt, drop_cons hlb] at hR
        conv => whnf
        refine ⟨by omega, _, colD_get hlt, rfl, ?_⟩
        conv => whnf
        refine ⟨by omega, _, colD_get hlb, rfl, ?_⟩
        conv => whnf
        refine cond_i (fun h2 => ?_) (fun h2 => ?_)
        · have h2 : (!eqC a[i] b[i]) = true := h2
          simp only [allEq, h2, cond_true] at hR
          conv => whnf
          exact congrArg rB hR.symm
        · have h2 : (!eqC a[i] b[i]) = false := h2
          simp only [allEq, h2, cond_false] at hR
          conv => whnf
          refine ⟨hlt, hR, normW_of ?_⟩
          conv => whnf
          rw [wrapS hlt hlen]
          rfl
      · have hge : a.length ≤ i := by have := of_decide_eq_false h1; rw [colD_len] at this; omega
        rw [allEq_end _ hge hl] at hR
        conv => whnf
        exact congrArg rB hR.symm

structure Chg where
  row : List Val
  n : Int
def Chg.ds (c : Chg) : List D := [.sl (rowD c.row), .lit (.int .i64 c.n)]
def Chg.w (c : Chg) : W := .agg [.d (.sl (rowD c.row)), int c.n]
def chgD (r : List Chg) : List (List D) := r.map Chg.ds
def chgC (r : List Chg) : W := .c (.d (.sl (chgD r)))
theorem chgD_len (r : List Chg) : (chgD r).length = r.length := by simp [chgD]
theorem chgD_get {r : List Chg} {i : Nat} (h : i < r.length) : (chgD r)[((i : Int)).toNat]? = some (r[i]).ds := by simp [chgD, List.getElem?_eq_getElem h]

def eqG (a b : Chg) : Bool := !((a.n != b.n) || !sameRow a.row b.row)
def sameChg (a b : List Chg) : Bool := bif ((a.length : Int)) != b.length then false else allEq eqG a b
theorem sat_ref45_Same (a b : List Chg) : Sat Pg k_ref45_Same [chgC a, chgC b] (fun r => r = rB (sameChg a b)) := by
  refine sat_len 0 (by kernel_rfl) rfl fun hlen => ?_
  rw [chgD_len] at hlen
  unfold sameChg
  refine Sat_of T3 c_ref45_Same_ok (by kernel_rfl) ?_
  conv => whnf
  rw [chgD_len, chgD_len]
  refine cond_i (fun h => ?_) (fun h => ?_)
  · rw [h]; rfl
  · rw [h]
    have hl := lens h
    simp only [cond_false]
    conv => whnf
    refine loopI (P := Pg) (f := T3.f) (body := c_ref45_Same_L0) a.length (fun i => ⟨[(0, .w (chgC a)), (1, .w (chgC b)), (5, intV i)], []⟩) (fun i => allEq eqG a b = allEq eqG (a.drop i) (b.drop i)) ⟨rfl, normW_of ?_⟩ ?_
    · conv => whnf
      rfl
    · intro i hi hR
      conv => whnf
      refine cond_i (fun h1 => ?_) (fun h1 => ?_)
      · have hlt : i < a.length := by have := of_decide_eq_true h1; rw [chgD_len] at this; omega
        have hlb : i < b.length := by omega
        rw [drop_cons hlt, drop_cons hlb] at hR
        have hend : ∀ e, eqG a[i] b[i] = e → allEq eqG a b = bif !e then false else allEq eqG (a.drop (i + 1)) (b.drop (i + 1)) := fun e he => by rw [hR]; simp only [allEq, he]
        conv => whnf
        refine ⟨by omega, _, chgD_get hlt, rfl, ?_⟩
        conv => whnf
        refine ⟨by omega, _, chgD_get hlb, rfl, ?_⟩
        conv => whnf
        refine cond_i (fun h2 => ?_) (fun h2 => ?_)
        · have h2 : (a[i].n != b[i].n) = true := h2
          have hR := hend false (by simp only [eqG, h2]; rfl)
          conv => whnf
          exact congrArg rB hR.symm
        · have h2 : (a[i].n != b[i].n) = false := h2
          conv => whnf
          refine ⟨by omega, _, chgD_get hlt, rfl, ?_⟩
          conv => whnf
          refine ⟨by omega, _, chgD_get hlb, rfl, ?_⟩
          conv => whnf
          refine Sat.mono (sat_ref33_Same a[i].row b[i].row) ?_
          rintro _ rfl
          conv => whnf
          refine cond_i (fun h3 => ?_) (fun h3 => ?_)
          · have h3 : (!sameRow a[i].row b[i].row) = true := h3
            have hR := hend false (by simp only [eqG, h2, h3]; rfl)
            conv => whnf
            exact congrArg rB hR.symm
          · have h3 : (!sameRow a[i].row b[i].row) = false := h3
            have hR := hend true (by simp only [eqG, h2, h3]; rfl)
            conv => whnf
            refine ⟨hlt, hR, normW_of ?_⟩
            conv => whnf
            rw [wrapS hlt hlen]
            rfl
      · have hge : a.length ≤ i := by have := of_decide_eq_false h1; rw [chgD_len] at this; omega
        rw [allEq_end _ hge hl] at hR
        conv => whnf
        exact congrArg rB hR.symm

/-- All are fine, each looked at in turn. -/
def allB {α : Type} (p : α → Bool) : List α → Bool
  | [] => true
  | x :: r => bif p x then allB p r else false
def fewCols (l : List Col) : Bool := bif decide ((l.length : Int) ≤ 40) then allB (fun c => !decide ((c.name.size : Int) > 300)) l else false
end Go.Proofs.YtcajnlkkjdhjdaaGreat

namespace Go.Proofs.YtcajnlkkjdhjdaaGreat
open Go Go.AM
attribute [local irreducible] Sat LoopP
set_option maxRecDepth 100000

theorem sat_FewCols (l : List Col) : Sat Pg k_ref39_FewCols [.c (.d (.sl (colD l)))] (fun r => r = rB (fewCols l)) := by
  refine sat_len 0 (by kernel_rfl) rfl fun hlen => ?_
  rw [colD_len] at hlen
  refine Sat_of T3 c_ref39_FewCols_ok (by kernel_rfl) ?_
  conv => whnf
  refine loopI (P := Pg) (f := T3.f) (body := c_ref39_FewCols_L0) l.length (fun i => ⟨[(0, .w (.c (.d (.sl (colD l))))), (3, intV i)], []⟩)
    (fun i => i ≤ 41 ∧ (l.length ≤ 40 → allB (fun c => !decide ((c.name.size : Int) > 300)) l = allB (fun c => !decide ((c.name.size : Int) > 300)) (l.drop i))) ⟨⟨by omega, fun _ => rfl⟩, normW_of ?_⟩ ?_
  · conv => whnf
    rfl
  · intro i hi hR
    obtain ⟨h41, hR⟩ := hR
    conv => whnf
    refine cond_i (fun h1 => ?_) (fun h1 => ?_)
    · have h1 : (decide ((i : Int) < ((colD l).length : Int)) && decide ((i : Int) ≤ 40)) = true := h1
      simp only [Bool.and_eq_true, decide_eq_true_eq, colD_len] at h1
      have hlt : i < l.length := by omega
      conv => whnf
      refine ⟨by omega, _, colD_get hlt, rfl, ?_⟩
      conv => whnf
      refine cond_i (fun h2 => ?_) (fun h2 => ?_)
      · have h2 : decide (((l[i].name.size : Nat) : Int) > 300) = true := h2
        conv => whnf
        refine congrArg rB ?_
        unfold fewCols
        by_cases h40 : l.length ≤ 40
        · have := hR h40
          rw [drop_cons hlt] at this
          simp only [allB, h2, Bool.not_true, cond_false] at this
          rw [this]
          cases decide ((l.length : Int) ≤ 40) <;> rfl
        · rw [decide_eq_false (by omega)]; rfl
      · have h2 : decide (((l[i].name.size : Nat) : Int) > 300) = false := h2
        conv => whnf
        refine ⟨hlt, ⟨by omega, fun h40 => ?_⟩, normW_of ?_⟩
        · have := hR h40
          rw [drop_cons hlt] at this
          simpa only [allB, h2, Bool.not_false, cond_true] using this
        · conv => whnf
          rw [wrapS hlt hlen]
          rfl
    · have h1 : (decide ((i : Int) < ((colD l).length : Int)) && decide ((i : Int) ≤ 40)) = false := h1
      simp only [Bool.and_eq_false_iff, decide_eq_false_iff_not, colD_len] at h1
      conv => whnf
      rw [colD_len]
      refine congrArg rB ?_
      unfold fewCols
      by_cases h40 : l.length ≤ 40
      · have := hR h40
        rw [List.drop_eq_nil_of_le (by omega)] at this
        rw [this]
        cases decide ((l.length : Int) ≤ 40) <;> rfl
      · rw [decide_eq_false (by omega)]; rfl

def fewRow (r : List Val) : Bool := bif decide ((r.length : Int) > 40) then false else allB (fun v => !decide ((v.s.size : Int) > 300)) r
def fewTbl (t : Tbl) : Bool := bif !fewCols t.cols || decide ((t.rows.length : Int) > 40) then false else allB fewRow t.rows

theorem sat_FewTable (t : Tbl) : Sat Pg k_ref39_FewTable [t.w] (fun r => r = rB (fewTbl t)) := by
  obtain ⟨cols, rows⟩ := t
  unfold fewTbl
  refine Sat_of T3 c_ref39_FewTable_ok (by kernel_rfl) ?_
  conv => whnf
  refine Sat.mono (sat_FewCols cols) ?_
  rintro _ rfl
  conv => whnf
  rw [rowsD_len]
  refine cond_i (fun h => ?_) (fun h => ?_)
  · rw [h]; rfl
  · rw [h]
    simp only [Bool.or_eq_false_iff, decide_eq_false_iff_not] at h
    simp only [cond_false]
    conv => whnf
    refine loopI (P := Pg) (f := T3.f) (body := c_ref39_FewTable_L1) rows.length (fun i => ⟨[(1, cV (.ptr 1 0)), (3, intV i)], [(1, .box [.d (.sl (colD cols)), .d (.sl (rowsD rows))])]⟩) (fun i => allB fewRow rows = allB fewRow (rows.drop i)) ⟨rfl, normW_of ?_⟩ ?_
    · conv => whnf
      rfl
    · intro i hi hR
      conv => whnf
      rw [rowsD_len]
      refine cond_i (fun h1 => ?_) (fun h1 => ?_)
      · have hlt : i < rows.length := by have := of_decide_eq_true h1; omega
        rw [drop_cons hlt] at hR
        simp only [allB] at hR
        conv => whnf
        refine ⟨by omega, _, rowsD_get hlt, rfl, ?_⟩
        conv => whnf
        rw [rowD_len]
        refine cond_i (fun h2 => ?_) (fun h2 => ?_)
        · have : fewRow rows[i] = false := by unfold fewRow; rw [h2]; rfl
          rw [this] at hR
          conv => whnf
          exact congrArg rB hR.symm
        · have hf : fewRow rows[i] = allB (fun v => !decide ((v.s.size : Int) > 300)) rows[i] := by unfold fewRow; rw [h2]; rfl
          rw [hf] at hR
          have h2 := of_decide_eq_false h2
          conv => whnf
          refine loopI (P := Pg) (f := T3.f) (body := c_ref39_FewTable_L0) rows[i].length (fun j => ⟨[(1, cV (.ptr 1 0)), (3, intV i), (4, intV j)], [(1, .box [.d (.sl (colD cols)), .d (.sl (rowsD rows))])]⟩) (fun j => allB (fun v => !decide ((v.s.size : Int) > 300)) rows[i] = allB (fun v => !decide ((v.s.size : Int) > 300)) (rows[i].drop j)) ⟨rfl, normW_of ?_⟩ ?_
          · conv => whnf
            rfl
          · intro j hj hV
            conv => whnf
            refine ⟨by omega, _, rowsD_get hlt, rfl, ?_⟩
            conv => whnf
            rw [rowD_len]
            refine cond_i (fun h3 => ?_) (fun h3 => ?_)
            · have hlj : j < rows[i].length := by have := of_decide_eq_true h3; omega
              rw [drop_cons hlj] at hV
              conv => whnf
              refine ⟨by omega, _, rowsD_get hlt, rfl, ?_⟩
              conv => whnf
              refine ⟨by omega, _, rowD_get hlj, rfl, ?_⟩
              conv => whnf
              refine cond_i (fun h4 => ?_) (fun h4 => ?_)
              · have h4 : decide (((rows[i][j].s.size : Nat) : Int) > 300) = true := h4
                simp only [allB, h4, Bool.not_true, cond_false] at hV
                rw [hV] at hR
                conv => whnf
                exact congrArg rB hR.symm
              · have h4 : decide (((rows[i][j].s.size : Nat) : Int) > 300) = false := h4
                simp only [allB, h4, Bool.not_false, cond_true] at hV
                conv => whnf
                refine ⟨hlj, hV, normW_of ?_⟩
                conv => whnf
                rw [wrapS hlj (by omega)]
                rfl
            · have hge : rows[i].length ≤ j := by have := of_decide_eq_false h3; omega
              rw [List.drop_eq_nil_of_le hge] at hV
              rw [hV] at hR
              conv => whnf
              refine ⟨hlt, hR, normW_of ?_⟩
              conv => whnf
              rw [wrapS hlt (by omega)]
              rfl
      · have hge : rows.length ≤ i := by have := of_decide_eq_false h1; omega
        rw [List.drop_eq_nil_of_le hge] at hR
        conv => whnf
        exact congrArg rB hR.symm

def fewChg (c : Chg) : Bool := !((decide (c.n > 100) && decide (c.n ≤ 20000)) || !fewTbl ⟨[], [c.row]⟩)
def fewChgs (l : List Chg) : Bool := bif decide ((l.length : Int) > 30) then false else allB fewChg l

theorem sat_FewChanges (l : List Chg) : Sat Pg k_ref45_FewChanges [chgC l] (fun r => r = rB (fewChgs l)) := by
  unfold fewChgs
  refine Sat_of T3 c_ref45_FewChanges_ok (by kernel_rfl) ?_
  conv => whnf
  rw [chgD_len]
  refine cond_i (fun h => ?_) (fun h => ?_)
  · rw [h]; rfl
  · rw [h]
    have h := of_decide_eq_false h
    simp only [cond_false]
    conv => whnf
    refine loopI (P := Pg) (f := T3.f) (body := c_ref45_FewChanges_L0) l.length (fun i => ⟨[(0, .w (chgC l)), (3, intV i)], []⟩) (fun i => allB fewChg l = allB fewChg (l.drop i)) ⟨rfl, normW_of ?_⟩ ?_
    · conv => whnf
      rfl
    · intro i hi hR
      conv => whnf
      refine cond_i (fun h1 => ?_) (fun h1 => ?_)
      · have hlt : i < l.length := by have := of_decide_eq_true h1; rw [chgD_len] at this; omega
        rw [drop_cons hlt] at hR
        simp only [allB] at hR
        have hend : ∀ e, fewChg l[i] = e → allB fewChg l = bif e then allB fewChg (l.drop (i + 1)) else false := fun e he => by rw [hR, he]
        have hfall : (decide (l[i].n > 100) && decide (l[i].n ≤ 20000)) = false → fewChg l[i] = fewTbl ⟨[], [l[i].row]⟩ := fun e => by unfold fewChg; rw [e]; simp
        have hgo : (decide (l[i].n > 100) && decide (l[i].n ≤ 20000)) = true → fewChg l[i] = false := fun e => by unfold fewChg; rw [e]; rfl
        conv => whnf
        refine ⟨by omega, _, chgD_get hlt, rfl, ?_⟩
        have tail : (decide (l[i].n > 100) && decide (l[i].n ≤ 20000)) = false → ∀ (X : Prop), X → X := fun _ _ h => h
        conv => whnf
        refine cond_i (fun h2 => ?_) (fun h2 => ?_)
        · have h2 : decide (l[i].n > 100) = true := h2
          conv => whnf
          refine ⟨by omega, _, chgD_get hlt, rfl, ?_⟩
          conv => whnf
          refine cond_i (fun h3 => ?_) (fun h3 => ?_)
          · have h3 : decide (l[i].n ≤ 20000) = true := h3
            have hR := hend false (hgo (by rw [h2, h3]; rfl))
            conv => whnf
            exact congrArg rB hR.symm
          · have h3 : decide (l[i].n ≤ 20000) = false := h3
            have hR := hend _ (hfall (by rw [h2, h3]; rfl))
            conv => whnf
            refine ⟨by omega, _, chgD_get hlt, rfl, ?_⟩
            conv => whnf
            refine Sat.mono (sat_FewTable ⟨[], [l[i].row]⟩) ?_
            rintro _ rfl
            conv => whnf
            refine cond_i (fun h4 => ?_) (fun h4 => ?_)
            · have h4 : (!fewTbl ⟨[], [l[i].row]⟩) = true := h4
              rw [Bool.not_eq_true'] at h4
              rw [h4] at hR
              conv => whnf
              exact congrArg rB hR.symm
            · have h4 : (!fewTbl ⟨[], [l[i].row]⟩) = false := h4
              rw [Bool.not_eq_false'] at h4
              rw [h4] at hR
              conv => whnf
              refine ⟨hlt, hR, normW_of ?_⟩
              conv => whnf
              rw [wrapS hlt (by omega)]
              rfl
        · have h2 : decide (l[i].n > 100) = false := h2
          have hR := hend _ (hfall (by rw [h2]; rfl))
          conv => whnf
          refine ⟨by omega, _, chgD_get hlt, rfl, ?_⟩
          conv => whnf
          refine Sat.mono (sat_FewTable ⟨[], [l[i].row]⟩) ?_
          rintro _ rfl
          conv => whnf
          refine cond_i (fun h4 => ?_) (fun h4 => ?_)
          · have h4 : (!fewTbl ⟨[], [l[i].row]⟩) = true := h4
            rw [Bool.not_eq_true'] at h4
            rw [h4] at hR
            conv => whnf
            exact congrArg rB hR.symm
          · have h4 : (!fewTbl ⟨[], [l[i].row]⟩) = false := h4
            rw [Bool.not_eq_false'] at h4
            rw [h4] at hR
            conv => whnf
            refine ⟨hlt, hR, normW_of ?_⟩
            conv => whnf
            rw [wrapS hlt (by omega)]
            rfl
      · have hge : l.length ≤ i := by have := of_decide_eq_false h1; rw [chgD_len] at this; omega
        rw [List.drop_eq_nil_of_le hge] at hR
        conv => whnf
        exact congrArg rB hR.symm

def DQ (X : Res) (r : Res) : Prop := r.v.plain = true ∧ r.asData = X
theorem sat_dq {P : Program} {k : Nat} {args : List W} {X : Res} (h : Sat P k args (DQ X)) : Sat P k args (fun r => r = X) := h.data fun _ h => h
def rC (x : C) : Res := ⟨.w (.c x), []⟩

theorem sat_Clone_Column (l : List Col) (hl : l.length ≤ 1000000) : Sat Pg k_slices_Clone_Column [.c (.d (.sl (colD l)))] (fun r => r = rC (.d (.sl (colD l)))) := by
  refine sat_dq (Sat_of T3 c_slices_Clone_Column_ok (by kernel_rfl) ?_)
  conv => whnf
  refine ⟨fun h => ?_, ?_⟩
  · conv => whnf
    refine ⟨rfl, ?_⟩
    rw [h]
    rfl
  · conv => whnf
    refine ⟨colD_sz l, by unfold fits; rw [colD_len]; simp; omega, by rw [colD_len]; simp; omega, ?_⟩
    conv => whnf
    refine ⟨rfl, ?_⟩
    refine Eq.trans (b := rC (.d (.sl (([] ++ colD l).take (0 + (colD l).length))))) rfl ?_
    rw [List.nil_append, Nat.zero_add, List.take_length]
end Go.Proofs.YtcajnlkkjdhjdaaGreat

namespace Go.AM

/-- The slot d names the array place p: it is called q from here on. -/
def S.mvOwn (s : S) (d p q sz n : Nat) (els : List (List D)) : S := (s.redo [p, q] [(q, .arr sz els false)]).put (some d) (cV (.own q sz n))

theorem weak_mvOwn {s : S} (d p q sz n : Nat) (els : List (List D)) (hq : q < 100000) (h : aget s.sl d = some (cV (.own p sz n))) (hp : aget s.pl p = some (.arr sz els false)) : Weak s (s.mvOwn d p q sz n els) := by
  intro F N ι a w hr
  have hh : F.h q = none := by
    cases e : F.h q with
    | none => rfl
    | some g => have := hr.hdom q g e; omega
  have hι : ∀ r, isin r [p, q] = false → upd ι q (ι p) r = ι r := fun r hr' => upd_other ι _ (isin_two hr').2
  have hplace := hr.places p _ hp
  have hfr : ∀ r x b, aget [(q, Pl.arr sz els false)] r = some x → (upd ι q (ι p) r).b = some b → b < w.heap.size ∧ (w.heap.size ≤ b ∨ ∃ q' y, isin q' [p, q] = true ∧ aget s.pl q' = some y ∧ y.live = true ∧ (ι q').b = some b) := by
    intro r x b hx hb
    obtain ⟨rfl, rfl⟩ := aget_one hx
    rw [upd_same] at hb
    exact ⟨(hr.mine b ⟨p, _, hp, rfl, hb⟩).2, .inr ⟨p, _, by simp [isin], hp, rfl, hb⟩⟩
  have hrel : Rel F N (upd ι q (ι p)) (s.redo [p, q] [(q, .arr sz els false)]) a w := by
    refine hr.redo [p, q] [(q, .arr sz els false)] _ w hι (fun _ _ _ => rfl) (Shapes.refl w) rfl rfl (Out.refl w) (Nat.le_refl _) ?_ ?_ ?_ (fun r x hx => by obtain ⟨rfl, _⟩ := aget_one hx; exact hh)
    · intro r x hx
      obtain ⟨rfl, rfl⟩ := aget_one hx
      have hk := redo_keeps hr [p, r] [(r, .arr sz els false)] (upd ι r (ι p)) w hι (fun _ _ _ => rfl) (Nat.le_refl _) hfr
      obtain ⟨h0, hn, h⟩ := hplace
      refine ⟨h0, by rw [upd_same]; exact hn, ?_⟩
      rcases h with ⟨g1, g2⟩ | ⟨b, g1, g2, g3, g4⟩
      · exact .inl ⟨by rw [upd_same]; exact g1, g2⟩
      · exact .inr ⟨b, by rw [upd_same]; exact g1, RDs.keep' hk b sz els 0 (fun _ _ _ => rfl) g2, fun hf => (by cases hf), g4⟩
    · exact hfr
    · intro r r' x y b hx hy hrr
      obtain ⟨rfl, rfl⟩ := aget_one hx
      obtain ⟨rfl, rfl⟩ := aget_one hy
      exact absurd rfl hrr
  obtain ⟨x, hx1, hx2⟩ := hr.slots d _ h
  refine ⟨_, { hrel with slots := fun k v hv => ?_ }⟩
  have hv : aget (aput d (cV (.own q sz n)) (s.redo [p, q] [(q, .arr sz els false)]).sl) k = some v := hv
  rw [aget_aput] at hv
  by_cases e : d = k
  · rw [if_pos e] at hv
    cases hv
    subst e
    refine ⟨x, hx1, ?_⟩
    have hx2 : CR ι w (F.ok ι s.pl w) (.own p sz n) x := hx2
    simp only [cV, VR, WR]
    simp only [CR, upd_same]
    exact hx2
  · rw [if_neg e] at hv
    exact hrel.slots k v hv
end Go.AM

namespace Go.Proofs.YtcajnlkkjdhjdaaGreat
open Go Go.AM
attribute [local irreducible] Sat SatH LoopP
set_option maxRecDepth 100000

def zeroG : List D := [.sl [], .lit (.int .i64 0)]
theorem sat_Grow_Change (n : Nat) (hn : n ≤ 1000000) : SatH Pg k_slices_Grow_Change [.c .nil, .c (int n)] [] (fun r => (n = 0 ∧ r = ⟨.w (.c .nil), []⟩) ∨ (0 < n ∧ r = ⟨.w (.c (.own 0 2 0)), [.arr 2 (List.replicate n zeroG) false]⟩)) := by
  refine SatH_of T3 c_slices_Grow_Change_ok (by kernel_rfl) (by simp) ?_
  have h0 : IntKind.i64.wrap ((0 : Int) - 0) = 0 := wrapI (by omega) (by omega)
  have hw : IntKind.i64.wrap ((n : Int) - IntKind.i64.wrap (0 - 0)) = n := by rw [h0, wrapI (by omega) (by omega)]; omega
  conv => whnf
  rw [hw]
  refine cond_i (fun h2 => ?_) (fun h2 => ?_)
  · have h2 := of_decide_eq_true h2
    conv => whnf
    refine ⟨by simp [orI], by simp [orI], by simp [orI], ?_⟩
    conv => whnf
    refine ⟨by omega, by unfold fits; simp; omega, by omega, ?_⟩
    conv => whnf
    refine ⟨by simp [orI], by simp [orI], ?_⟩
    conv => whnf
    exact .inr ⟨by omega, rfl⟩
  · have h2 := of_decide_eq_false h2
    conv => whnf
    exact .inl ⟨by omega, rfl⟩

theorem chgD_sz (l : List Chg) : ∀ y ∈ chgD l, y.length = 2 := by
  intro y hy
  simp only [chgD, List.mem_map] at hy
  obtain ⟨x, _, rfl⟩ := hy
  rfl
theorem chgD_app (a b : List Chg) : chgD a ++ chgD b = chgD (a ++ b) := by simp [chgD]

def rOwn (sz : Nat) (l : List (List D)) : Res := ⟨.w (.c (.own 0 sz l.length)), [.arr sz l false]⟩

def ccC (xs ys : List Chg) : W := .c (.d (.sl [[.sl (chgD xs)], [.sl (chgD ys)]]))
def ccS (xs ys : List Chg) (a b : Int) : S := ⟨[(0, .w (ccC xs ys)), (3, intV a), (9, .w (ccC xs ys)), (10, intV 2), (11, intV b)], []⟩
def ccT (xs ys : List Chg) (p n : Nat) (els : List (List D)) (b : Int) : S := ⟨[(6, cV (.own p 2 n)), (25, .w (ccC xs ys)), (26, intV 2), (27, intV b)], [(p, .arr 2 els false)]⟩

def ccF (xs ys : List Chg) (x : Nat × List (List D)) : S := match x.1 with | 0 => ccT xs ys 33 0 x.2 0 | 1 => ccT xs ys 33 xs.length x.2 1 | _ => ccT xs ys 33 (xs ++ ys).length x.2 2
theorem cc_loop {xs ys : List Chg} (hx : xs.length ≤ 100000) (hy : ys.length ≤ 100000) {Q : E → S → Prop} {s : S} (els : List (List D)) (h0 : normW s [6, 25, 26, 27] (· = ccT xs ys 33 0 els 0))
    (hQ : Q (.exit 2) ⟨[(6, cV (.own 33 2 (xs ++ ys).length)), (25, .w (ccC xs ys)), (26, intV 2), (27, intV 2), (28, boolV (decide ((2 : Int) < 2)))], [(33, .arr 2 (chgD (xs ++ ys)) false)]⟩) :
    LoopP (mwpR Pg T3.f c_slices_Concat_Change_L1) [6, 25, 26, 27] Q s := by
  have v1 : IntKind.i64.wrap ((0 : Int) + 1) = 1 := wrapI (by omega) (by omega)
  have v2 : IntKind.i64.wrap ((1 : Int) + 1) = 2 := wrapI (by omega) (by omega)
  refine loopF (P := Pg) (f := T3.f) (body := c_slices_Concat_Change_L1) (ccF xs ys) (fun x => 2 - x.1) (fun x => x.1 = 0 ∨ (x.1 = 1 ∧ x.2 = chgD xs) ∨ (x.1 = 2 ∧ x.2 = chgD (xs ++ ys))) ⟨(0, els), .inl rfl, h0⟩ ?_
  rintro ⟨i, els⟩ hR
  have hS : i = 0 ∨ (i = 1 ∧ els = chgD xs) ∨ (i = 2 ∧ els = chgD (xs ++ ys)) := hR
  clear hR
  rcases hS with rfl | ⟨rfl, hS⟩ | ⟨rfl, hS⟩
  · conv => whnf
    refine ⟨by omega, _, rfl, rfl, ?_⟩
    conv => whnf
    refine ⟨chgD_sz xs, by unfold fits; rw [chgD_len]; omega, by rw [chgD_len]; omega, ?_⟩
    conv => whnf
    refine ⟨(1, els.take 0 ++ chgD xs), ⟨.inr (.inl ⟨rfl, by simp⟩), by show 2 - 1 < 2 - 0; omega⟩, normW_of ?_⟩
    conv => whnf
    rw [v1, Nat.zero_add, chgD_len]
    rfl
  · conv => whnf
    refine ⟨by omega, _, rfl, rfl, ?_⟩
    conv => whnf
    refine ⟨chgD_sz ys, by unfold fits; rw [chgD_len]; omega, by rw [chgD_len]; omega, ?_⟩
    conv => whnf
    refine ⟨(2, els.take xs.length ++ chgD ys), ⟨.inr (.inr ⟨rfl, by rw [hS, ← chgD_len xs, List.take_length, chgD_app]⟩), by show 2 - 2 < 2 - 1; omega⟩, normW_of ?_⟩
    conv => whnf
    rw [v2, chgD_len, ← List.length_append]
    rfl
  · conv => whnf
    subst hS
    exact hQ

theorem sat_Concat_Change (xs ys : List Chg) (hx : xs.length ≤ 100000) (hy : ys.length ≤ 100000) :
    Sat Pg k_slices_Concat_Change [ccC xs ys] (fun r => r = ⟨.w (.c (.own 0 2 (xs ++ ys).length)), [.arr 2 (chgD (xs ++ ys)) false]⟩) := by
  refine Sat_of T3 c_slices_Concat_Change_ok (by kernel_rfl) ?_
  have w1 : IntKind.i64.wrap ((0 : Int) + ((chgD xs).length : Nat)) = ((xs.length : Nat) : Int) := by rw [chgD_len, wrapI (by omega) (by omega)]; omega
  have w2 : IntKind.i64.wrap (((xs.length : Nat) : Int) + ((chgD ys).length : Nat)) = ((xs.length + ys.length : Nat) : Int) := by rw [chgD_len, wrapI (by omega) (by omega)]; omega
  have v1 : IntKind.i64.wrap ((0 : Int) + 1) = 1 := wrapI (by omega) (by omega)
  have v2 : IntKind.i64.wrap ((1 : Int) + 1) = 2 := wrapI (by omega) (by omega)
  conv => whnf
  refine loopI (P := Pg) (f := T3.f) (body := c_slices_Concat_Change_L0) 2 (fun i => match i with | 0 => ccS xs ys 0 0 | 1 => ccS xs ys xs.length 1 | _ => ccS xs ys ((xs.length + ys.length : Nat) : Int) 2) (fun _ => True) ⟨trivial, normW_of ?_⟩ ?_
  · conv => whnf
    rfl
  · intro i hi _
    obtain rfl | rfl | rfl : i = 0 ∨ i = 1 ∨ i = 2 := by omega
    · conv => whnf
      refine ⟨by omega, _, rfl, rfl, ?_⟩
      conv => whnf
      rw [w1]
      conv => whnf
      refine ⟨by omega, trivial, normW_of ?_⟩
      conv => whnf
      rw [v1]
      rfl
    · conv => whnf
      refine ⟨by omega, _, rfl, rfl, ?_⟩
      conv => whnf
      rw [w2]
      conv => whnf
      refine ⟨by omega, trivial, normW_of ?_⟩
      conv => whnf
      rw [v2]
      rfl
    · conv => whnf
      refine SatH.mono (sat_Grow_Change (xs.length + ys.length) (by omega)) ?_
      rintro r (⟨h1, rfl⟩ | ⟨h1, rfl⟩)
      · conv => whnf
        refine cc_loop hx hy [] ⟨_, weak_ownNil 6 33 2 (by omega) (by omega) rfl, ?_⟩ ?_
        · conv => whnf
          rfl
        · conv => whnf
          rfl
      · conv => whnf
        refine cc_loop hx hy (List.replicate (xs.length + ys.length) zeroG) ⟨_, weak_mvOwn 6 600384 33 2 0 _ (by omega) rfl rfl, ?_⟩ ?_
        · conv => whnf
          rfl
        · conv => whnf
          rfl
end Go.Proofs.YtcajnlkkjdhjdaaGreat

namespace Go.Proofs.YtcajnlkkjdhjdaaGreat
open Go Go.AM
attribute [local irreducible] Sat SatH LoopP
set_option maxRecDepth 100000

theorem sat_IndexFunc_Change (g : FuncId) (p : Chg → Bool) (hp : ∀ x : Chg, Sat Pg g [x.w] (fun r => r = rB (p x))) (l : List Chg) :
    Sat Pg k_slices_IndexFunc_Change [chgC l, .c (.d (.fn g []))] (fun r => r = rI (findI p 0 l)) := by
  refine sat_len 0 (by kernel_rfl) rfl fun hlen => ?_
  rw [chgD_len] at hlen
  refine Sat_of T3 c_slices_IndexFunc_Change_ok (by kernel_rfl) ?_
  conv => whnf
  refine loopI (P := Pg) (f := T3.f) (body := c_slices_IndexFunc_Change_L0) l.length (fun i => ⟨[(0, .w (chgC l)), (1, .w (.c (.d (.fn g [])))), (7, intV (chgD l).length), (8, intV i)], []⟩) (fun i => findI p 0 l = findI p i (l.drop i)) ⟨rfl, normW_of ?_⟩ ?_
  · conv => whnf
    rfl
  · intro i hi hR
    conv => whnf
    refine cond_i (fun h1 => ?_) (fun h1 => ?_)
    · have hlt : i < l.length := by have := of_decide_eq_true h1; rw [chgD_len] at this; omega
      conv => whnf
      refine ⟨by omega, _, chgD_get hlt, rfl, ?_⟩
      conv => whnf
      refine Sat.mono (hp l[i]) ?_
      rintro _ rfl
      rw [drop_cons hlt] at hR
      conv => whnf
      refine cond_i (fun h3 => ?_) (fun h3 => ?_)
      · simp only [findI, h3, cond_true] at hR
        conv => whnf
        exact congrArg rI hR.symm
      · simp only [findI, h3, cond_false] at hR
        conv => whnf
        refine ⟨hlt, hR, normW_of ?_⟩
        conv => whnf
        rw [wrapS hlt hlen]
        rfl
    · have hge : l.length ≤ i := by have := of_decide_eq_false h1; rw [chgD_len] at this; omega
      rw [List.drop_eq_nil_of_le hge] at hR
      conv => whnf
      exact congrArg rI hR.symm

theorem sat_summed_2 (c : Chg) : Sat Pg k_delta_summed_2 [c.w] (fun r => r = rB (c.n == 0)) := by
  obtain ⟨a, b⟩ := c
  refine Sat_of T3 c_delta_summed_2_ok (by kernel_rfl) ?_
  conv => whnf
  rfl

theorem findI_spec {α : Type} (p : α → Bool) : ∀ (l : List α) (i : Nat), (findI p i l = -1 ∧ l.filter (fun x => !p x) = l) ∨ ∃ k, k < l.length ∧ findI p i l = ((i + k : Nat) : Int) ∧ (l.take k).filter (fun x => !p x) = l.take k ∧ (l.take (k + 1)).filter (fun x => !p x) = l.take k
  | [], i => .inl ⟨rfl, rfl⟩
  | x :: r, i => by
    cases hx : p x
    · have ih := findI_spec p r (i + 1)
      have e : findI p (i : Int) (x :: r) = findI p ((i + 1 : Nat) : Int) r := by simp only [findI, hx, cond_false]; rfl
      rcases ih with ⟨h1, h2⟩ | ⟨k, h1, h2, h3, h4⟩
      · refine .inl ⟨e.trans h1, ?_⟩
        rw [List.filter_cons, hx]; simp [h2]
      · refine .inr ⟨k + 1, by simp; omega, e.trans (h2.trans (by omega)), ?_, ?_⟩
        · rw [List.take_succ_cons, List.filter_cons, hx]; simp [h3]
        · rw [List.take_succ_cons, List.filter_cons, hx]; simp [h4]
    · refine .inr ⟨0, by simp, by simp only [findI, hx, cond_true]; omega, by simp, by simp [hx]⟩

/-- The state of the loop: i elements are kept of the first j. -/
def delS (g : FuncId) (n : Nat) (x : Nat × Nat × List (List D)) : S := ⟨[(0, cV (.own 100000 2 n)), (1, .w (.c (.d (.fn g [])))), (5, intV x.1), (6, intV x.2.1)], [(100000, .arr 2 x.2.2 false)]⟩
theorem set_take {α : Type} : ∀ {l : List α} {i : Nat} (_ : i < l.length) (x : α), (l.set i x).take (i + 1) = l.take i ++ [x]
  | [], _, h, _ => by cases h
  | y :: r, 0, _, x => by simp
  | y :: r, i + 1, h, x => by simp only [List.set_cons_succ, List.take_succ_cons, List.cons_append]; rw [set_take (by simpa using h) x]
theorem set_drop {α : Type} : ∀ {l : List α} {i j : Nat} (_ : i < j) (x : α), (l.set i x).drop j = l.drop j
  | [], _, _, _, _ => by simp
  | y :: r, 0, j + 1, _, x => by simp
  | y :: r, i + 1, j + 1, h, x => by simp only [List.set_cons_succ, List.drop_succ_cons]; exact set_drop (by omega) x
theorem splice_all {α : Type} {e ds : List α} (h : e.length = ds.length) : splice e 0 ds = ds := by
  simp only [splice, List.take_zero, List.nil_append, Nat.zero_add]
  rw [List.drop_eq_nil_of_le (by omega), List.append_nil]
theorem filter_step {α : Type} (q : α → Bool) {l : List α} {j : Nat} (h : j < l.length) : (l.take (j + 1)).filter q = (l.take j).filter q ++ (bif q l[j] then [l[j]] else []) := by
  rw [List.take_succ_eq_append_getElem h, List.filter_append]
  cases hq : q l[j] <;> simp [hq]

theorem sat_DeleteFunc_Change (g : FuncId) (p : Chg → Bool) (hp : ∀ x : Chg, Sat Pg g [x.w] (fun r => r = rB (p x))) (l : List Chg) (hl : l.length ≤ 1000000) :
    SatH Pg k_slices_DeleteFunc_Change [.c (.own 0 2 l.length), .c (.d (.fn g []))] [.arr 2 (chgD l) false] (fun r => ∃ els : List (List D), els.take (l.filter fun x => !p x).length = chgD (l.filter fun x => !p x) ∧ r = ⟨.w (.c (.own 0 2 (l.filter fun x => !p x).length)), [.arr 2 els false]⟩) := by
  refine SatH_of T3 c_slices_DeleteFunc_Change_ok (by kernel_rfl) (by simp) ?_
  conv => whnf
  have ht : (chgD l).take l.length = chgD l := by rw [← chgD_len, List.take_length]
  rw [ht]
  refine Sat.mono (sat_IndexFunc_Change g p hp l) ?_
  rintro _ rfl
  rcases findI_spec p l 0 with ⟨h1, h2⟩ | ⟨k, h1, h2, h3, h4⟩
  · have h1 : findI p 0 l = -1 := h1
    rw [h1, h2]
    conv => whnf
    exact ⟨chgD l, ht, rfl⟩
  · have h2 : findI p 0 l = ((k : Nat) : Int) := by simpa using h2
    rw [h2]
    have wk : IntKind.i64.wrap ((k : Int) + 1) = ((k + 1 : Nat) : Int) := wrapS h1 (by omega)
    conv => whnf
    refine loopF (P := Pg) (f := T3.f) (body := c_slices_DeleteFunc_Change_L0) (delS g l.length) (fun x => l.length - x.2.1)
      (fun x => x.1 < x.2.1 ∧ x.2.1 ≤ l.length ∧ x.2.2.length = l.length ∧ (∀ y ∈ x.2.2, y.length = 2) ∧ x.2.2.take x.1 = chgD ((l.take x.2.1).filter fun c => !p c) ∧ x.2.2.drop x.2.1 = chgD (l.drop x.2.1))
      ⟨(k, k + 1, chgD l), ⟨by show k < k + 1; omega, by show k + 1 ≤ l.length; omega, chgD_len l, chgD_sz l, by rw [h4]; simp [chgD, List.map_take], by simp [chgD, List.map_drop]⟩, normW_of ?_⟩ ?_
    · conv => whnf
      rw [wk]
      rfl
    · rintro ⟨i, j, els⟩ hR
      have hS : i < j ∧ j ≤ l.length ∧ els.length = l.length ∧ (∀ y ∈ els, y.length = 2) ∧ els.take i = chgD ((l.take j).filter fun c => !p c) ∧ els.drop j = chgD (l.drop j) := hR
      clear hR
      obtain ⟨g1, g2, g3, g4, g5, g6⟩ := hS
      conv => whnf
      refine cond_i (fun h5 => ?_) (fun h5 => ?_)
      · have hlt : j < l.length := by have h5 : decide ((j : Int) < (l.length : Int)) = true := h5; have := of_decide_eq_true h5; omega
        have hlte : j < els.length := by omega
        have hej : els[j]? = some (l[j]).ds := by
          rw [drop_cons hlt, drop_cons hlte] at g6
          have : els[j] :: els.drop (j + 1) = (l[j]).ds :: chgD (l.drop (j + 1)) := g6
          rw [List.getElem?_eq_getElem hlte, (List.cons.inj this).1]
        have g6' : els.drop (j + 1) = chgD (l.drop (j + 1)) := by
          rw [drop_cons hlt, drop_cons hlte] at g6
          have : els[j] :: els.drop (j + 1) = (l[j]).ds :: chgD (l.drop (j + 1)) := g6
          exact (List.cons.inj this).2
        have wj : IntKind.i64.wrap ((j : Int) + 1) = ((j + 1 : Nat) : Int) := wrapS hlt (by omega)
        have wi : IntKind.i64.wrap ((i : Int) + 1) = ((i + 1 : Nat) : Int) := wrapS (n := l.length) (by omega) (by omega)
        have hf := filter_step (fun c => !p c) hlt
        conv => whnf
        refine ⟨by show (0 : Int) ≤ (j : Int); omega, by show (j : Int) < (l.length : Int); omega, ?_⟩
        conv => whnf
        refine ⟨_, hej, ?_⟩
        conv => whnf
        refine Sat.mono (hp l[j]) ?_
        rintro _ rfl
        conv => whnf
        refine cond_i (fun h6 => ?_) (fun h6 => ?_)
        · have h6 : (!p l[j]) = true := h6
          rw [h6] at hf
          conv => whnf
          refine ⟨by show (0 : Int) ≤ (i : Int); omega, by show (i : Int) < (l.length : Int); omega, ?_⟩
          have hlti : i < els.length := by omega
          have hei : els[i]? = some els[i] := List.getElem?_eq_getElem hlti
          have hl2 : els[i].length = 2 := g4 _ (List.getElem_mem _)
          refine ⟨els[i], hei, by rw [hl2]; exact Nat.le_refl _, ?_⟩
          rw [show splice els[i] 0 [D.sl (rowD l[j].row), D.lit (.int .i64 l[j].n)] = (l[j]).ds from splice_all hl2]
          conv => whnf
          refine ⟨(i + 1, j + 1, els.set i (l[j]).ds), ⟨⟨by show i + 1 < j + 1; omega, by show j + 1 ≤ l.length; omega, by show (els.set i _).length = _; simpa using g3, ?_, ?_, ?_⟩, by show l.length - (j + 1) < l.length - j; omega⟩, normW_of ?_⟩
          · intro y hy
            rcases List.mem_or_eq_of_mem_set hy with hy | rfl
            · exact g4 y hy
            · rfl
          · show (els.set i _).take (i + 1) = _
            rw [set_take hlti, hf, g5, cond_true, ← chgD_app]
            rfl
          · show (els.set i _).drop (j + 1) = _
            rw [set_drop (by omega), g6']
          · conv => whnf
            rw [wi, wj]
            rfl
        · have h6 : (!p l[j]) = false := h6
          rw [h6] at hf
          conv => whnf
          refine ⟨(i, j + 1, els), ⟨⟨by show i < j + 1; omega, by show j + 1 ≤ l.length; omega, g3, g4, ?_, g6'⟩, by show l.length - (j + 1) < l.length - j; omega⟩, normW_of ?_⟩
          · show els.take i = _
            rw [hf, g5, cond_false, List.append_nil]
          · conv => whnf
            rw [wj]
            rfl
      · have hj : j = l.length := by have h5 : decide ((j : Int) < (l.length : Int)) = false := h5; have := of_decide_eq_false h5; omega
        subst hj
        rw [List.take_length] at g5
        have hi : (l.filter fun c => !p c).length = i := by
          have := congrArg List.length g5
          rw [chgD_len, List.length_take] at this
          omega
        rw [hi]
        conv => whnf
        refine ⟨by simp only [orI]; omega, by simp only [orI]; omega, by simp only [orI]; omega, ?_⟩
        conv => whnf
        refine ⟨by simp only [orI]; omega, by simp only [orI]; omega, ?_⟩
        conv => whnf
        refine ⟨_, ?_, rfl⟩
        simp only [orI, Int.toNat_natCast, splice]
        rw [List.append_assoc, List.take_append_of_le_length (by rw [List.length_take]; omega), List.take_take, Nat.min_self, g5]
end Go.Proofs.YtcajnlkkjdhjdaaGreat

namespace Go.Proofs.YtcajnlkkjdhjdaaGreat
open Go Go.AM
attribute [local irreducible] Sat SatH LoopP
set_option maxRecDepth 100000

def strsD (l : List ByteArray) : List (List D) := l.map fun b => [D.lit (.string b)]
def strsC (l : List ByteArray) : W := .c (.d (.sl (strsD l)))
theorem strsD_len (l : List ByteArray) : (strsD l).length = l.length := by simp [strsD]
theorem strsD_get {r : List ByteArray} {i : Nat} (h : i < r.length) : (strsD r)[((i : Int)).toNat]? = some [D.lit (.string r[i])] := by simp [strsD, List.getElem?_eq_getElem h]

theorem sat_Index_string (l : List ByteArray) (s : ByteArray) : Sat Pg k_slices_Index_string [strsC l, .c (str s)] (fun r => r = rI (findI (fun x => beqS s x) 0 l)) := by
  refine sat_len 0 (by kernel_rfl) rfl fun hlen => ?_
  rw [strsD_len] at hlen
  refine Sat_of T3 c_slices_Index_string_ok (by kernel_rfl) ?_
  conv => whnf
  refine loopI (P := Pg) (f := T3.f) (body := c_slices_Index_string_L0) l.length (fun i => ⟨[(0, .w (strsC l)), (1, .w (.c (str s))), (7, intV (strsD l).length), (8, intV i)], []⟩)
    (fun i => findI (fun x => beqS s x) 0 l = findI (fun x => beqS s x) i (l.drop i)) ⟨rfl, normW_of ?_⟩ ?_
  · conv => whnf
    rfl
  · intro i hi hR
    conv => whnf
    refine cond_i (fun h1 => ?_) (fun h1 => ?_)
    · have hlt : i < l.length := by have := of_decide_eq_true h1; rw [strsD_len] at this; omega
      rw [drop_cons hlt] at hR
      conv => whnf
      refine ⟨by omega, _, strsD_get hlt, rfl, ?_⟩
      conv => whnf
      refine cond_i (fun h3 => ?_) (fun h3 => ?_)
      · simp only [findI, h3, cond_true] at hR
        conv => whnf
        exact congrArg rI hR.symm
      · simp only [findI, h3, cond_false] at hR
        conv => whnf
        refine ⟨hlt, hR, normW_of ?_⟩
        conv => whnf
        rw [wrapS hlt hlen]
        rfl
    · have hge : l.length ≤ i := by have := of_decide_eq_false h1; rw [strsD_len] at this; omega
      rw [List.drop_eq_nil_of_le hge] at hR
      conv => whnf
      exact congrArg rI hR.symm

def hasB (l : List ByteArray) (s : ByteArray) : Bool := l.any fun x => beqS s x
theorem findI_ge {α : Type} (p : α → Bool) : ∀ (l : List α) (i : Nat), decide (findI p (i : Int) l ≥ 0) = l.any p
  | [], i => by simp only [findI, List.any_nil]; exact decide_eq_false (by omega)
  | x :: r, i => by
    simp only [findI, List.any_cons]
    by_cases h : p x = true
    · simp only [h, cond_true, Bool.true_or]
      exact decide_eq_true (by omega)
    · simp only [Bool.not_eq_true] at h
      simp only [h, cond_false, Bool.false_or]
      exact findI_ge p r (i + 1)
theorem sat_Contains_string (l : List ByteArray) (s : ByteArray) : Sat Pg k_slices_Contains_string [strsC l, .c (str s)] (fun r => r = rB (hasB l s)) := by
  refine Sat_of T3 c_slices_Contains_string_ok (by kernel_rfl) ?_
  conv => whnf
  refine Sat.mono (sat_Index_string l s) ?_
  rintro _ rfl
  conv => whnf
  exact congrArg rB (findI_ge _ l 0)

def idBad (c : Int) : Bool := ((decide (c < 97) || decide (c > 122)) && (decide (c < 48) || decide (c > 57))) && (c != 95)
def idL : List UInt8 → Bool
  | [] => true
  | c :: r => bif idBad c.toNat then false else idL r
def kws : List ByteArray := [⟨#[97, 110, 100]⟩, ⟨#[111, 114]⟩, ⟨#[110, 111, 116]⟩, ⟨#[110, 117, 108, 108]⟩, ⟨#[116, 114, 117, 101]⟩, ⟨#[102, 97, 108, 115, 101]⟩]
def byte0 (s : ByteArray) : Int := (s.data.toList.getD 0 0).toNat
def identB (s : ByteArray) : Bool := bif beqS s ⟨#[]⟩ || decide ((s.size : Int) > 40) || decide (byte0 s < 97) || decide (byte0 s > 122) then false else bif !idL s.data.toList then false else !hasB kws s

theorem size_pos {s : ByteArray} (h : beqS s ⟨#[]⟩ = false) : 0 < s.size := by
  rcases Nat.eq_zero_or_pos s.size with e | e
  · have : s = ⟨#[]⟩ := by
      obtain ⟨d⟩ := s
      have : d = #[] := Array.eq_empty_of_size_eq_zero e
      rw [this]
    rw [this, beqS_self] at h
    cases h
  · exact e
theorem sat_identifier (s : ByteArray) : Sat Pg k_syntax_identifier [.c (str s)] (fun r => r = rB (identB s)) := by
  unfold identB
  refine Sat_of T3 c_syntax_identifier_ok (by kernel_rfl) ?_
  conv => whnf
  have key : (!(beqS s ⟨#[]⟩ || decide ((s.size : Int) > 40))) = true → 0 < s.size := fun h => by
    simp only [Bool.not_eq_true', Bool.or_eq_false_iff] at h
    exact size_pos h.1
  refine ⟨fun h => ⟨⟨by omega, by have := key h; omega⟩, trivial⟩, ?_⟩
  conv => whnf
  refine ⟨fun h => ⟨⟨by omega, by
    have h : (!((beqS s ⟨#[]⟩ || decide ((s.size : Int) > 40)) || decide (byte0 s < 97))) = true := h
    have := key (by rw [Bool.not_eq_true', Bool.or_eq_false_iff] at h; rw [h.1]; rfl)
    omega⟩, trivial⟩, ?_⟩
  conv => whnf
  refine cond_i (fun h => ?_) (fun h => ?_)
  · have h : (beqS s ⟨#[]⟩ || decide ((s.size : Int) > 40) || decide (byte0 s < 97) || decide (byte0 s > 122)) = true := h
    conv => whnf
    rw [h]; rfl
  · have h : (beqS s ⟨#[]⟩ || decide ((s.size : Int) > 40) || decide (byte0 s < 97) || decide (byte0 s > 122)) = false := h
    rw [h]
    simp only [Bool.or_eq_false_iff, decide_eq_false_iff_not] at h
    have hsz : (s.size : Int) ≤ 40 := by omega
    simp only [cond_false]
    conv => whnf
    refine loopI (P := Pg) (f := T3.f) (body := c_syntax_identifier_L0) s.size (fun i => ⟨[(0, .w (.c (str s))), (23, intV s.size), (24, intV i)], []⟩) (fun i => idL s.data.toList = idL (s.data.toList.drop i)) ⟨rfl, normW_of ?_⟩ ?_
    · conv => whnf
      rfl
    · intro i hi hR
      conv => whnf
      refine cond_i (fun h1 => ?_) (fun h1 => ?_)
      · have hlt : i < s.size := by have := of_decide_eq_true h1; omega
        have hlt' : i < s.data.toList.length := by rw [size_list]; exact hlt
        rw [drop_cons hlt'] at hR
        conv => whnf
        refine ⟨⟨by omega, by omega⟩, ?_⟩
        have hb : s.data.toList.getD ((i : Int)).toNat 0 = s.data.toList[i] := by simp [List.getD, List.getElem?_eq_getElem hlt']
        rw [hb]
        generalize s.data.toList[i] = b at hR
        conv => whnf
        refine cond_i (fun h2 => ?_) (fun h2 => ?_)
        · have h2 : idBad b.toNat = true := h2
          simp only [idL, h2, cond_true] at hR
          conv => whnf
          rw [hR]; rfl
        · have h2 : idBad b.toNat = false := h2
          simp only [idL, h2, cond_false] at hR
          conv => whnf
          refine ⟨hlt, hR, normW_of ?_⟩
          conv => whnf
          rw [wrapS hlt (by omega)]
          rfl
      · have hge : s.size ≤ i := by have := of_decide_eq_false h1; omega
        rw [List.drop_eq_nil_of_le (by rw [size_list]; exact hge)] at hR
        conv => whnf
        refine Sat.mono (sat_Contains_string kws s) ?_
        rintro _ rfl
        conv => whnf
        rw [hR]; rfl
end Go.Proofs.YtcajnlkkjdhjdaaGreat

namespace Go.Proofs.YtcajnlkkjdhjdaaGreat
open Go Go.AM
attribute [local irreducible] Sat SatH LoopP
set_option maxRecDepth 100000

def arityI (s : ByteArray) : Int :=
  bif beqS s ⟨#[109, 105, 110]⟩ || (beqS s ⟨#[109, 97, 120]⟩ || (beqS s ⟨#[104, 97, 115]⟩ || beqS s ⟨#[115, 116, 97, 114, 116, 115]⟩)) then 2 else
  bif beqS s ⟨#[97, 98, 115]⟩ || beqS s ⟨#[108, 101, 110]⟩ then 1 else 0
theorem sat_arity (s : ByteArray) : Sat Pg k_syntax_arity [.c (str s)] (fun r => r = rI (arityI s)) := by
  unfold arityI
  refine Sat_of T3 c_syntax_arity_ok (by kernel_rfl) ?_
  repeat' (conv => whnf
           refine cond_i (fun h => ?_) (fun h => ?_))
  all_goals refine congrArg rI ?_
  all_goals first | (simp only [*, cond_true, cond_false]; done) | (simp_all only [Bool.false_eq_true, cond_true, cond_false]; done) | (simp_all; done)

def conBad (c : Int) : Bool := (decide (c < 32) || decide (c > 126)) || (c == 34)
def conL : List UInt8 → Int
  | [] => 0
  | c :: r => bif conBad c.toNat then 10 else conL r
def conErr (v : Val) : Int := bif valErr v.k v != 0 then valErr v.k v else conL v.s.data.toList
theorem bif_ne' {b : Bool} {x y : Int} (hx : x ≠ 0) (h : (bif b then x else y) = 0) : b = false ∧ y = 0 := by
  cases b
  · exact ⟨rfl, h⟩
  · exact absurd h hx
theorem valErr_size {k : Int} {v : Val} (h : (valErr k v != 0) = false) : (v.s.size : Int) ≤ 200 := by
  rw [bne_eq_false_iff_eq] at h
  unfold valErr at h
  obtain ⟨_, h⟩ := bif_ne' (by omega) h
  obtain ⟨_, h⟩ := bif_ne' (by omega) h
  obtain ⟨_, h⟩ := bif_ne' (by omega) h
  obtain ⟨h1, h⟩ := bif_ne' (by omega) h
  obtain ⟨h2, _⟩ := bif_ne' (by omega) h
  by_cases e : v.k = 3
  · rw [show (v.k == 3) = true by simpa using e, Bool.true_and, decide_eq_false_iff_not] at h1
    omega
  · rw [show (v.k != 3) = true by simpa using e, Bool.true_and, Bool.not_eq_false'] at h2
    rw [(AM.beqS_iff _ _).1 h2]
    decide
theorem sat_constant (v : Val) : Sat Pg k_syntax_constant [v.w] (fun r => r = rI (conErr v)) := by
  obtain ⟨k, n, s⟩ := v
  unfold conErr
  refine Sat_of T3 c_syntax_constant_ok (by kernel_rfl) ?_
  conv => whnf
  refine cond_i (fun h => ?_) (fun h => ?_)
  · have h : (valErr k ⟨k, n, s⟩ != 0) = true := h
    conv => whnf
    rw [h]; rfl
  · have h : (valErr k ⟨k, n, s⟩ != 0) = false := h
    have hsz : (s.size : Int) ≤ 200 := valErr_size h
    simp only [h, cond_false]
    conv => whnf
    refine loopI (P := Pg) (f := T3.f) (body := c_syntax_constant_L0) s.size (fun i => ⟨[(1, cV (.ptr 1 0)), (15, intV s.size), (16, intV i)], [(1, .box [int k, int n, str s])]⟩) (fun i => conL s.data.toList = conL (s.data.toList.drop i)) ⟨rfl, normW_of ?_⟩ ?_
    · conv => whnf
      rfl
    · intro i hi hR
      conv => whnf
      refine cond_i (fun h1 => ?_) (fun h1 => ?_)
      · have hlt : i < s.size := by have := of_decide_eq_true h1; omega
        have hlt' : i < s.data.toList.length := by rw [size_list]; exact hlt
        rw [drop_cons hlt'] at hR
        conv => whnf
        refine ⟨⟨by omega, by omega⟩, ?_⟩
        have hb : s.data.toList.getD ((i : Int)).toNat 0 = s.data.toList[i] := by simp [List.getD, List.getElem?_eq_getElem hlt']
        rw [hb]
        generalize s.data.toList[i] = b at hR
        conv => whnf
        refine cond_i (fun h2 => ?_) (fun h2 => ?_)
        · have h2 : conBad b.toNat = true := h2
          simp only [conL, h2, cond_true] at hR
          conv => whnf
          rw [hR]; rfl
        · have h2 : conBad b.toNat = false := h2
          simp only [conL, h2, cond_false] at hR
          conv => whnf
          refine ⟨hlt, hR, normW_of ?_⟩
          conv => whnf
          rw [wrapS hlt (by omega)]
          rfl
      · have hge : s.size ≤ i := by have := of_decide_eq_false h1; omega
        rw [List.drop_eq_nil_of_le (by rw [size_list]; exact hge)] at hR
        conv => whnf
        rw [hR]; rfl

def sizeE (n least : Int) : Int := bif decide (n < least) then 8 else bif decide (n > 16) then 7 else 0
theorem sat_size (n least : Int) : Sat Pg k_syntax_size [.c (int n), .c (int least)] (fun r => r = rI (sizeE n least)) := by
  unfold sizeE
  refine Sat_of T3 c_syntax_size_ok (by kernel_rfl) ?_
  repeat' (conv => whnf
           refine cond_i (fun h => ?_) (fun h => ?_))
  all_goals refine congrArg rI ?_
  all_goals first | (simp only [*, cond_true, cond_false]; done) | (simp_all only [Bool.false_eq_true, cond_true, cond_false]; done) | (simp_all; done)

def T4f (k : FuncId) (l : List W) : Option W :=
  match l with
  | [.c (.d (.lit (.string s)))] => bif Nat.beq k k_syntax_identifier then some (.c (bool (identB s))) else bif Nat.beq k k_syntax_arity then some (.c (int (arityI s))) else T3f k l
  | [.c (.d (.lit (.int .i64 m))), .c (.d (.lit (.int .i64 n)))] => bif Nat.beq k k_syntax_size then some (.c (int (sizeE m n))) else T3f k l
  | [.agg [.d (.lit (.int .i64 k1)), .d (.lit (.int .i64 n)), .d (.lit (.string s))]] => bif Nat.beq k k_syntax_constant then some (.c (int (conErr ⟨k1, n, s⟩))) else none
  | _ => T3f k l
theorem T4ok (k : FuncId) (l : List W) (w : W) (h : T4f k l = some w) : Sat Pg k l (fun r => r = ⟨.w w, []⟩) := by
  unfold T4f at h
  split at h
  · rcases bif_some h with ⟨h1, rfl⟩ | ⟨_, h⟩
    · rw [Nat.eq_of_beq_eq_true h1]; exact sat_identifier _
    · rcases bif_some h with ⟨h1, rfl⟩ | ⟨_, h⟩
      · rw [Nat.eq_of_beq_eq_true h1]; exact sat_arity _
      · exact T3ok k _ w h
  · rcases bif_some h with ⟨h1, rfl⟩ | ⟨_, h⟩
    · rw [Nat.eq_of_beq_eq_true h1]; exact sat_size _ _
    · exact T3ok k _ w h
  · rcases bif_some h with ⟨h1, rfl⟩ | ⟨_, h⟩
    · rw [Nat.eq_of_beq_eq_true h1]; exact sat_constant ⟨_, _, _⟩
    · cases h
  · exact T3ok k l w h
def T4 : Tab Pg := ⟨T4f, T4ok⟩

def nodeTail (op : Int) (nm : ByteArray) (v : Val) (nk kids : Int) (name vv : Bool) : Int :=
  bif (nk != kids) || ((!beqS nm ⟨#[]⟩ && !name) || (!eqV v ⟨0, 0, ⟨#[]⟩⟩ && !vv)) then 1 else
  bif vv then conErr v else bif name && !identB nm then 3 else bif op == 16 && arityI nm == 0 then 5 else bif op == 16 && arityI nm != kids then 1 else 0
def nodeErr (op : Int) (nm : ByteArray) (v : Val) (nk : Int) : Int :=
  bif op == 1 then nodeTail op nm v nk 0 false true else bif op == 2 then nodeTail op nm v nk 0 true false else
  bif op == 3 || op == 4 then nodeTail op nm v nk 1 false false else bif op == 16 then nodeTail op nm v nk nk true false else
  bif decide (op < 5) || decide (op > 15) then 1 else nodeTail op nm v nk 2 false false

inductive Ex where
  | mk (op : Int) (nm : ByteArray) (v : Val) (ks : List Ex)
mutual
def Ex.ds : Ex → List D
  | .mk op nm v ks => [.lit (.int .i64 op), .lit (.string nm), .lit (.int .i64 v.k), .lit (.int .i64 v.n), .lit (.string v.s), .sl (exsD ks)]
def exsD : List Ex → List (List D)
  | [] => []
  | e :: r => e.ds :: exsD r
end
def Ex.cs : Ex → List C
  | .mk op nm v ks => [int op, str nm, int v.k, int v.n, str v.s, .d (.sl (exsD ks))]
def Ex.w (e : Ex) : W := .agg e.cs
def Ex.err1 : Ex → Int
  | .mk op nm v ks => nodeErr op nm v ks.length
theorem exsD_map : ∀ l : List Ex, exsD l = l.map Ex.ds
  | [] => rfl
  | e :: r => by simp only [exsD, List.map_cons, exsD_map r]
theorem exsD_len (l : List Ex) : (exsD l).length = l.length := by simp [exsD_map]
theorem exsD_get {r : List Ex} {i : Nat} (h : i < r.length) : (exsD r)[((i : Int)).toNat]? = some (r[i]).ds := by simp [exsD_map, List.getElem?_eq_getElem h]

theorem sat_node (e : Ex) : Sat Pg k_syntax_node [e.w] (fun r => r = rI e.err1) := by
  obtain ⟨op, nm, ⟨vk, vn, vs⟩, ks⟩ := e
  show Sat Pg k_syntax_node [.agg [int op, str nm, int vk, int vn, str vs, .d (.sl (exsD ks))]] (fun r => r = rI (nodeErr op nm ⟨vk, vn, vs⟩ ks.length))
  rw [← exsD_len]
  refine Sat_of T4 c_syntax_node_ok (by kernel_rfl) ?_
  generalize (exsD ks) = nk
  repeat' (conv => whnf
           refine cond_i (fun h => ?_) (fun h => ?_))
  all_goals refine congrArg rI ?_
  all_goals unfold nodeErr nodeTail eqV
  all_goals generalize ((List.length nk : Nat) : Int) = m at *
  all_goals try simp only [cond_true, cond_false, Bool.true_or, Bool.false_or, Bool.or_true, Bool.or_false, Bool.and_true, Bool.and_false, Bool.true_and, Bool.false_and, Bool.not_true, Bool.not_false, bne_self_eq_false, beq_self_eq_true, Bool.false_eq_true, Bool.true_eq_false, reduceCtorEq] at *
  all_goals first | done | (simp only [*, cond_true, cond_false, Bool.true_or, Bool.false_or, Bool.or_true, Bool.or_false, Bool.and_true, Bool.and_false, Bool.true_and, Bool.false_and, Bool.not_true, Bool.not_false, bne_self_eq_false, beq_self_eq_true, Bool.false_eq_true, Bool.true_eq_false, reduceCtorEq]; done) | (simp_all only [cond_true, cond_false, Bool.true_or, Bool.false_or, Bool.or_true, Bool.or_false, Bool.and_true, Bool.and_false, Bool.true_and, Bool.false_and, Bool.not_true, Bool.not_false, bne_self_eq_false, beq_self_eq_true, Bool.false_eq_true, Bool.true_eq_false, reduceCtorEq]; done) | skip
end Go.Proofs.YtcajnlkkjdhjdaaGreat

namespace Go.Proofs.YtcajnlkkjdhjdaaGreat
open Go Go.AM
attribute [local irreducible] Sat SatH LoopP
set_option maxRecDepth 100000

mutual
def Ex.meas : Ex → Int → Int × Int
  | .mk _ _ _ ks, n => ((measL ks (n + 1) 0).1, (measL ks (n + 1) 0).2 + 1)
def measL : List Ex → Int → Int → Int × Int
  | [], n, d => (n, d)
  | k :: r, n, d => bif decide (n > 200) then (n, d) else measL r (k.meas n).1 (mmI true d (k.meas n).2)
end
def Ex.ks : Ex → List Ex
  | .mk _ _ _ ks => ks
theorem mmI_t (a b : Int) : mmI true a b = max a b := by
  show (if b > a then b else a) = _
  omega
theorem measL_bnd : ∀ (ks : List Ex) (n d : Int), n ≤ 201 → (∀ k ∈ ks, ∀ n : Int, n ≤ 200 → n + 1 ≤ (k.meas n).1 ∧ (k.meas n).1 ≤ 201 ∧ 1 ≤ (k.meas n).2 ∧ (k.meas n).2 ≤ (k.meas n).1 - n) →
    n ≤ (measL ks n d).1 ∧ (measL ks n d).1 ≤ 201 ∧ d ≤ (measL ks n d).2 ∧ (measL ks n d).2 ≤ max d ((measL ks n d).1 - n)
  | [], n, d, hn, _ => by simp only [measL]; omega
  | k :: r, n, d, hn, h => by
    simp only [measL]
    by_cases e : n > 200
    · rw [decide_eq_true e, cond_true]; simp only; omega
    · rw [decide_eq_false e, cond_false]
      have h1 := h k (List.mem_cons_self ..) n (by omega)
      have h2 := measL_bnd r (k.meas n).1 (mmI true d (k.meas n).2) h1.2.1 (fun x hx => h x (List.mem_cons_of_mem _ hx))
      rw [mmI_t] at h2 ⊢
      omega
theorem meas_bnd : ∀ (e : Ex) (n : Int), n ≤ 200 → n + 1 ≤ (e.meas n).1 ∧ (e.meas n).1 ≤ 201 ∧ 1 ≤ (e.meas n).2 ∧ (e.meas n).2 ≤ (e.meas n).1 - n
  | .mk op nm v ks, n, hn => by
    have h := measL_bnd ks (n + 1) 0 (by omega) (fun k hk n hn => meas_bnd k n hn)
    simp only [Ex.meas]
    omega
theorem exs_step {ks : List Ex} {i : Nat} (h : i < ks.length) (n d : Int) : measL (ks.drop i) n d = bif decide (n > 200) then (n, d) else measL (ks.drop (i + 1)) (ks[i].meas n).1 (mmI true d (ks[i].meas n).2) := by
  rw [drop_cons h]; rfl

def measS (ks : List Ex) (i : Nat) (n d : Int) : S := ⟨[(1, intV n), (6, intV d), (13, .w (.c (.d (.sl (exsD ks))))), (14, intV (exsD ks).length), (15, intV i)], []⟩
def rMeas (x : Int × Int) : Res := ⟨.tup [.c (int x.1), .c (int x.2)], []⟩
theorem exs_bnd {op : Int} {nm : ByteArray} {v : Val} {ks : List Ex} (h : bndW (Ex.mk op nm v ks).w) : ks.length ≤ 9223372036854775807 := by
  have := h (.d (.sl (exsD ks))) (by simp [Ex.cs])
  simp only [bndC, bnd] at this
  rw [← exsD_len]; exact this.1
theorem sat_measure (e : Ex) (n : Int) (h0 : 0 ≤ n) (hn : n ≤ 200) : Sat Pg k_syntax_measure [e.w, .c (int n)] (fun r => r = rMeas (e.meas n)) := by
  obtain ⟨op, nm, v, ks⟩ := e
  have ih : ∀ k ∈ ks, ∀ n : Int, 0 ≤ n → n ≤ 200 → Sat Pg k_syntax_measure [k.w, .c (int n)] (fun r => r = rMeas (k.meas n)) := fun k hk n h0 hn => sat_measure k n h0 hn
  refine sat_bnd (by kernel_rfl) fun hb => ?_
  have hlen := exs_bnd (hb _ (List.mem_cons_self ..))
  have hq : ∀ m d : Int, measL ks (n + 1) 0 = (m, d) → rMeas (Ex.meas (.mk op nm v ks) n) = rMeas (m, d + 1) := fun m d h => by simp only [Ex.meas, h]
  refine Sat_of T4 c_syntax_measure_ok (by kernel_rfl) ?_
  conv => whnf
  refine loopF (P := Pg) (f := T4.f) (body := c_syntax_measure_L0) (fun x : Nat × Int × Int => measS ks x.1 x.2.1 x.2.2) (fun x => ks.length - x.1) (fun x => x.1 ≤ ks.length ∧ 0 ≤ x.2.1 ∧ x.2.1 ≤ 201 ∧ 0 ≤ x.2.2 ∧ x.2.2 ≤ 201 ∧ measL ks (n + 1) 0 = measL (ks.drop x.1) x.2.1 x.2.2)
    ⟨(0, n + 1, 0), ⟨Nat.zero_le _, by show 0 ≤ n + 1; omega, by show n + 1 ≤ 201; omega, by show (0 : Int) ≤ 0; omega, by show (0 : Int) ≤ 201; omega, rfl⟩, normW_of ?_⟩ ?_
  · conv => whnf
    rw [wrapI (by omega) (by omega)]
    rfl
  · rintro ⟨i, n1, d1⟩ hx
    obtain ⟨hi, hn0, hn1, hd0, hd1, hR⟩ : i ≤ ks.length ∧ 0 ≤ n1 ∧ n1 ≤ 201 ∧ 0 ≤ d1 ∧ d1 ≤ 201 ∧ measL ks (n + 1) 0 = measL (ks.drop i) n1 d1 := hx
    have wd : IntKind.i64.wrap (d1 + 1) = d1 + 1 := wrapI (by omega) (by omega)
    conv => whnf
    refine cond_i (fun h1 => ?_) (fun h1 => ?_)
    · have hlt : i < ks.length := by have := of_decide_eq_true h1; rw [exsD_len] at this; omega
      rw [exs_step hlt] at hR
      have hg : (exsD ks)[((i : Int)).toNat]? = some (ks[i]).ds := exsD_get hlt
      have hm : ks[i] ∈ ks := List.getElem_mem hlt
      generalize ks[i] = k at *
      have ihk := ih k hm n1 hn0
      have hbk := meas_bnd k n1
      obtain ⟨op1, nm1, v1, ks1⟩ := k
      conv => whnf
      refine ⟨by omega, _, hg, rfl, ?_⟩
      conv => whnf
      refine cond_i (fun h2 => ?_) (fun h2 => ?_)
      · have h2 : decide (n1 > 200) = true := h2
        rw [h2, cond_true] at hR
        rw [hq _ _ hR]
        conv => whnf
        exact congrArg (fun x => rMeas (n1, x)) wd
      · have h2 : decide (n1 > 200) = false := h2
        rw [h2, cond_false] at hR
        have h2 := of_decide_eq_false h2
        have hbk := hbk (by omega)
        conv => whnf
        refine Sat.mono (ihk (by omega)) ?_
        rintro _ rfl
        conv => whnf
        refine ⟨(i + 1, (Ex.meas (.mk op1 nm1 v1 ks1) n1).1, mmI true d1 (Ex.meas (.mk op1 nm1 v1 ks1) n1).2), ⟨⟨by show i + 1 ≤ _; omega, by show 0 ≤ (Ex.meas _ n1).1; omega, by show (Ex.meas _ n1).1 ≤ 201; omega, ?_, ?_, hR⟩, by show ks.length - (i + 1) < ks.length - i; omega⟩, normW_of ?_⟩
        · show 0 ≤ mmI true d1 _
          rw [mmI_t]; omega
        · show mmI true d1 _ ≤ 201
          rw [mmI_t]; omega
        · conv => whnf
          rw [wrapS hlt hlen]
          rfl
    · have hge : ks.length ≤ i := by have := of_decide_eq_false h1; rw [exsD_len] at this; omega
      rw [List.drop_eq_nil_of_le hge] at hR
      rw [hq _ _ hR]
      conv => whnf
      exact congrArg (fun x => rMeas (n1, x)) wd
termination_by SizeOf.sizeOf e
decreasing_by
  simp_wf
  have := List.sizeOf_lt_of_mem hk
  omega

mutual
def Ex.err : Ex → Int
  | .mk op nm v ks => bif nodeErr op nm v ks.length != 0 then nodeErr op nm v ks.length else errL ks
def errL : List Ex → Int
  | [] => 0
  | k :: r => bif k.err != 0 then k.err else errL r
end
theorem errL_step {ks : List Ex} {i : Nat} (h : i < ks.length) : errL (ks.drop i) = bif ks[i].err != 0 then ks[i].err else errL (ks.drop (i + 1)) := by
  rw [drop_cons h]; rfl
theorem sat_nodes (e : Ex) : Sat Pg k_syntax_nodes [e.w] (fun r => r = rI e.err) := by
  have hnode := sat_node e
  obtain ⟨op, nm, v, ks⟩ := e
  have ih : ∀ k ∈ ks, Sat Pg k_syntax_nodes [k.w] (fun r => r = rI k.err) := fun k hk => sat_nodes k
  refine sat_bnd (by kernel_rfl) fun hb => ?_
  have hlen := exs_bnd (hb _ (List.mem_cons_self ..))
  simp only [Ex.err]
  refine Sat_of T4 c_syntax_nodes_ok (by kernel_rfl) ?_
  conv => whnf
  refine Sat.mono (hnode) ?_
  rintro _ rfl
  conv => whnf
  refine cond_i (fun h => ?_) (fun h => ?_)
  · have h : (nodeErr op nm v ks.length != 0) = true := h
    conv => whnf
    rw [h]; rfl
  · have h : (nodeErr op nm v ks.length != 0) = false := h
    rw [h]
    simp only [cond_false]
    conv => whnf
    refine loopI (P := Pg) (f := T4.f) (body := c_syntax_nodes_L0) ks.length (fun i => ⟨[(13, .w (.c (.d (.sl (exsD ks))))), (14, intV (exsD ks).length), (15, intV i)], []⟩) (fun i => errL ks = errL (ks.drop i)) ⟨rfl, normW_of ?_⟩ ?_
    · conv => whnf
      rfl
    · intro i hi hR
      conv => whnf
      refine cond_i (fun h1 => ?_) (fun h1 => ?_)
      · have hlt : i < ks.length := by have := of_decide_eq_true h1; rw [exsD_len] at this; omega
        rw [errL_step hlt] at hR
        have hg : (exsD ks)[((i : Int)).toNat]? = some (ks[i]).ds := exsD_get hlt
        have hm : ks[i] ∈ ks := List.getElem_mem hlt
        generalize ks[i] = k at *
        have ihk := ih k hm
        obtain ⟨op1, nm1, v1, ks1⟩ := k
        conv => whnf
        refine ⟨by omega, _, hg, rfl, ?_⟩
        conv => whnf
        refine Sat.mono (ihk) ?_
        rintro _ rfl
        conv => whnf
        generalize (Ex.err (.mk op1 nm1 v1 ks1)) = x at *
        refine cond_i (fun h2 => ?_) (fun h2 => ?_)
        · have h2 : (x != 0) = true := h2
          rw [h2, cond_true] at hR
          conv => whnf
          rw [hR]
          rfl
        · have h2 : (x != 0) = false := h2
          rw [h2, cond_false] at hR
          conv => whnf
          refine ⟨hlt, hR, normW_of ?_⟩
          conv => whnf
          rw [wrapS hlt hlen]
          rfl
      · have hge : ks.length ≤ i := by have := of_decide_eq_false h1; rw [exsD_len] at this; omega
        rw [List.drop_eq_nil_of_le hge] at hR
        conv => whnf
        rw [hR]; rfl
termination_by SizeOf.sizeOf e
decreasing_by
  simp_wf
  have := List.sizeOf_lt_of_mem hk
  omega

def Ex.chk (e : Ex) : Int := bif decide ((e.meas 0).1 > 200) then 7 else bif decide ((e.meas 0).2 > 16) then 20 else e.err
theorem sat_Expr (e : Ex) : Sat Pg k_syntax_Expr [e.w] (fun r => r = rI e.chk) := by
  have h1 := sat_measure e 0 (by omega) (by omega)
  have h2 := sat_nodes e
  unfold Ex.chk
  obtain ⟨op, nm, v, ks⟩ := e
  refine Sat_of T4 c_syntax_Expr_ok (by kernel_rfl) ?_
  conv => whnf
  refine Sat.mono (h1) ?_
  rintro _ rfl
  generalize (Ex.meas (.mk op nm v ks) 0) = m at *
  obtain ⟨m1, m2⟩ := m
  conv => whnf
  refine cond_i (fun k1 => ?_) (fun k1 => ?_)
  · have k1 : decide (m1 > 200) = true := k1
    conv => whnf
    rw [k1]; rfl
  · have k1 : decide (m1 > 200) = false := k1
    conv => whnf
    refine cond_i (fun k2 => ?_) (fun k2 => ?_)
    · have k2 : decide (m2 > 16) = true := k2
      conv => whnf
      rw [k1, k2]; rfl
    · have k2 : decide (m2 > 16) = false := k2
      conv => whnf
      refine Sat.mono (h2) ?_
      rintro _ rfl
      conv => whnf
      rw [k1, k2]; rfl
end Go.Proofs.YtcajnlkkjdhjdaaGreat

namespace Go.Proofs.YtcajnlkkjdhjdaaGreat
open Go Go.AM
attribute [local irreducible] Sat SatH LoopP
set_option maxRecDepth 100000

/-- The places of a list of names: nil, or a slice of its own. -/
def lstP : List ByteArray → List Pl
  | [] => [.box [.nil]]
  | s :: l => [.box [.own 1 1 (s :: l).length], .arr 1 (strsD (s :: l)) false]
def addErr (l : List ByteArray) (s : ByteArray) : Int := bif !identB s then 3 else bif hasB l s then 4 else 0
def addP (l : List ByteArray) (s : ByteArray) : List Pl :=
  match l with
  | [] => [.box [.own 1 1 1], .arr 1 (strsD [s]) false]
  | x :: r => [.box [.own 2 1 ((x :: r).length + 1)], .gone, .arr 1 (strsD ((x :: r) ++ [s])) false]
def addR (l : List ByteArray) (s : ByteArray) : Res := ⟨.w (.c (int (addErr l s))), bif addErr l s != 0 then lstP l else addP l s⟩
theorem addErr_3 {l : List ByteArray} {s : ByteArray} (h : (!identB s) = true) : addErr l s = 3 := by unfold addErr; rw [h]; rfl
theorem addErr_4 {l : List ByteArray} {s : ByteArray} (h : (!identB s) = false) (h2 : hasB l s = true) : addErr l s = 4 := by unfold addErr; rw [h, h2]; rfl
theorem addErr_0 {l : List ByteArray} {s : ByteArray} (h : (!identB s) = false) (h2 : hasB l s = false) : addErr l s = 0 := by unfold addErr; rw [h, h2]; rfl
theorem strsD_sz (l : List ByteArray) : ∀ y ∈ strsD l, y.length = 1 := by
  intro y hy
  obtain ⟨r, _, rfl⟩ := List.mem_map.1 hy
  rfl
theorem sat_add (l : List ByteArray) (s : ByteArray) (hl : l.length ≤ 1000000) : SatH Pg k_syntax_list_add [.c (.ptr 0 0), .c (str s)] (lstP l) (fun r => r = addR l s) := by
  cases l with
  | nil =>
    unfold addR
    refine SatH_of T4 c_syntax_list_add_ok (by kernel_rfl) (Nat.le_of_ble_eq_true rfl) ?_
    conv => whnf
    refine cond_i (fun h => ?_) (fun h => ?_)
    · have h : (!identB s) = true := h
      conv => whnf
      rw [addErr_3 h]; rfl
    · have h : (!identB s) = false := h
      conv => whnf
      refine Sat.mono (sat_Contains_string [] s) ?_
      rintro _ rfl
      conv => whnf
      refine ⟨by simp, by unfold fits; simp, by simp, ?_⟩
      conv => whnf
      rw [addErr_0 h rfl]
      rfl
  | cons x r =>
    unfold addR
    have htk : (strsD (x :: r)).take ((x :: r).length) = strsD (x :: r) := by rw [← strsD_len, List.take_length]
    refine SatH_of T4 c_syntax_list_add_ok (by kernel_rfl) (Nat.le_of_ble_eq_true rfl) ?_
    conv => whnf
    refine cond_i (fun h => ?_) (fun h => ?_)
    · have h : (!identB s) = true := h
      conv => whnf
      rw [addErr_3 h]; rfl
    · have h : (!identB s) = false := h
      conv => whnf
      have hc := sat_Contains_string (x :: r) s
      unfold strsC at hc
      rw [← htk] at hc
      refine Sat.mono (hc) ?_
      rintro _ rfl
      conv => whnf
      refine cond_i (fun h2 => ?_) (fun h2 => ?_)
      · have h2 : hasB (x :: r) s = true := h2
        conv => whnf
        rw [addErr_4 h h2]; rfl
      · have h2 : hasB (x :: r) s = false := h2
        conv => whnf
        refine ⟨by simp, by unfold fits; simp at hl ⊢; omega, by simp at hl ⊢; omega, ?_⟩
        conv => whnf
        rw [addErr_0 h h2]
        show _ = (⟨_, [.box [.own 2 1 ((x :: r).length + 1)], .gone, .arr 1 (strsD ((x :: r) ++ [s])) false]⟩ : Res)
        rw [show strsD ((x :: r) ++ [s]) = (strsD (x :: r)).take ((x :: r).length) ++ strsD [s] by rw [htk]; simp [strsD]]
        rfl

def allErr : List ByteArray → List ByteArray → Int
  | _, [] => 0
  | acc, s :: r => bif addErr acc s != 0 then addErr acc s else allErr (acc ++ [s]) r
def allAcc : List ByteArray → List ByteArray → List ByteArray
  | acc, [] => acc
  | acc, s :: r => bif addErr acc s != 0 then acc else allAcc (acc ++ [s]) r
def allR (acc l : List ByteArray) : Res := ⟨.w (.c (int (allErr acc l))), lstP (allAcc acc l)⟩
theorem allR_stop {acc r : List ByteArray} {s : ByteArray} (h : (addErr acc s != 0) = true) : allR acc (s :: r) = ⟨.w (.c (int (addErr acc s))), lstP acc⟩ := by
  simp only [allR, allErr, allAcc, h, cond_true]
theorem allR_go {acc r : List ByteArray} {s : ByteArray} (h : (addErr acc s != 0) = false) : allR acc (s :: r) = allR (acc ++ [s]) r := by
  simp only [allR, allErr, allAcc, h, cond_false]
def allS (l : List ByteArray) (i : Nat) : List ByteArray → S
  | [] => ⟨[(0, cV (.ptr 100000 0)), (8, .w (strsC l)), (9, intV (strsD l).length), (10, intV i)], [(100000, .box [.nil])]⟩
  | x :: r => ⟨[(0, cV (.ptr 100000 0)), (8, .w (strsC l)), (9, intV (strsD l).length), (10, intV i)], [(100000, .box [.own 600256 1 (x :: r).length]), (600256, .arr 1 (strsD (x :: r)) false)]⟩
theorem take_snoc {α : Type} {l : List α} {i : Nat} (h : i < l.length) : l.take (i + 1) = l.take i ++ [l[i]] := List.take_succ_eq_append_getElem h
theorem sat_all (l : List ByteArray) (hl : l.length ≤ 1000) : SatH Pg k_syntax_list_all [.c (.ptr 0 0), strsC l] [.box [.nil]] (fun r => r = allR [] l) := by
  refine SatH_of T4 c_syntax_list_all_ok (by kernel_rfl) (Nat.le_of_ble_eq_true rfl) ?_
  conv => whnf
  refine loopF (P := Pg) (f := T4.f) (body := c_syntax_list_all_L0) (fun x : Nat × List ByteArray => allS l x.1 x.2) (fun x => l.length - x.1) (fun x => x.1 ≤ l.length ∧ x.2.length = x.1 ∧ allR [] l = allR x.2 (l.drop x.1)) ⟨(0, []), ⟨Nat.zero_le _, rfl, rfl⟩, normW_of ?_⟩ ?_
  · conv => whnf
    rfl
  · rintro ⟨i, acc⟩ hx
    obtain ⟨hi, ha, hR⟩ : i ≤ l.length ∧ acc.length = i ∧ allR [] l = allR acc (l.drop i) := hx
    have wi : i < l.length → IntKind.i64.wrap ((i : Int) + 1) = ((i + 1 : Nat) : Int) := fun h => wrapS h (by omega)
    cases acc with
    | nil =>
      conv => whnf
      refine cond_i (fun h1 => ?_) (fun h1 => ?_)
      · have hlt : i < l.length := by have h1 : decide ((i : Int) < ((strsD l).length : Int)) = true := h1; have := of_decide_eq_true h1; rw [strsD_len] at this; omega
        have hg := strsD_get hlt
        rw [drop_cons hlt] at hR
        generalize l[i] = s at *
        conv => whnf
        refine ⟨by omega, _, hg, rfl, ?_⟩
        conv => whnf
        refine SatH.mono (sat_add [] s (by simp)) ?_
        rintro _ rfl
        by_cases he : (addErr [] s != 0) = true
        · have e : addR [] s = ⟨.w (.c (int (addErr [] s))), [.box [.nil]]⟩ := by unfold addR; rw [he]; rfl
          rw [allR_stop he] at hR
          rw [e, hR]
          conv => whnf
          refine cond_i (fun k => ?_) (fun k => ?_)
          · conv => whnf
            rfl
          · exact absurd (he.symm.trans k) (by simp)
        · have he : (addErr [] s != 0) = false := by simpa using he
          have he0 : addErr [] s = 0 := by simpa using he
          have e : addR [] s = ⟨.w (.c (int 0)), [.box [.own 1 1 1], .arr 1 (strsD [s]) false]⟩ := by unfold addR; rw [he, he0]; rfl
          rw [allR_go he] at hR
          rw [e]
          conv => whnf
          refine ⟨(i + 1, [s]), ⟨⟨hlt, by simp at ha ⊢; omega, hR⟩, by show l.length - (i + 1) < l.length - i; omega⟩, normW_of ?_⟩
          conv => whnf
          rw [wi hlt]
          rfl
      · have hge : l.length ≤ i := by have h1 : decide ((i : Int) < ((strsD l).length : Int)) = false := h1; have := of_decide_eq_false h1; rw [strsD_len] at this; omega
        rw [List.drop_eq_nil_of_le hge] at hR
        rw [hR]
        conv => whnf
        rfl
    | cons x r =>
      conv => whnf
      refine cond_i (fun h1 => ?_) (fun h1 => ?_)
      · have hlt : i < l.length := by have h1 : decide ((i : Int) < ((strsD l).length : Int)) = true := h1; have := of_decide_eq_true h1; rw [strsD_len] at this; omega
        have hg := strsD_get hlt
        rw [drop_cons hlt] at hR
        generalize l[i] = s at *
        conv => whnf
        refine ⟨by omega, _, hg, rfl, ?_⟩
        conv => whnf
        refine SatH.mono (sat_add (x :: r) s (by omega)) ?_
        rintro _ rfl
        by_cases he : (addErr (x :: r) s != 0) = true
        · have e : addR (x :: r) s = ⟨.w (.c (int (addErr (x :: r) s))), [.box [.own 1 1 (x :: r).length], .arr 1 (strsD (x :: r)) false]⟩ := by unfold addR; rw [he]; rfl
          rw [allR_stop he] at hR
          rw [e, hR]
          conv => whnf
          refine cond_i (fun k => ?_) (fun k => ?_)
          · conv => whnf
            rfl
          · exact absurd (he.symm.trans k) (by simp)
        · have he : (addErr (x :: r) s != 0) = false := by simpa using he
          have he0 : addErr (x :: r) s = 0 := by simpa using he
          have e : addR (x :: r) s = ⟨.w (.c (int 0)), [.box [.own 2 1 ((x :: r).length + 1)], .gone, .arr 1 (strsD ((x :: r) ++ [s])) false]⟩ := by unfold addR; rw [he, he0]; rfl
          rw [allR_go he] at hR
          rw [e]
          conv => whnf
          refine ⟨(i + 1, (x :: r) ++ [s]), ⟨⟨hlt, by simp at ha ⊢; omega, hR⟩, by show l.length - (i + 1) < l.length - i; omega⟩, normW_of ?_⟩
          conv => whnf
          rw [wi hlt]
          show _ = S.mk _ [(100000, .box [.own 600256 1 (x :: (r ++ [s])).length]), _]
          rw [show (x :: (r ++ [s])).length = (x :: r).length + 1 by simp]
          rfl
      · have hge : l.length ≤ i := by have h1 : decide ((i : Int) < ((strsD l).length : Int)) = false := h1; have := of_decide_eq_false h1; rw [strsD_len] at this; omega
        rw [List.drop_eq_nil_of_le hge] at hR
        rw [hR]
        conv => whnf
        rfl
end Go.Proofs.YtcajnlkkjdhjdaaGreat

namespace Go.Proofs.YtcajnlkkjdhjdaaGreat
open Go Go.AM
attribute [local irreducible] Sat SatH LoopP
set_option maxRecDepth 100000
set_option maxHeartbeats 1000000

def intsD (l : List Int) : List (List D) := l.map fun n => [D.lit (.int .i64 n)]
theorem intsD_len (l : List Int) : (intsD l).length = l.length := by simp [intsD]
theorem intsD_get {r : List Int} {i : Nat} (h : i < r.length) : (intsD r)[((i : Int)).toNat]? = some [D.lit (.int .i64 r[i])] := by simp [intsD, List.getElem?_eq_getElem h]
theorem sat_Index_StepOp (l : List Int) (s : Int) : Sat Pg k_slices_Index_StepOp [.c (.d (.sl (intsD l))), .c (int s)] (fun r => r = rI (findI (fun x => s == x) 0 l)) := by
  refine sat_len 0 (by kernel_rfl) rfl fun hlen => ?_
  rw [intsD_len] at hlen
  refine Sat_of T4 c_slices_Index_StepOp_ok (by kernel_rfl) ?_
  conv => whnf
  refine loopI (P := Pg) (f := T4.f) (body := c_slices_Index_StepOp_L0) l.length (fun i => ⟨[(0, .w (.c (.d (.sl (intsD l))))), (1, .w (.c (int s))), (7, intV (intsD l).length), (8, intV i)], []⟩)
    (fun i => findI (fun x => s == x) 0 l = findI (fun x => s == x) i (l.drop i)) ⟨rfl, normW_of ?_⟩ ?_
  · conv => whnf
    rfl
  · intro i hi hR
    conv => whnf
    refine cond_i (fun h1 => ?_) (fun h1 => ?_)
    · have hlt : i < l.length := by have := of_decide_eq_true h1; rw [intsD_len] at this; omega
      rw [drop_cons hlt] at hR
      conv => whnf
      refine ⟨by omega, _, intsD_get hlt, rfl, ?_⟩
      conv => whnf
      refine cond_i (fun h3 => ?_) (fun h3 => ?_)
      · simp only [findI, h3, cond_true] at hR
        conv => whnf
        exact congrArg rI hR.symm
      · simp only [findI, h3, cond_false] at hR
        conv => whnf
        refine ⟨hlt, hR, normW_of ?_⟩
        conv => whnf
        rw [wrapS hlt hlen]
        rfl
    · have hge : l.length ≤ i := by have := of_decide_eq_false h1; rw [intsD_len] at this; omega
      rw [List.drop_eq_nil_of_le hge] at hR
      conv => whnf
      exact congrArg rI hR.symm

def hasI (l : List Int) (s : Int) : Bool := l.any fun x => s == x
theorem sat_Contains_StepOp (l : List Int) (s : Int) : Sat Pg k_slices_Contains_StepOp [.c (.d (.sl (intsD l))), .c (int s)] (fun r => r = rB (hasI l s)) := by
  refine Sat_of T4 c_slices_Contains_StepOp_ok (by kernel_rfl) ?_
  conv => whnf
  refine Sat.mono (sat_Index_StepOp l s) ?_
  rintro _ rfl
  conv => whnf
  exact congrArg rB (findI_ge _ l 0)
def intsOf : List (List D) → List Int
  | [.lit (.int _ m)] :: r => m :: intsOf r
  | _ => []
theorem sat_uses_1 (L : List (List D)) (op : Int) (rest : List D) (h : intsD (intsOf L) = L) : Sat Pg k_syntax_uses_1 [.c (.d (.sl L)), .c (.fp (.lit (.int .i64 op) :: rest))] (fun r => r = rB (hasI (intsOf L) op)) := by
  rw [← h]
  generalize intsOf L = l at *
  have e : intsOf (intsD l) = l := by
    clear h
    induction l with
    | nil => rfl
    | cons x r ih => show x :: intsOf (intsD r) = _; rw [ih]
  rw [e]
  refine Sat_of T4 c_syntax_uses_1_ok (by kernel_rfl) ?_
  conv => whnf
  refine Sat.mono (sat_Contains_StepOp l op) ?_
  rintro _ rfl
  rfl

def zeroB (op : Int) (nm : ByteArray) (v : Val) (nk : Int) : Bool := ((op == 0 && beqS nm ⟨#[]⟩) && eqV v ⟨0, 0, ⟨#[]⟩⟩) && nk == 0
def Ex.zero : Ex → Bool
  | .mk op nm v ks => zeroB op nm v ks.length
theorem sat_zero (op : Int) (nm : ByteArray) (k n : Int) (s : ByteArray) (l : List (List D)) : Sat Pg k_syntax_zero [.agg [int op, str nm, int k, int n, str s, .d (.sl l)]] (fun r => r = rB (zeroB op nm ⟨k, n, s⟩ l.length)) := by
  refine Sat_of T4 c_syntax_zero_ok (by kernel_rfl) ?_
  repeat' (conv => whnf
           refine cond_i (fun h => ?_) (fun h => ?_))
  all_goals refine congrArg rB ?_
  all_goals unfold zeroB eqV
  all_goals try simp only [cond_true, cond_false, Bool.true_or, Bool.false_or, Bool.or_true, Bool.or_false, Bool.and_true, Bool.and_false, Bool.true_and, Bool.false_and, Bool.not_true, Bool.not_false, bne_self_eq_false, beq_self_eq_true, Bool.false_eq_true, Bool.true_eq_false, reduceCtorEq] at *
  all_goals first | done | (simp only [*, cond_true, cond_false, Bool.true_or, Bool.false_or, Bool.or_true, Bool.or_false, Bool.and_true, Bool.and_false, Bool.true_and, Bool.false_and, Bool.not_true, Bool.not_false, bne_self_eq_false, beq_self_eq_true, Bool.false_eq_true, Bool.true_eq_false, reduceCtorEq]; done) | (simp_all only [cond_true, cond_false, Bool.true_or, Bool.false_or, Bool.or_true, Bool.or_false, Bool.and_true, Bool.and_false, Bool.true_and, Bool.false_and, Bool.not_true, Bool.not_false, bne_self_eq_false, beq_self_eq_true, Bool.false_eq_true, Bool.true_eq_false, reduceCtorEq]; done) | skip

def litI : C → Option Int | .d (.lit (.int .i64 n)) => some n | _ => none
def litS : C → Option ByteArray | .d (.lit (.string n)) => some n | _ => none
def slD : C → Option (List (List D)) | .d (.sl n) => some n | _ => none
theorem litI_eq {c : C} {n : Int} (h : litI c = some n) : c = int n := by
  unfold litI at h; split at h
  · cases h; rfl
  · cases h
theorem litS_eq {c : C} {n : ByteArray} (h : litS c = some n) : c = str n := by
  unfold litS at h; split at h
  · cases h; rfl
  · cases h
theorem slD_eq {c : C} {n : List (List D)} (h : slD c = some n) : c = .d (.sl n) := by
  unfold slD at h; split at h
  · cases h; rfl
  · cases h
def zc : List C → Option W
  | [a, b, c, d, e, f] => (litI a).bind fun op => (litS b).bind fun nm => (litI c).bind fun k => (litI d).bind fun n => (litS e).bind fun s => (slD f).bind fun l => some (.c (bool (zeroB op nm ⟨k, n, s⟩ l.length)))
  | _ => none
def T5f (k : FuncId) (l : List W) : Option W :=
  bif Nat.beq k k_syntax_zero then (match l with | [.agg cs] => zc cs | _ => none) else T4f k l
theorem T5ok (k : FuncId) (l : List W) (w : W) (h : T5f k l = some w) : Sat Pg k l (fun r => r = ⟨.w w, []⟩) := by
  unfold T5f at h
  cases hk : Nat.beq k k_syntax_zero
  · rw [hk, cond_false] at h
    exact T4ok k l w h
  · rw [hk, cond_true] at h
    rw [Nat.eq_of_beq_eq_true hk]
    split at h
    · rename_i cs
      unfold zc at h
      split at h
      · obtain ⟨op, h1, h⟩ := Option.bind_eq_some_iff.1 h
        obtain ⟨nm, h2, h⟩ := Option.bind_eq_some_iff.1 h
        obtain ⟨v, h3, h⟩ := Option.bind_eq_some_iff.1 h
        obtain ⟨n, h4, h⟩ := Option.bind_eq_some_iff.1 h
        obtain ⟨s, h5, h⟩ := Option.bind_eq_some_iff.1 h
        obtain ⟨l, h6, h⟩ := Option.bind_eq_some_iff.1 h
        cases h
        rw [litI_eq h1, litS_eq h2, litI_eq h3, litI_eq h4, litS_eq h5, slD_eq h6]
        exact sat_zero _ _ _ _ _ _
      · cases h
    · cases h
def T5 : Tab Pg := ⟨T5f, T5ok⟩

structure Itm where
  e : Ex
  nm : ByteArray
def Itm.ds (x : Itm) : List D := x.e.ds ++ [.lit (.string x.nm)]
structure Agg where
  fn : ByteArray
  col : ByteArray
  nm : ByteArray
def Agg.ds (x : Agg) : List D := [.lit (.string x.fn), .lit (.string x.col), .lit (.string x.nm)]
structure Srt where
  col : ByteArray
  desc : Bool
def Srt.ds (x : Srt) : List D := [.lit (.string x.col), .lit (.bool x.desc)]
structure Stp where
  op : Int
  cond : Ex
  items : List Itm
  cols : List ByteArray
  aggs : List Agg
  sorts : List Srt
  n : Int
  table : ByteArray
def Stp.ds (s : Stp) : List D := [.lit (.int .i64 s.op)] ++ (s.cond.ds ++ [.sl (s.items.map Itm.ds), .sl (strsD s.cols), .sl (s.aggs.map Agg.ds), .sl (s.sorts.map Srt.ds), .lit (.int .i64 s.n), .lit (.string s.table)])
def Stp.w (s : Stp) : W := .agg (s.ds.map .d)
def usesB (op : Int) (z : Bool) (items cols aggs sorts n : Int) (tb : ByteArray) : Bool :=
  bif decide (op < 1) || decide (op > 9) then false else
  bif ((!hasI [1] op && !z) || ((!hasI [2] op && decide (items > 0)) || ((!hasI [3] op && decide (aggs > 0)) || ((!hasI [4] op && decide (sorts > 0)) || (!hasI [5] op && n != 0))))) then false else
  bif !hasI [6, 7, 8] op && !beqS tb ⟨#[]⟩ then false else
  hasI [3, 6, 7, 8, 9] op || cols == 0
def Stp.uses (s : Stp) : Bool := usesB s.op s.cond.zero s.items.length s.cols.length s.aggs.length s.sorts.length s.n s.table
theorem sat_uses (op : Int) (eo : Int) (nm : ByteArray) (k n : Int) (s : ByteArray) (ks items cols aggs sorts : List (List D)) (m : Int) (tb : ByteArray) :
    Sat Pg k_syntax_uses [.agg [int op, int eo, str nm, int k, int n, str s, .d (.sl ks), .d (.sl items), .d (.sl cols), .d (.sl aggs), .d (.sl sorts), int m, str tb]] (fun r => r = rB (usesB op (zeroB eo nm ⟨k, n, s⟩ ks.length) items.length cols.length aggs.length sorts.length m tb)) := by
  refine Sat_of T5 c_syntax_uses_ok (by kernel_rfl) ?_
  repeat' (conv => whnf
           first | refine cond_i (fun h => ?_) (fun h => ?_) | (refine Sat.mono (sat_uses_1 _ _ _ rfl) ?_; rintro _ rfl))
  all_goals refine congrArg rB ?_
  all_goals unfold usesB
  all_goals try simp only [List.take_length, intsOf] at *
  all_goals generalize ((List.length cols : Nat) : Int) = lc at *
  all_goals try simp only [cond_true, cond_false, Bool.true_or, Bool.false_or, Bool.or_true, Bool.or_false, Bool.and_true, Bool.and_false, Bool.true_and, Bool.false_and, Bool.not_true, Bool.not_false, bne_self_eq_false, beq_self_eq_true, Bool.false_eq_true, Bool.true_eq_false, reduceCtorEq] at *
  all_goals first | done | (simp only [*, cond_true, cond_false, Bool.true_or, Bool.false_or, Bool.or_true, Bool.or_false, Bool.and_true, Bool.and_false, Bool.true_and, Bool.false_and, Bool.not_true, Bool.not_false, bne_self_eq_false, beq_self_eq_true, Bool.false_eq_true, Bool.true_eq_false, reduceCtorEq]; done) | (simp_all only [cond_true, cond_false, Bool.true_or, Bool.false_or, Bool.or_true, Bool.or_false, Bool.and_true, Bool.and_false, Bool.true_and, Bool.false_and, Bool.not_true, Bool.not_false, bne_self_eq_false, beq_self_eq_true, Bool.false_eq_true, Bool.true_eq_false, reduceCtorEq]; done) | skip
end Go.Proofs.YtcajnlkkjdhjdaaGreat

namespace Go.Proofs.YtcajnlkkjdhjdaaGreat
open Go Go.AM
attribute [local irreducible] Sat SatH LoopP
set_option maxRecDepth 100000
set_option maxHeartbeats 1000000

def itmsD (l : List Itm) : List (List D) := l.map Itm.ds
theorem itmsD_len (l : List Itm) : (itmsD l).length = l.length := by simp [itmsD]
theorem itmsD_get {r : List Itm} {i : Nat} (h : i < r.length) : (itmsD r)[((i : Int)).toNat]? = some (r[i]).ds := by simp [itmsD, List.getElem?_eq_getElem h]
theorem addR_bad {acc : List ByteArray} {s : ByteArray} (h : (addErr acc s != 0) = true) : addR acc s = ⟨.w (.c (int (addErr acc s))), lstP acc⟩ := by unfold addR; rw [h]; rfl
theorem addR_ok {acc : List ByteArray} {s : ByteArray} (h : (addErr acc s != 0) = false) : addR acc s = ⟨.w (.c (int 0)), addP acc s⟩ := by
  unfold addR; rw [h]; rw [bne_eq_false_iff_eq] at h; rw [h]; rfl

def itemsErr : List ByteArray → List Itm → Int
  | _, [] => 0
  | acc, x :: r => bif x.e.chk != 0 then x.e.chk else bif addErr acc x.nm != 0 then addErr acc x.nm else itemsErr (acc ++ [x.nm]) r
def itS (l : List Itm) (i : Nat) : List ByteArray → S
  | [] => ⟨[(3, cV (.ptr 3 0)), (8, .w (.c (.d (.sl (itmsD l))))), (9, intV (itmsD l).length), (10, intV i)], [(3, .box [.nil])]⟩
  | x :: r => ⟨[(3, cV (.ptr 3 0)), (8, .w (.c (.d (.sl (itmsD l))))), (9, intV (itmsD l).length), (10, intV i)], [(3, .box [.own 600352 1 (x :: r).length]), (600352, .arr 1 (strsD (x :: r)) false)]⟩
theorem sat_items (l : List Itm) (hl : l.length ≤ 1000) : Sat Pg k_syntax_items [.c (.d (.sl (itmsD l)))] (fun r => r = rI (itemsErr [] l)) := by
  refine Sat_of T5 c_syntax_items_ok (by kernel_rfl) ?_
  conv => whnf
  refine loopF (P := Pg) (f := T5.f) (body := c_syntax_items_L0) (fun x : Nat × List ByteArray => itS l x.1 x.2) (fun x => l.length - x.1) (fun x => x.1 ≤ l.length ∧ x.2.length = x.1 ∧ itemsErr [] l = itemsErr x.2 (l.drop x.1)) ⟨(0, []), ⟨Nat.zero_le _, rfl, rfl⟩, normW_of ?_⟩ ?_
  · conv => whnf
    rfl
  · rintro ⟨i, acc⟩ hx
    obtain ⟨hi, ha, hR⟩ : i ≤ l.length ∧ acc.length = i ∧ itemsErr [] l = itemsErr acc (l.drop i) := hx
    have wi : i < l.length → IntKind.i64.wrap ((i : Int) + 1) = ((i + 1 : Nat) : Int) := fun h => wrapS h (by omega)
    have hlt' : decide ((i : Int) < ((itmsD l).length : Int)) = true → i < l.length := fun h => by have := of_decide_eq_true h; rw [itmsD_len] at this; omega
    have hend : decide ((i : Int) < ((itmsD l).length : Int)) = false → itemsErr [] l = 0 := fun h => by
      have := of_decide_eq_false h
      rw [itmsD_len] at this
      rw [hR, List.drop_eq_nil_of_le (by omega)]
      cases acc <;> rfl
    have hgo : ∀ hlt : i < l.length, itemsErr [] l = bif l[i].e.chk != 0 then l[i].e.chk else bif addErr acc l[i].nm != 0 then addErr acc l[i].nm else itemsErr (acc ++ [l[i].nm]) (l.drop (i + 1)) := fun hlt => by
      rw [hR, drop_cons hlt]; rfl
    cases acc with
    | nil =>
      conv => whnf
      refine cond_i (fun h1 => ?_) (fun h1 => ?_)
      · have hlt := hlt' h1
        have hg := itmsD_get hlt
        have hR := hgo hlt
        generalize l[i] = x at *
        obtain ⟨⟨op1, nm1, v1, ks1⟩, s⟩ := x
        conv => whnf
        refine ⟨by omega, _, hg, rfl, ?_⟩
        conv => whnf
        refine Sat.mono (sat_Expr (.mk op1 nm1 v1 ks1)) ?_
        rintro _ rfl
        generalize (Ex.chk (.mk op1 nm1 v1 ks1)) = e1 at *
        conv => whnf
        refine cond_i (fun h2 => ?_) (fun h2 => ?_)
        · have h2 : (e1 != 0) = true := h2
          simp only [h2, cond_true] at hR
          conv => whnf
          rw [hR]; rfl
        · have h2 : (e1 != 0) = false := h2
          simp only [h2, cond_false] at hR
          conv => whnf
          refine SatH.mono (sat_add [] s (by simp)) ?_
          rintro _ rfl
          by_cases he : (addErr [] s != 0) = true
          · rw [addR_bad he]
            simp only [he, cond_true] at hR
            generalize addErr [] s = e2 at *
            conv => whnf
            refine cond_i (fun k => ?_) (fun k => ?_)
            · conv => whnf
              rw [hR]; rfl
            · exact absurd (he.symm.trans k) (by simp)
          · have he : (addErr [] s != 0) = false := by simpa using he
            rw [addR_ok he]
            simp only [he, cond_false] at hR
            conv => whnf
            refine ⟨(i + 1, [s]), ⟨⟨hlt, by simp at ha ⊢; omega, hR⟩, by show l.length - (i + 1) < l.length - i; omega⟩, normW_of ?_⟩
            conv => whnf
            rw [wi hlt]
            rfl
      · have hE := hend h1
        rw [hE]
        conv => whnf
        rfl
    | cons y r =>
      conv => whnf
      refine cond_i (fun h1 => ?_) (fun h1 => ?_)
      · have hlt := hlt' h1
        have hg := itmsD_get hlt
        have hR := hgo hlt
        generalize l[i] = x at *
        obtain ⟨⟨op1, nm1, v1, ks1⟩, s⟩ := x
        conv => whnf
        refine ⟨by omega, _, hg, rfl, ?_⟩
        conv => whnf
        refine Sat.mono (sat_Expr (.mk op1 nm1 v1 ks1)) ?_
        rintro _ rfl
        generalize (Ex.chk (.mk op1 nm1 v1 ks1)) = e1 at *
        conv => whnf
        refine cond_i (fun h2 => ?_) (fun h2 => ?_)
        · have h2 : (e1 != 0) = true := h2
          simp only [h2, cond_true] at hR
          conv => whnf
          rw [hR]; rfl
        · have h2 : (e1 != 0) = false := h2
          simp only [h2, cond_false] at hR
          conv => whnf
          refine SatH.mono (sat_add (y :: r) s (by omega)) ?_
          rintro _ rfl
          by_cases he : (addErr (y :: r) s != 0) = true
          · rw [addR_bad he]
            simp only [he, cond_true] at hR
            generalize addErr (y :: r) s = e2 at *
            conv => whnf
            refine cond_i (fun k => ?_) (fun k => ?_)
            · conv => whnf
              rw [hR]; rfl
            · exact absurd (he.symm.trans k) (by simp)
          · have he : (addErr (y :: r) s != 0) = false := by simpa using he
            rw [addR_ok he]
            simp only [he, cond_false] at hR
            conv => whnf
            refine ⟨(i + 1, (y :: r) ++ [s]), ⟨⟨hlt, by simp at ha ⊢; omega, hR⟩, by show l.length - (i + 1) < l.length - i; omega⟩, normW_of ?_⟩
            conv => whnf
            rw [wi hlt]
            show _ = S.mk _ [(3, .box [.own 600352 1 (y :: (r ++ [s])).length]), _]
            rw [show (y :: (r ++ [s])).length = (y :: r).length + 1 by simp]
            rfl
      · have hE := hend h1
        rw [hE]
        conv => whnf
        rfl

def colsErr (l : List ByteArray) (least : Int) : Int := bif sizeE l.length least != 0 then sizeE l.length least else allErr [] l
theorem sizeE_le {n least : Int} (h : (sizeE n least != 0) = false) : n ≤ 16 := by
  rw [bne_eq_false_iff_eq] at h
  unfold sizeE at h
  obtain ⟨_, h⟩ := bif_ne' (by omega) h
  obtain ⟨h, _⟩ := bif_ne' (by omega) h
  have := of_decide_eq_false h
  omega
theorem sat_columns (l : List ByteArray) (least : Int) : Sat Pg k_syntax_columns [strsC l, .c (int least)] (fun r => r = rI (colsErr l least)) := by
  unfold colsErr
  rw [← strsD_len]
  refine Sat_of T5 c_syntax_columns_ok (by kernel_rfl) ?_
  conv => whnf
  refine cond_i (fun h => ?_) (fun h => ?_)
  · have h : (sizeE (strsD l).length least != 0) = true := h
    conv => whnf
    rw [h]; rfl
  · have h : (sizeE (strsD l).length least != 0) = false := h
    have hl := sizeE_le h
    rw [strsD_len] at hl
    conv => whnf
    refine SatH.mono (sat_all l (by omega)) ?_
    rintro _ rfl
    rw [h, cond_false]
    unfold allR
    generalize allErr [] l = e
    cases allAcc [] l with
    | nil =>
      conv => whnf
      rfl
    | cons x r =>
      conv => whnf
      rfl
end Go.Proofs.YtcajnlkkjdhjdaaGreat

namespace Go.Proofs.YtcajnlkkjdhjdaaGreat
open Go Go.AM
attribute [local irreducible] Sat SatH LoopP
set_option maxRecDepth 100000
set_option maxHeartbeats 1000000

def aggD (l : List Agg) : List (List D) := l.map Agg.ds
theorem aggD_len (l : List Agg) : (aggD l).length = l.length := by simp [aggD]
theorem aggD_get {r : List Agg} {i : Nat} (h : i < r.length) : (aggD r)[((i : Int)).toNat]? = some (r[i]).ds := by simp [aggD, List.getElem?_eq_getElem h]
def fns : List ByteArray := [⟨#[115, 117, 109]⟩, ⟨#[109, 105, 110]⟩, ⟨#[109, 97, 120]⟩, ⟨#[102, 105, 114, 115, 116]⟩]
def cntB : ByteArray := ⟨#[99, 111, 117, 110, 116]⟩
def aggBad (x : Agg) : Bool := bif !beqS x.fn cntB && !hasB fns x.fn then true else beqS x.fn cntB == !beqS x.col ⟨#[]⟩
def aggErr (x : Agg) : Int := bif aggBad x then 5 else bif !beqS x.col ⟨#[]⟩ && !identB x.col then 3 else 0
def aggsErr : List ByteArray → List Agg → Int
  | _, [] => 0
  | acc, x :: r => bif aggErr x != 0 then aggErr x else bif addErr acc x.nm != 0 then addErr acc x.nm else aggsErr (acc ++ [x.nm]) r
def groupErr (cols : List ByteArray) (aggs : List Agg) : Int :=
  bif IntKind.i64.wrap ((cols.length : Int) + aggs.length) == 0 then 8 else bif decide ((cols.length : Int) > 16) || decide ((aggs.length : Int) > 16) then 7 else
  bif allErr [] cols != 0 then allErr [] cols else aggsErr cols aggs
def grS (l : List Agg) (i p : Nat) : List ByteArray → S
  | [] => ⟨[(3, cV (.ptr 3 0)), (36, .w (.c (.d (.sl (aggD l))))), (37, intV (aggD l).length), (38, intV i)], [(3, .box [.nil])]⟩
  | x :: r => ⟨[(3, cV (.ptr 3 0)), (36, .w (.c (.d (.sl (aggD l))))), (37, intV (aggD l).length), (38, intV i)], [(3, .box [.own p 1 (x :: r).length]), (p, .arr 1 (strsD (x :: r)) false)]⟩
theorem allErr_acc : ∀ (l acc : List ByteArray), (allErr acc l != 0) = false → allAcc acc l = acc ++ l
  | [], acc, _ => by simp [allAcc]
  | s :: r, acc, h => by
    simp only [allErr] at h
    simp only [allAcc]
    cases he : (addErr acc s != 0)
    · rw [he, cond_false] at h
      rw [cond_false, allErr_acc r _ h]; simp
    · rw [he, cond_true] at h
      rw [he] at h; cases h
theorem fns_eq : strsD fns = [[D.lit (.string ⟨#[115, 117, 109]⟩)], [D.lit (.string ⟨#[109, 105, 110]⟩)], [D.lit (.string ⟨#[109, 97, 120]⟩)], [D.lit (.string ⟨#[102, 105, 114, 115, 116]⟩)]] := rfl

theorem gr_loop (aggs : List Agg) (cols : List ByteArray) (ha0 : aggs.length ≤ 16) (hc0 : cols.length ≤ 16) (s : S) (p0 : Nat) (hp0 : p0 = 600496 ∨ p0 = 601152) (hs : normW s [3, 36, 37, 38] (· = grS aggs 0 p0 cols)) :
    LoopP (mwpR Pg T5.f c_syntax_group_L0) [3, 36, 37, 38] (blockK 1 (seqK (mwpR Pg T5.f (.seq (.reg [⟨(some 2), none, false, .mov (.k (intV 0)), [3, 36, 37, 38]⟩]) .ret)) (endK c_syntax_group.res [] fun r => r = rI (aggsErr cols aggs)))) s := by
  refine loopF (P := Pg) (f := T5.f) (body := c_syntax_group_L0) (fun x : Nat × Nat × List ByteArray => grS aggs x.1 x.2.1 x.2.2) (fun x => aggs.length - x.1) (fun x => x.1 ≤ aggs.length ∧ (x.2.1 = 600496 ∨ x.2.1 = 601152) ∧ x.2.2.length = x.1 + cols.length ∧ aggsErr cols aggs = aggsErr x.2.2 (aggs.drop x.1)) ⟨(0, p0, cols), ⟨Nat.zero_le _, hp0, by simp, rfl⟩, hs⟩ ?_
  rintro ⟨i, p, acc⟩ hx
  obtain ⟨hi, hp, ha, hR0⟩ : i ≤ aggs.length ∧ (p = 600496 ∨ p = 601152) ∧ acc.length = i + cols.length ∧ aggsErr cols aggs = aggsErr acc (aggs.drop i) := hx
  have wi : i < aggs.length → IntKind.i64.wrap ((i : Int) + 1) = ((i + 1 : Nat) : Int) := fun h => wrapS h (by omega)
  have hlt' : decide ((i : Int) < ((aggD aggs).length : Int)) = true → i < aggs.length := fun h => by have := of_decide_eq_true h; rw [aggD_len] at this; omega
  have hend : decide ((i : Int) < ((aggD aggs).length : Int)) = false → aggsErr cols aggs = 0 := fun h => by
    have := of_decide_eq_false h
    rw [aggD_len] at this
    rw [hR0, List.drop_eq_nil_of_le (by omega)]
    cases acc <;> rfl
  have hgo : ∀ hlt : i < aggs.length, aggsErr cols aggs = bif aggErr aggs[i] != 0 then aggErr aggs[i] else bif addErr acc aggs[i].nm != 0 then addErr acc aggs[i].nm else aggsErr (acc ++ [aggs[i].nm]) (aggs.drop (i + 1)) := fun hlt => by
    rw [hR0, drop_cons hlt]; rfl
  cases acc with
  | nil =>
    conv => whnf
    refine cond_i (fun h1 => ?_) (fun h1 => ?_)
    · have hlt := hlt' h1
      have hg := aggD_get hlt
      have hR := hgo hlt
      generalize aggs[i] = x at *
      obtain ⟨fn, col, s⟩ := x
      have hfn := sat_Contains_string fns fn
      have hadd := sat_add [] s (by first | (simp; done) | (simp at ha ⊢; omega))
      by_cases he : (addErr [] s != 0) = true
      · rw [addR_bad he] at hadd
        simp only [he, cond_true] at hR
        generalize addErr [] s = e2 at *
        conv => whnf
        refine ⟨by omega, _, hg, rfl, ?_⟩
        repeat' ((conv => whnf); first | ((with_reducible show Sat _ _ _ _); refine Sat.mono hfn ?_; rintro _ rfl) | ((with_reducible show SatH _ _ _ _ _); refine SatH.mono hadd ?_; rintro _ rfl) | refine cond_i (fun h => ?_) (fun h => ?_))
        all_goals first | (exfalso; simp_all; done) | skip
        all_goals (conv => whnf)
        all_goals rw [hR]
        all_goals clear hfn hadd hgo hend hlt' hs hR hR0 wi hg
        all_goals unfold aggErr aggBad
        all_goals refine congrArg rI ?_
        all_goals ((try unfold cntB at *); (try generalize beqS fn ⟨#[99, 111, 117, 110, 116]⟩ = a at *); (try generalize hasB fns fn = b at *); (try generalize beqS col ⟨#[]⟩ = c at *); (try generalize identB col = d at *); (try cases a) <;> (try cases b) <;> (try cases c) <;> (try cases d) <;> simp_all; done)
      · have he : (addErr [] s != 0) = false := by simpa using he
        rw [addR_ok he] at hadd
        simp only [he, cond_false] at hR
        unfold aggErr aggBad at hR
        conv => whnf
        refine ⟨by omega, _, hg, rfl, ?_⟩
        repeat' ((conv => whnf); first | ((with_reducible show Sat _ _ _ _); refine Sat.mono hfn ?_; rintro _ rfl) | ((with_reducible show SatH _ _ _ _ _); refine SatH.mono hadd ?_; rintro _ rfl) | refine cond_i (fun h => ?_) (fun h => ?_))
        all_goals first | ((conv => whnf); (with_reducible show _ = _); rw [hR]; refine congrArg rI ?_; clear hfn hadd hgo hend hlt' hs hR hR0 wi hg; ((try unfold cntB at *); (try generalize beqS fn ⟨#[99, 111, 117, 110, 116]⟩ = a at *); (try generalize hasB fns fn = b at *); (try generalize beqS col ⟨#[]⟩ = c at *); (try generalize identB col = d at *); (try cases a) <;> (try cases b) <;> (try cases c) <;> (try cases d) <;> simp_all; done)) | skip
        all_goals
          (conv => whnf)
          refine ⟨(i + 1, 601152, [] ++ [s]), ⟨⟨hlt, .inr rfl, by simp at ha ⊢; omega, ?_⟩, by show aggs.length - (i + 1) < aggs.length - i; omega⟩, normW_of ?_⟩
          · rw [hR]; clear hfn hadd hgo hend hlt' hs hR hR0 wi hg; ((try unfold cntB at *); (try generalize beqS fn ⟨#[99, 111, 117, 110, 116]⟩ = a at *); (try generalize hasB fns fn = b at *); (try generalize beqS col ⟨#[]⟩ = c at *); (try generalize identB col = d at *); (try cases a) <;> (try cases b) <;> (try cases c) <;> (try cases d) <;> simp_all; done)
          · conv => whnf
            rw [wi hlt]
            rfl
    · have hE := hend h1
      rw [hE]
      conv => whnf
      rfl
  | cons y r =>
    rcases hp with rfl | rfl
    all_goals
      conv => whnf
      refine cond_i (fun h1 => ?_) (fun h1 => ?_)
      · have hlt := hlt' h1
        have hg := aggD_get hlt
        have hR := hgo hlt
        generalize aggs[i] = x at *
        obtain ⟨fn, col, s⟩ := x
        have hfn := sat_Contains_string fns fn
        have hadd := sat_add (y :: r) s (by first | (simp; done) | (simp at ha ⊢; omega))
        by_cases he : (addErr (y :: r) s != 0) = true
        · rw [addR_bad he] at hadd
          simp only [he, cond_true] at hR
          generalize addErr (y :: r) s = e2 at *
          conv => whnf
          refine ⟨by omega, _, hg, rfl, ?_⟩
          repeat' ((conv => whnf); first | ((with_reducible show Sat _ _ _ _); refine Sat.mono hfn ?_; rintro _ rfl) | ((with_reducible show SatH _ _ _ _ _); refine SatH.mono hadd ?_; rintro _ rfl) | refine cond_i (fun h => ?_) (fun h => ?_))
          all_goals first | (exfalso; simp_all; done) | skip
          all_goals (conv => whnf)
          all_goals rw [hR]
          all_goals clear hfn hadd hgo hend hlt' hs hR hR0 wi hg
          all_goals unfold aggErr aggBad
          all_goals refine congrArg rI ?_
          all_goals ((try unfold cntB at *); (try generalize beqS fn ⟨#[99, 111, 117, 110, 116]⟩ = a at *); (try generalize hasB fns fn = b at *); (try generalize beqS col ⟨#[]⟩ = c at *); (try generalize identB col = d at *); (try cases a) <;> (try cases b) <;> (try cases c) <;> (try cases d) <;> simp_all; done)
        · have he : (addErr (y :: r) s != 0) = false := by simpa using he
          rw [addR_ok he] at hadd
          simp only [he, cond_false] at hR
          unfold aggErr aggBad at hR
          conv => whnf
          refine ⟨by omega, _, hg, rfl, ?_⟩
          repeat' ((conv => whnf); first | ((with_reducible show Sat _ _ _ _); refine Sat.mono hfn ?_; rintro _ rfl) | ((with_reducible show SatH _ _ _ _ _); refine SatH.mono hadd ?_; rintro _ rfl) | refine cond_i (fun h => ?_) (fun h => ?_))
          all_goals first | ((conv => whnf); (with_reducible show _ = _); rw [hR]; refine congrArg rI ?_; clear hfn hadd hgo hend hlt' hs hR hR0 wi hg; ((try unfold cntB at *); (try generalize beqS fn ⟨#[99, 111, 117, 110, 116]⟩ = a at *); (try generalize hasB fns fn = b at *); (try generalize beqS col ⟨#[]⟩ = c at *); (try generalize identB col = d at *); (try cases a) <;> (try cases b) <;> (try cases c) <;> (try cases d) <;> simp_all; done)) | skip
          all_goals
            (conv => whnf)
            refine ⟨(i + 1, 601152, (y :: r) ++ [s]), ⟨⟨hlt, .inr rfl, by simp at ha ⊢; omega, ?_⟩, by show aggs.length - (i + 1) < aggs.length - i; omega⟩, normW_of ?_⟩
            · rw [hR]; clear hfn hadd hgo hend hlt' hs hR hR0 wi hg; ((try unfold cntB at *); (try generalize beqS fn ⟨#[99, 111, 117, 110, 116]⟩ = a at *); (try generalize hasB fns fn = b at *); (try generalize beqS col ⟨#[]⟩ = c at *); (try generalize identB col = d at *); (try cases a) <;> (try cases b) <;> (try cases c) <;> (try cases d) <;> simp_all; done)
            · conv => whnf
              rw [wi hlt]
              show _ = S.mk _ [(3, .box [.own 601152 1 (y :: (r ++ [s])).length]), _]
              rw [show (y :: (r ++ [s])).length = (y :: r).length + 1 by simp]
              rfl
      · have hE := hend h1
        rw [hE]
        conv => whnf
        rfl

theorem sat_group (op eo : Int) (nm : ByteArray) (k n : Int) (s : ByteArray) (ks items : List (List D)) (cols : List ByteArray) (aggs : List Agg) (sorts : List (List D)) (m : Int) (tb : ByteArray) :
    Sat Pg k_syntax_group [.agg [int op, int eo, str nm, int k, int n, str s, .d (.sl ks), .d (.sl items), .d (.sl (strsD cols)), .d (.sl (aggD aggs)), .d (.sl sorts), int m, str tb]] (fun r => r = rI (groupErr cols aggs)) := by
  unfold groupErr
  rw [← strsD_len, ← aggD_len]
  refine Sat_of T5 c_syntax_group_ok (by kernel_rfl) ?_
  conv => whnf
  refine cond_i (fun h => ?_) (fun h => ?_)
  · have h : (IntKind.i64.wrap (((strsD cols).length : Int) + (aggD aggs).length) == 0) = true := h
    conv => whnf
    rw [h]; rfl
  · have h : (IntKind.i64.wrap (((strsD cols).length : Int) + (aggD aggs).length) == 0) = false := h
    rw [h, cond_false]
    conv => whnf
    refine cond_i (fun h1 => ?_) (fun h1 => ?_)
    · have h1 : (decide (((strsD cols).length : Int) > 16) || decide (((aggD aggs).length : Int) > 16)) = true := h1
      conv => whnf
      rw [h1]; rfl
    · have h1 : (decide (((strsD cols).length : Int) > 16) || decide (((aggD aggs).length : Int) > 16)) = false := h1
      rw [h1, cond_false]
      simp only [Bool.or_eq_false_iff, decide_eq_false_iff_not, strsD_len, aggD_len] at h1
      conv => whnf
      refine SatH.mono (sat_all cols (by omega)) ?_
      rintro _ rfl
      have hacc := allErr_acc cols []
      unfold allR
      generalize allErr [] cols = e at *
      by_cases he : (e != 0) = true
      · rw [he, cond_true]
        cases allAcc [] cols with
        | nil =>
          conv => whnf
          refine cond_i (fun h2 => ?_) (fun h2 => ?_)
          · conv => whnf
            rfl
          · exact absurd (he.symm.trans h2) (by simp)
        | cons x r =>
          conv => whnf
          refine cond_i (fun h2 => ?_) (fun h2 => ?_)
          · conv => whnf
            rfl
          · exact absurd (he.symm.trans h2) (by simp)
      · have he : (e != 0) = false := by simpa using he
        have he0 : e = 0 := by simpa using he
        rw [hacc he, List.nil_append, he, cond_false, he0]
        have hc16 : cols.length ≤ 16 := by omega
        cases hcc : cols with
        | nil =>
          rw [hcc] at hc16
          conv => whnf
          refine gr_loop aggs [] (by omega) hc16 _ 600496 (.inl rfl) (normW_of ?_)
          conv => whnf
          rfl
        | cons x r =>
          rw [hcc] at hc16
          conv => whnf
          refine gr_loop aggs (x :: r) (by omega) hc16 _ 600496 (.inl rfl) (normW_of ?_)
          conv => whnf
          rfl
end Go.Proofs.YtcajnlkkjdhjdaaGreat

namespace Go.Proofs.YtcajnlkkjdhjdaaGreat
open Go Go.AM
attribute [local irreducible] Sat SatH LoopP
set_option maxRecDepth 100000
set_option maxHeartbeats 1000000

def srtD (l : List Srt) : List (List D) := l.map Srt.ds
theorem srtD_len (l : List Srt) : (srtD l).length = l.length := by simp [srtD]
theorem srtD_get {r : List Srt} {i : Nat} (h : i < r.length) : (srtD r)[((i : Int)).toNat]? = some (r[i]).ds := by simp [srtD, List.getElem?_eq_getElem h]
def Stp.err (s : Stp) : Int :=
  bif !s.uses then 1 else bif s.op == 1 then s.cond.chk else
  bif s.op == 2 then (bif sizeE s.items.length 1 != 0 then sizeE s.items.length 1 else itemsErr [] s.items) else
  bif s.op == 3 then groupErr s.cols s.aggs else bif s.op == 4 then colsErr (s.sorts.map Srt.col) 1 else
  bif s.op == 5 then (bif decide (s.n < 0) || decide (s.n > 20000) then 2 else 0) else bif s.op == 9 then colsErr s.cols 0 else
  bif !identB s.table then 3 else colsErr s.cols (bif s.op == 6 then 1 else 0)
def stpS (l : List Srt) (i : Nat) : List ByteArray → S
  | [] => ⟨[(4, cV .nil), (37, .w (.c (.d (.sl (srtD l))))), (38, intV (srtD l).length), (39, intV i)], []⟩
  | x :: r => ⟨[(4, cV (.own 47 1 (x :: r).length)), (37, .w (.c (.d (.sl (srtD l))))), (38, intV (srtD l).length), (39, intV i)], [(47, .arr 1 (strsD (x :: r)) false)]⟩
theorem sat_Step (s : Stp) (hs : s.sorts.length ≤ 1000000) : Sat Pg k_syntax_Step [s.w] (fun r => r = rI s.err) := by
  obtain ⟨op, ⟨eo, nm, ⟨vk, vn, vs⟩, ks⟩, items, cols, aggs, sorts, n, tb⟩ := s
  have hu : Sat Pg k_syntax_uses [Stp.w ⟨op, ⟨eo, nm, ⟨vk, vn, vs⟩, ks⟩, items, cols, aggs, sorts, n, tb⟩] (fun r => r = rB (Stp.uses ⟨op, ⟨eo, nm, ⟨vk, vn, vs⟩, ks⟩, items, cols, aggs, sorts, n, tb⟩)) := by
    have := sat_uses op eo nm vk vn vs (exsD ks) (itmsD items) (strsD cols) (aggD aggs) (srtD sorts) n tb
    rw [exsD_len, itmsD_len, strsD_len, aggD_len, srtD_len] at this
    exact this
  have hg := sat_group op eo nm vk vn vs (exsD ks) (itmsD items) cols aggs (srtD sorts) n tb
  have he := sat_Expr ⟨eo, nm, ⟨vk, vn, vs⟩, ks⟩
  have hi := sat_items items
  have hc := sat_columns cols
  have hs : sorts.length ≤ 1000000 := hs
  unfold Stp.err
  simp only
  generalize (Stp.uses ⟨op, ⟨eo, nm, ⟨vk, vn, vs⟩, ks⟩, items, cols, aggs, sorts, n, tb⟩) = u at *
  generalize Ex.chk ⟨eo, nm, ⟨vk, vn, vs⟩, ks⟩ = ce at *
  generalize groupErr cols aggs = ge at *
  rw [← itmsD_len]
  refine Sat_of T5 c_syntax_Step_ok (by kernel_rfl) ?_
  conv => whnf
  refine Sat.mono (hu) ?_
  rintro _ rfl
  conv => whnf
  refine cond_i (fun h1 => ?_) (fun h1 => ?_)
  · have h1 : (!u) = true := h1
    conv => whnf
    rw [h1]; rfl
  · have h1 : (!u) = false := h1
    rw [h1, cond_false]
    clear h1
    conv => whnf
    refine cond_i (fun h2 => ?_) (fun h2 => ?_)
    · have h2 : (op == 1) = true := h2
      conv => whnf
      refine Sat.mono (he) ?_
      rintro _ rfl
      conv => whnf
      rw [h2]; rfl
    · have h2 : (op == 1) = false := h2
      rw [h2, cond_false]
      conv => whnf
      refine cond_i (fun h3 => ?_) (fun h3 => ?_)
      · have h3 : (op == 2) = true := h3
        rw [h3, cond_true]
        conv => whnf
        refine cond_i (fun h4 => ?_) (fun h4 => ?_)
        · have h4 : (sizeE (itmsD items).length 1 != 0) = true := h4
          conv => whnf
          rw [h4]; rfl
        · have h4 : (sizeE (itmsD items).length 1 != 0) = false := h4
          have hl := sizeE_le h4
          rw [itmsD_len] at hl
          rw [h4, cond_false]
          conv => whnf
          refine Sat.mono (hi (by omega)) ?_
          rintro _ rfl
          rfl
      · have h3 : (op == 2) = false := h3
        rw [h3, cond_false]
        conv => whnf
        refine cond_i (fun h4 => ?_) (fun h4 => ?_)
        · have h4 : (op == 3) = true := h4
          rw [h4, cond_true]
          conv => whnf
          refine Sat.mono (hg) ?_
          rintro _ rfl
          rfl
        · have h4 : (op == 3) = false := h4
          rw [h4, cond_false]
          conv => whnf
          refine cond_i (fun h5 => ?_) (fun h5 => ?_)
          · have h5 : (op == 4) = true := h5
            rw [h5, cond_true]
            conv => whnf
            refine loopI (P := Pg) (f := T5.f) (body := c_syntax_Step_L0) sorts.length (fun i => stpS sorts i ((sorts.map Srt.col).take i)) (fun _ => True) ⟨trivial, normW_of ?_⟩ ?_
            · conv => whnf
              rfl
            · intro i hi' _
              have wi : i < sorts.length → IntKind.i64.wrap ((i : Int) + 1) = ((i + 1 : Nat) : Int) := fun h => wrapS h (by omega)
              have hlt' : decide ((i : Int) < ((srtD sorts).length : Int)) = true → i < sorts.length := fun h => by have := of_decide_eq_true h; rw [srtD_len] at this; omega
              have hend : decide ((i : Int) < ((srtD sorts).length : Int)) = false → (sorts.map Srt.col).take i = sorts.map Srt.col := fun h => by
                have := of_decide_eq_false h
                rw [srtD_len] at this
                rw [List.take_of_length_le]
                rw [List.length_map]; omega
              have hnx : ∀ h : i < sorts.length, (sorts.map Srt.col).take (i + 1) = (sorts.map Srt.col).take i ++ [sorts[i].col] := fun h => by
                rw [take_snoc (by rw [List.length_map]; exact h), List.getElem_map]
              have hal : ((sorts.map Srt.col).take i).length ≤ 1000000 := by rw [List.length_take, List.length_map]; omega
              cases hacc : (sorts.map Srt.col).take i with
              | nil =>
                rw [hacc] at hnx hend
                conv => whnf
                refine cond_i (fun k1 => ?_) (fun k1 => ?_)
                · have hlt := hlt' k1
                  have hg := srtD_get hlt
                  have hnx := hnx hlt
                  generalize sorts[i] = x at *
                  obtain ⟨c, b⟩ := x
                  conv => whnf
                  refine ⟨by omega, _, hg, rfl, ?_⟩
                  conv => whnf
                  refine ⟨by simp, by unfold fits; simp, by simp, ?_⟩
                  conv => whnf
                  refine ⟨hlt, trivial, normW_of ?_⟩
                  conv => whnf
                  rw [hnx, wi hlt]
                  rfl
                · have hE := hend k1
                  rw [← hE]
                  conv => whnf
                  refine Sat.mono (sat_columns [] 1) ?_
                  rintro _ rfl
                  rfl
              | cons y r =>
                rw [hacc] at hnx hend hal
                conv => whnf
                refine cond_i (fun k1 => ?_) (fun k1 => ?_)
                · have hlt := hlt' k1
                  have hg := srtD_get hlt
                  have hnx := hnx hlt
                  generalize sorts[i] = x at *
                  obtain ⟨c, b⟩ := x
                  conv => whnf
                  refine ⟨by omega, _, hg, rfl, ?_⟩
                  conv => whnf
                  refine ⟨by simp, by unfold fits; simp at hal ⊢; omega, by simp at hal ⊢; omega, ?_⟩
                  conv => whnf
                  refine ⟨hlt, trivial, normW_of ?_⟩
                  conv => whnf
                  rw [hnx, wi hlt]
                  have htk : (strsD (y :: r)).take ((y :: r).length) = strsD (y :: r) := by rw [← strsD_len, List.take_length]
                  show _ = S.mk [(4, cV (.own 47 1 (y :: (r ++ [c])).length)), _, _, _] [(47, .arr 1 (strsD ((y :: r) ++ [c])) false)]
                  rw [show (y :: (r ++ [c])).length = (y :: r).length + 1 by simp, show strsD ((y :: r) ++ [c]) = (strsD (y :: r)).take ((y :: r).length) ++ strsD [c] by rw [htk]; simp [strsD]]
                  rfl
                · have hE := hend k1
                  have htk : (strsD (y :: r)).take ((y :: r).length) = strsD (y :: r) := by rw [← strsD_len, List.take_length]
                  have hcc := sat_columns (y :: r) 1
                  unfold strsC at hcc
                  rw [← htk] at hcc
                  rw [← hE]
                  conv => whnf
                  refine Sat.mono (hcc) ?_
                  rintro _ rfl
                  rfl
          · have h5 : (op == 4) = false := h5
            rw [h5, cond_false]
            conv => whnf
            refine cond_i (fun h6 => ?_) (fun h6 => ?_)
            · have h6 : (op == 5) = true := h6
              rw [h6, cond_true]
              conv => whnf
              refine cond_i (fun h7 => ?_) (fun h7 => ?_)
              · have h7 : (decide (n < 0) || decide (n > 20000)) = true := h7
                rw [h7, cond_true]
                conv => whnf
                rfl
              · have h7 : (decide (n < 0) || decide (n > 20000)) = false := h7
                rw [h7, cond_false]
                conv => whnf
                rfl
            · have h6 : (op == 5) = false := h6
              rw [h6, cond_false]
              conv => whnf
              refine cond_i (fun h7 => ?_) (fun h7 => ?_)
              · have h7 : (op == 9) = true := h7
                rw [h7, cond_true]
                conv => whnf
                refine Sat.mono (hc 0) ?_
                rintro _ rfl
                rfl
              · have h7 : (op == 9) = false := h7
                rw [h7, cond_false]
                conv => whnf
                refine cond_i (fun h8 => ?_) (fun h8 => ?_)
                · have h8 : (!identB tb) = true := h8
                  rw [h8, cond_true]
                  conv => whnf
                  rfl
                · have h8 : (!identB tb) = false := h8
                  rw [h8, cond_false]
                  conv => whnf
                  refine cond_i (fun h9 => ?_) (fun h9 => ?_)
                  · have h9 : (op == 6) = true := h9
                    rw [h9, cond_true]
                    conv => whnf
                    refine Sat.mono (hc 1) ?_
                    rintro _ rfl
                    rfl
                  · have h9 : (op == 6) = false := h9
                    rw [h9, cond_false]
                    conv => whnf
                    refine Sat.mono (hc 0) ?_
                    rintro _ rfl
                    rfl

structure Qry where
  src : ByteArray
  steps : List Stp
def stpD (l : List Stp) : List (List D) := l.map Stp.ds
theorem stpD_len (l : List Stp) : (stpD l).length = l.length := by simp [stpD]
theorem stpD_get {r : List Stp} {i : Nat} (h : i < r.length) : (stpD r)[((i : Int)).toNat]? = some (r[i]).ds := by simp [stpD, List.getElem?_eq_getElem h]
def Qry.w (q : Qry) : W := .agg [str q.src, .d (.sl (stpD q.steps))]
def stepsErr : List Stp → Int
  | [] => 0
  | s :: r => bif s.err != 0 then s.err else stepsErr r
def Qry.err (q : Qry) : Int := bif !identB q.src then 3 else bif decide ((q.steps.length : Int) > 16) then 7 else stepsErr q.steps
theorem sat_Query (q : Qry) (hs : ∀ s ∈ q.steps, s.sorts.length ≤ 1000000) : Sat Pg k_syntax_Query [q.w] (fun r => r = rI q.err) := by
  obtain ⟨src, l⟩ := q
  have hs : ∀ s ∈ l, s.sorts.length ≤ 1000000 := hs
  unfold Qry.err
  simp only
  rw [← stpD_len]
  refine Sat_of T5 c_syntax_Query_ok (by kernel_rfl) ?_
  conv => whnf
  refine cond_i (fun h1 => ?_) (fun h1 => ?_)
  · have h1 : (!identB src) = true := h1
    rw [h1, cond_true]
    conv => whnf
    rfl
  · have h1 : (!identB src) = false := h1
    rw [h1, cond_false]
    conv => whnf
    refine cond_i (fun h2 => ?_) (fun h2 => ?_)
    · have h2 : decide (((stpD l).length : Int) > 16) = true := h2
      rw [h2, cond_true]
      conv => whnf
      rfl
    · have h2 : decide (((stpD l).length : Int) > 16) = false := h2
      rw [h2, cond_false]
      have h2 := of_decide_eq_false h2
      rw [stpD_len] at h2
      conv => whnf
      refine loopI (P := Pg) (f := T5.f) (body := c_syntax_Query_L0) l.length (fun i => ⟨[(17, .w (.c (.d (.sl (stpD l))))), (18, intV (stpD l).length), (19, intV i)], []⟩) (fun i => stepsErr l = stepsErr (l.drop i)) ⟨rfl, normW_of ?_⟩ ?_
      · conv => whnf
        rfl
      · intro i hi hR
        conv => whnf
        refine cond_i (fun k1 => ?_) (fun k1 => ?_)
        · have hlt : i < l.length := by have := of_decide_eq_true k1; rw [stpD_len] at this; omega
          rw [drop_cons hlt] at hR
          have hg := stpD_get hlt
          have hm := hs _ (List.getElem_mem hlt)
          generalize l[i] = s at *
          have hst := sat_Step s hm
          simp only [stepsErr] at hR
          generalize s.err = e at *
          obtain ⟨op, ⟨eo, nm, ⟨vk, vn, vs⟩, ks⟩, items, cols, aggs, sorts, n, tb⟩ := s
          conv => whnf
          refine ⟨by omega, _, hg, rfl, ?_⟩
          conv => whnf
          refine Sat.mono (hst) ?_
          rintro _ rfl
          conv => whnf
          refine cond_i (fun k2 => ?_) (fun k2 => ?_)
          · have k2 : (e != 0) = true := k2
            rw [k2, cond_true] at hR
            conv => whnf
            rw [hR]; rfl
          · have k2 : (e != 0) = false := k2
            rw [k2, cond_false] at hR
            conv => whnf
            refine ⟨hlt, hR, normW_of ?_⟩
            conv => whnf
            rw [wrapS hlt (by omega)]
            rfl
        · have hge : l.length ≤ i := by have := of_decide_eq_false k1; rw [stpD_len] at this; omega
          rw [List.drop_eq_nil_of_le hge] at hR
          conv => whnf
          rw [hR]; rfl
end Go.Proofs.YtcajnlkkjdhjdaaGreat

namespace Go.Proofs.YtcajnlkkjdhjdaaGreat
open Go Go.AM
attribute [local irreducible] Sat SatH LoopP
set_option maxRecDepth 100000
set_option maxHeartbeats 1000000

def linBad (s : Stp) (name : ByteArray) : Bool := bif s.op == 1 || s.op == 2 then false else bif s.op == 6 || s.op == 7 then beqS s.table name else true
theorem sat_Linear_1 (s : Stp) (name : ByteArray) : Sat Pg k_delta_Linear_1 [s.w, .c (.fp [.lit (.string name)])] (fun r => r = rB (linBad s name)) := by
  obtain ⟨op, ⟨eo, nm, ⟨vk, vn, vs⟩, ks⟩, items, cols, aggs, sorts, n, tb⟩ := s
  show Sat _ _ _ (fun r => r = rB (bif op == 1 || op == 2 then false else bif op == 6 || op == 7 then beqS tb name else true))
  refine Sat_of T5 c_delta_Linear_1_ok (by kernel_rfl) ?_
  repeat' (conv => whnf
           refine cond_i (fun h => ?_) (fun h => ?_))
  all_goals refine congrArg rB ?_
  all_goals try simp only [cond_true, cond_false, Bool.true_or, Bool.false_or, Bool.or_true, Bool.or_false, Bool.and_true, Bool.and_false, Bool.true_and, Bool.false_and, Bool.not_true, Bool.not_false, bne_self_eq_false, beq_self_eq_true, Bool.false_eq_true, Bool.true_eq_false, reduceCtorEq] at *
  all_goals first | done | (simp only [*, cond_true, cond_false, Bool.true_or, Bool.false_or, Bool.or_true, Bool.or_false, Bool.and_true, Bool.and_false, Bool.true_and, Bool.false_and, Bool.not_true, Bool.not_false, bne_self_eq_false, beq_self_eq_true, Bool.false_eq_true, Bool.true_eq_false, reduceCtorEq]; done) | (simp_all only [cond_true, cond_false, Bool.true_or, Bool.false_or, Bool.or_true, Bool.or_false, Bool.and_true, Bool.and_false, Bool.true_and, Bool.false_and, Bool.not_true, Bool.not_false, bne_self_eq_false, beq_self_eq_true, Bool.false_eq_true, Bool.true_eq_false, reduceCtorEq]; done) | skip

theorem sat_IndexFunc_QStep (g : FuncId) (cap : List D) (p : Stp → Bool) (l : List Stp) (hp : ∀ x : Stp, Sat Pg g [x.w, .c (.fp cap)] (fun r => r = rB (p x))) :
    Sat Pg k_slices_IndexFunc_QStep [.c (.d (.sl (stpD l))), .c (.d (.fn g [cap]))] (fun r => r = rI (findI p 0 l)) := by
  refine sat_len 0 (by kernel_rfl) rfl fun hlen => ?_
  rw [stpD_len] at hlen
  refine Sat_of T5 c_slices_IndexFunc_QStep_ok (by kernel_rfl) ?_
  conv => whnf
  refine loopI (P := Pg) (f := T5.f) (body := c_slices_IndexFunc_QStep_L0) l.length (fun i => ⟨[(0, .w (.c (.d (.sl (stpD l))))), (1, .w (.c (.d (.fn g [cap])))), (7, intV (stpD l).length), (8, intV i)], []⟩)
    (fun i => findI p 0 l = findI p i (l.drop i)) ⟨rfl, normW_of ?_⟩ ?_
  · conv => whnf
    rfl
  · intro i hi hR
    conv => whnf
    refine cond_i (fun h1 => ?_) (fun h1 => ?_)
    · have hlt : i < l.length := by have := of_decide_eq_true h1; rw [stpD_len] at this; omega
      rw [drop_cons hlt] at hR
      have hg := stpD_get hlt
      have hpx := hp l[i]
      simp only [findI] at hR
      generalize hs : l[i] = s at *
      generalize p s = b at *
      clear hs
      obtain ⟨op, ⟨eo, nm, ⟨vk, vn, vs⟩, ks⟩, items, cols, aggs, sorts, n, tb⟩ := s
      conv => whnf
      refine ⟨by omega, _, hg, rfl, ?_⟩
      conv => whnf
      refine Sat.mono (hpx) ?_
      rintro _ rfl
      conv => whnf
      refine cond_i (fun h3 => ?_) (fun h3 => ?_)
      · have h3 : b = true := h3
        rw [h3, cond_true] at hR
        conv => whnf
        exact congrArg rI hR.symm
      · have h3 : b = false := h3
        rw [h3, cond_false] at hR
        conv => whnf
        refine ⟨hlt, hR, normW_of ?_⟩
        conv => whnf
        rw [wrapS hlt hlen]
        rfl
    · have hge : l.length ≤ i := by have := of_decide_eq_false h1; rw [stpD_len] at this; omega
      rw [List.drop_eq_nil_of_le hge] at hR
      conv => whnf
      exact congrArg rI hR.symm
theorem sat_ContainsFunc_QStep (g : FuncId) (cap : List D) (p : Stp → Bool) (l : List Stp) (hp : ∀ x : Stp, Sat Pg g [x.w, .c (.fp cap)] (fun r => r = rB (p x))) :
    Sat Pg k_slices_ContainsFunc_QStep [.c (.d (.sl (stpD l))), .c (.d (.fn g [cap]))] (fun r => r = rB (l.any p)) := by
  refine Sat_of T5 c_slices_ContainsFunc_QStep_ok (by kernel_rfl) ?_
  conv => whnf
  refine Sat.mono (sat_IndexFunc_QStep g cap p l hp) ?_
  rintro _ rfl
  conv => whnf
  exact congrArg rB (findI_ge _ l 0)

def linB (q : Qry) (name : ByteArray) : Bool := bif q.err != 0 || !beqS q.src name then false else !q.steps.any fun s => linBad s name
theorem sat_Linear (q : Qry) (name : ByteArray) (hs : ∀ s ∈ q.steps, s.sorts.length ≤ 1000000) : Sat Pg k_delta_Linear [q.w, .c (str name)] (fun r => r = rB (linB q name)) := by
  have hq := sat_Query q hs
  unfold linB
  generalize q.err = e at *
  obtain ⟨src, l⟩ := q
  have hc := sat_ContainsFunc_QStep k_delta_Linear_1 [.lit (.string name)] (fun s => linBad s name) l (fun x => sat_Linear_1 x name)
  show Sat _ _ _ (fun r => r = rB (bif e != 0 || !beqS src name then false else !l.any fun s => linBad s name))
  generalize (l.any fun s => linBad s name) = b at *
  refine Sat_of T5 c_delta_Linear_ok (by kernel_rfl) ?_
  conv => whnf
  refine Sat.mono (hq) ?_
  rintro _ rfl
  conv => whnf
  refine cond_i (fun h => ?_) (fun h => ?_)
  · have h : (e != 0 || !beqS src name) = true := h
    conv => whnf
    rw [h]; rfl
  · have h : (e != 0 || !beqS src name) = false := h
    rw [h, cond_false]
    conv => whnf
    refine Sat.mono (hc) ?_
    rintro _ rfl
    conv => whnf
    rfl
end Go.Proofs.YtcajnlkkjdhjdaaGreat

namespace Go.AM

/-- Consecutive fields. -/
def laid (P : Program) : Nat → List Field → Option Nat
  | o, [] => some o
  | o, f :: r => bif Nat.beq f.offset o then laid P (o + P.cellsOf f.type) r else none

def plainTy (P : Program) : Nat → TypeId → Bool
  | 0, _ => false
  | n + 1, t => match P.underlying t with
    | some .bool => true
    | some (.int _) => true
    | some .string => true
    | some (.slice e) => Nat.blt 0 (P.cellsOf e) && plainTy P n e
    | some (.struct fs) => (match laid P 0 fs.toList with | some m => Nat.beq m (P.cellsOf t) | none => false) && fs.toList.all fun f => plainTy P n f.type
    | _ => false

def All2 {α β : Type} (R : α → β → Prop) : List α → List β → Prop
  | [], [] => True
  | x :: xs, y :: ys => R x y ∧ All2 R xs ys
  | _, _ => False

/-- The data that a type's values read as. -/
def Ty (P : Program) : Nat → TypeId → List D → Prop
  | 0, _, _ => False
  | n + 1, t, ds => match P.underlying t with
    | some .bool => ∃ b, ds = [.lit (.bool b)]
    | some (.int k) => ∃ m, ds = [.lit (.int k m)] ∧ (Lit.int k m).wf = true
    | some .string => ∃ s : ByteArray, ds = [.lit (.string s)] ∧ s.size ≤ maxLen
    | some (.slice e) => ∃ els, ds = [.sl els] ∧ els.length ≤ maxLen ∧ ∀ y ∈ els, Ty P n e y
    | some (.struct fs) => ∃ dss : List (List D), ds = dss.flatten ∧ All2 (fun f d => Ty P n f.type d) fs.toList dss
    | _ => False

end Go.AM

namespace Go.AM

section
variable {H : Type} {enc : TypeId × Value → H} {P : Program} {w : World} {base : Nat} {spare : Nat → Bool} {held : Bool} {ι : Nat → Gh}

def Okw (w : World) (b : Nat) : Prop := b < w.heap.size

theorem addr_add' (a : Addr) (j : Nat) (h : a.spot = none) : a.add j = ⟨a.block, a.off + j, none⟩ := by
  cases a with
  | mk b o s => cases h; exact addr_add b o j

theorem cell_spot {a : Addr} {v : Value} (h : w.cell? a = some v) : a.spot = none ∧ a.block < w.heap.size := by
  unfold World.cell? at h
  split at h
  · rename_i hb
    cases hs : a.spot with
    | none => exact ⟨rfl, (Array.getElem?_eq_some_iff.1 hb).1⟩
    | some s => rw [hs] at h; simp at h
  · cases h

theorem RDc_of_CRs {b : Nat} : ∀ {ds : List D} {vs : List Value} {o : Nat}, CRs ι w (Okw w) (ds.map .d) vs → (∀ j v, vs[j]? = some v → w.cell? ⟨b, o + j, none⟩ = some v) → RDc w (Okw w) b o ds
  | [], _, _, _, _ => by simp only [RDc]
  | d :: ds, [], _, h, _ => h.elim
  | d :: ds, v :: vs, o, h, hc => by
    simp only [RDc]
    refine ⟨⟨v, hc 0 v rfl, h.1⟩, RDc_of_CRs h.2 fun j u hu => ?_⟩
    rw [show o + 1 + j = o + (j + 1) by omega]
    exact hc (j + 1) u (by simpa using hu)

theorem RDs_of {b sz : Nat} : ∀ (els : List (List D)) (o : Nat), (∀ (i : Nat) (e : List D), els[i]? = some e → e.length = sz ∧ RDc w (Okw w) b (o + i * sz) e) → RDs w (Okw w) b sz o els
  | [], _, _ => by simp only [RDs]
  | e :: r, o, h => by
    simp only [RDs]
    refine ⟨(h 0 e rfl).1, by simpa using (h 0 e rfl).2, RDs_of r (o + sz) fun i x hx => ?_⟩
    have := h (i + 1) x (by simpa using hx)
    refine ⟨this.1, ?_⟩
    rw [show o + sz + i * sz = o + (i + 1) * sz by rw [Nat.add_mul, Nat.one_mul]; omega]
    exact this.2
end

end Go.AM

namespace Go.AM

section
variable {H : Type} {enc : TypeId × Value → H} {P : Program} {w : World} {base : Nat} {spare : Nat → Bool} {held : Bool} {ι : Nat → Gh}

theorem RDc_len {ok : Nat → Prop} : ∀ {ds : List D} {vs : List Value}, CRs ι w ok (ds.map .d) vs → ds.length = vs.length := fun h => by
  have := h.length
  simpa using this

/-- The elements of a row, each of which reads. -/
theorem els_of {R : List D → Prop} {ok : Nat → Prop} {g : Nat → Option (List Value)} : ∀ (len : Nat), (∀ i, i < len → ∃ cs ds, g i = some cs ∧ R ds ∧ CRs ι w ok (ds.map .d) cs) →
    ∃ els : List (List D), els.length = len ∧ (∀ y ∈ els, R y) ∧ ∀ i e, els[i]? = some e → ∃ cs, g i = some cs ∧ CRs ι w ok (e.map .d) cs
  | 0, _ => ⟨[], rfl, fun _ h => (by cases h), fun i e h => (by simp at h)⟩
  | n + 1, h => by
    obtain ⟨els, h1, h2, h3⟩ := els_of (R := R) (ok := ok) (g := g) n (fun i hi => h i (by omega))
    obtain ⟨cs, ds, h4, h5, h6⟩ := h n (by omega)
    refine ⟨els ++ [ds], by simp [h1], fun y hy => ?_, fun i e he => ?_⟩
    · rcases List.mem_append.1 hy with hy | hy
      · exact h2 y hy
      · simp at hy; subst hy; exact h5
    · by_cases hi : i < els.length
      · rw [List.getElem?_append_left hi] at he
        exact h3 i e he
      · rw [List.getElem?_append_right (by omega)] at he
        have : i - els.length = 0 := by
          rcases Nat.eq_zero_or_pos (i - els.length) with h | h
          · exact h
          · rw [List.getElem?_eq_none (by simp; omega)] at he; cases he
        rw [this] at he
        simp at he
        subst he
        rw [show i = n by omega]
        exact ⟨cs, h4, h6⟩

/-- Fields one behind the other. -/
theorem fields_of {ok : Nat → Prop} {n : Nat} (cs : List Value) : ∀ (fs : List Field) (o m : Nat), laid P o fs = some m → m ≤ cs.length →
    (∀ f ∈ fs, ∃ ds, Ty P n f.type ds ∧ CRs ι w ok (ds.map .d) ((cs.drop f.offset).take (P.cellsOf f.type))) →
    o ≤ m ∧ ∃ dss : List (List D), All2 (fun f d => Ty P n f.type d) fs dss ∧ CRs ι w ok (dss.flatten.map .d) ((cs.drop o).take (m - o))
  | [], o, m, h, _, _ => by
    cases h
    exact ⟨Nat.le_refl _, [], trivial, by simp; trivial⟩
  | f :: fs, o, m, h, hm, hall => by
    simp only [laid] at h
    cases hb : Nat.beq f.offset o with
    | false => rw [hb] at h; cases h
    | true =>
      rw [hb] at h
      have hb := Nat.eq_of_beq_eq_true hb
      obtain ⟨ds, h1, h2⟩ := hall f List.mem_cons_self
      obtain ⟨h3, dss, h4, h5⟩ := fields_of cs fs _ m h hm fun f' hf => hall f' (List.mem_cons_of_mem _ hf)
      refine ⟨by omega, ds :: dss, ⟨h1, h4⟩, ?_⟩
      rw [hb] at h2
      rw [List.flatten_cons, List.map_append]
      have : (cs.drop o).take (m - o) = (cs.drop o).take (P.cellsOf f.type) ++ (cs.drop (o + P.cellsOf f.type)).take (m - (o + P.cellsOf f.type)) := by
        rw [show m - o = P.cellsOf f.type + (m - (o + P.cellsOf f.type)) by omega, List.take_add, List.drop_drop]
      rw [this]
      exact CRs.append h2 h5
end

end Go.AM

namespace Go.AM

section
variable {H : Type} {enc : TypeId × Value → H} {P : Program} {w : World} {base : Nat} {spare : Nat → Bool} {held : Bool} {ι : Nat → Gh}

theorem readD : ∀ (n : Nat) (t : TypeId), plainTy P n t = true → ∀ (fuel : Nat) (cs : List Value) (x : DataW H × List MemPlace), DataW.trod enc P w base spare held fuel t cs = some x →
    ∃ ds, Ty P n t ds ∧ CRs ι w (Okw w) (ds.map .d) cs := by
  intro n
  induction n with
  | zero => intro t h; cases h
  | succ n ih =>
    intro t hp fuel cs x hx
    simp only [plainTy] at hp
    simp only [Ty]
    split at hp
    · rename_i hu
      obtain ⟨b, rfl, _⟩ := DataW.trod_bool hu hx
      exact ⟨_, ⟨b, rfl⟩, ⟨by simp only [CR, RD]; exact ⟨trivial, rfl⟩, trivial⟩⟩
    · rename_i k hu
      obtain ⟨m, rfl, _, hw⟩ := DataW.trod_int hu hx
      exact ⟨_, ⟨m, rfl, hw⟩, ⟨by simp only [CR, RD]; exact ⟨trivial, rfl⟩, trivial⟩⟩
    · rename_i hu
      obtain ⟨s, rfl, _, hw⟩ := DataW.trod_string hu hx
      exact ⟨_, ⟨s, rfl, hw⟩, ⟨by simp only [CR, RD]; exact ⟨trivial, rfl⟩, trivial⟩⟩
    · rename_i e hu
      rw [Bool.and_eq_true] at hp
      have hpos : 0 < P.cellsOf e := Nat.le_of_ble_eq_true hp.1
      rcases DataW.trod_slice hu hx with ⟨rfl, _⟩ | ⟨a, len, cap, elems, rest, m, _, rfl, _, hb, hl, hm, hlen, hel, _, _⟩
      · exact ⟨_, ⟨[], rfl, Nat.zero_le _, fun _ h => (by cases h)⟩, ⟨by simp only [CR, RD]; exact ⟨none, 0, 0, rfl, rfl, Nat.le_refl _, Nat.zero_le _, .inl trivial⟩, trivial⟩⟩
      · obtain ⟨els, h1, h2, h3⟩ := els_of (w := w) (ι := ι) (R := Ty P n e) (ok := Okw w) (g := fun i => w.cells? base (a.add (i * P.cellsOf e)) (P.cellsOf e)) len (fun i hi => by
          have h := hel i hi
          rw [List.getElem?_eq_getElem (by omega)] at h
          obtain ⟨cs', g1, g2⟩ := Option.bind_eq_some_iff.1 h
          obtain ⟨ds, g3, g4⟩ := ih e hp.2 m cs' _ g2
          exact ⟨cs', ds, g1, g3, g4⟩)
        refine ⟨_, ⟨els, rfl, by omega, h2⟩, ⟨?_, trivial⟩⟩
        simp only [CR, RD]
        refine ⟨some a, len, cap, rfl, h1.symm, hl, hm, ?_⟩
        cases hels : els with
        | nil => exact .inl rfl
        | cons e0 r =>
          right
          have hcell : ∀ i y, els[i]? = some y → ∃ cs', cs'.length = P.cellsOf e ∧ (∀ j, j < P.cellsOf e → w.cell? ((a.add (i * P.cellsOf e)).add j) = cs'[j]?) ∧ CRs ι w (Okw w) (y.map .d) cs' := fun i y hy => by
            obtain ⟨cs', g1, g2⟩ := h3 i y hy
            obtain ⟨_, g3, g4⟩ := World.cells?_some g1
            exact ⟨cs', g3, g4, g2⟩
          obtain ⟨cs0, c1, c2, _⟩ := hcell 0 e0 (by rw [hels]; rfl)
          have hc0 := c2 0 hpos
          rw [List.getElem?_eq_getElem (by omega)] at hc0
          have hspot : a.spot = none ∧ a.block < w.heap.size := by
            have := cell_spot hc0
            refine ⟨?_, ?_⟩
            · cases hs : a.spot with
              | none => rfl
              | some s => exfalso; have h5 := this.1; simp [Addr.add, hs] at h5
            · have h5 := this.2
              unfold Addr.add at h5
              (repeat' split at h5) <;> exact h5
          refine ⟨a.block, a.off, P.cellsOf e, ?_, hspot.2, ?_⟩
          · obtain ⟨b, o, s⟩ := a
            cases hspot.1; rfl
          · rw [← hels]
            refine RDs_of els a.off fun i y hy => ?_
            obtain ⟨cs', g1, g2, g3⟩ := hcell i y hy
            refine ⟨by rw [RDc_len g3, g1], RDc_of_CRs g3 fun j v hv => ?_⟩
            have hj : j < P.cellsOf e := by rw [← g1]; exact (List.getElem?_eq_some_iff.1 hv).1
            have := g2 j hj
            rw [addr_add' a _ hspot.1, addr_add] at this
            rw [this, hv]
    · rename_i fs hu
      rw [Bool.and_eq_true] at hp
      obtain ⟨hp1, hp2⟩ := hp
      split at hp1
      · rename_i m hm
        have hm' := Nat.eq_of_beq_eq_true hp1
        obtain ⟨xs, k, _, _, hlen, hxs, hf⟩ := DataW.trod_struct hu hx
        obtain ⟨_, dss, h1, h2⟩ := fields_of (w := w) (ι := ι) (ok := Okw w) (n := n) cs fs.toList 0 m hm (by omega) (fun f hfm => by
          obtain ⟨i, hi⟩ := List.getElem?_of_mem hfm
          have hi' : fs[i]? = some f := by rw [← Array.getElem?_toList]; exact hi
          have hlt : i < xs.length := by rw [hxs]; exact (Array.getElem?_eq_some_iff.1 hi').1
          have h := hf i f hi'
          rw [List.getElem?_eq_getElem hlt] at h
          exact ih f.type (List.all_eq_true.1 hp2 f hfm) k _ _ h)
        refine ⟨dss.flatten, ⟨dss, rfl, h1⟩, ?_⟩
        rw [List.drop_zero, Nat.sub_zero, List.take_of_length_le (by omega)] at h2
        exact h2
      · cases hp1
    · cases hp
end

end Go.AM

namespace Go.AM
open Go.RowKit Go.WideShapes Go.ChangeShapes

section
variable {H : Type} {enc : TypeId × Value → H} {P : Program}

def isAggTy (P : Program) (t : TypeId) : Bool := match P.underlying t with | some (.struct _) => true | some (.array _ _) => true | _ => false

/-- An argument of this type, as the machine has it. -/
def Arg (P : Program) (n : Nat) (t : TypeId) (x : W) : Prop := ∃ ds, Ty P n t ds ∧ (isAggTy P t = true → x = .agg (ds.map .d)) ∧ (isAggTy P t = false → ∃ d, ds = [d] ∧ x = .c (.d d))

theorem cells_of_ok {W : World} {b0 : Nat} {t : TypeId} {v : Value} (hval : Value.okWide P W .any b0 t v) (ha : isAggTy P t = false) : v.cells = #[v] := by
  unfold Value.okWide at hval
  unfold isAggTy at ha
  split at hval
  · rename_i h; rw [h] at ha; cases ha
  · rename_i h; rw [h] at ha; cases ha
  · cases v with
    | agg cs =>
      unfold Cell.okWide at hval
      unfold Cell.ok at hval
      (repeat' split at hval) <;> first | exact hval.elim | (rename_i h _; cases h) | skip
      all_goals simp_all
    | _ => rfl

theorem agg_of_ok {W : World} {b0 : Nat} {t : TypeId} {v : Value} (hval : Value.okWide P W .any b0 t v) (ha : isAggTy P t = true) : ∃ cs, v = .agg cs := by
  unfold Value.okWide at hval
  unfold isAggTy at ha
  split at hval
  · exact ⟨_, hval.choose_spec.1⟩
  · exact ⟨_, hval.choose_spec.1⟩
  · rename_i h1 h2
    split at ha
    · rename_i h; exact absurd h (h1 _)
    · rename_i h; exact absurd h (h2 _ _)
    · cases ha

theorem readArg {W : World} {b0 : Nat} {n : Nat} {t : TypeId} {v : Value} {d : DataW H} {p : List MemPlace} {ι : Nat → Gh} (hp : plainTy P n t = true) (hval : Value.okWide P W .any b0 t v)
    (h : DataW.Trod enc P W 0 (fun _ => true) true t v d p) : ∃ x, Arg P n t x ∧ WR ι W (Okw W) x v := by
  obtain ⟨fuel, hf⟩ := h
  obtain ⟨ds, hty, hcs⟩ := readD (ι := ι) n t hp fuel _ _ hf
  cases ha : isAggTy P t with
  | true =>
    obtain ⟨cs, rfl⟩ := agg_of_ok hval ha
    refine ⟨.agg (ds.map .d), ⟨ds, hty, fun _ => rfl, fun h => (by rw [ha] at h; cases h)⟩, cs.toList, by simp, ?_⟩
    simpa [Value.cells] using hcs
  | false =>
    rw [cells_of_ok hval ha] at hcs
    match ds, hcs with
    | [d], hcs => exact ⟨.c (.d d), ⟨[d], hty, fun h => (by rw [ha] at h; cases h), fun _ => ⟨d, rfl, rfl⟩⟩, hcs.1⟩
    | [], hcs => exact hcs.elim
    | _ :: _ :: _, hcs => exact hcs.2.elim

theorem readArgs {W : World} {b0 : Nat} {n : Nat} {ι : Nat → Gh} : ∀ (ts : List TypeId) (vs : List Value) (ds : List (DataW H)) (p : List MemPlace), (∀ t ∈ ts, plainTy P n t = true) →
    (∀ (j : Nat) t v, ts[j]? = some t → vs[j]? = some v → Value.okWide P W .any b0 t v) → DataW.TrodAll enc P W 0 (fun _ => true) true ts vs ds p →
    ∃ xs, All2 (Arg P n) ts xs ∧ WRs ι W (Okw W) xs vs ∧ ds.length = ts.length
  | [], vs, ds, p, _, _, h => by
    obtain ⟨rfl, rfl, rfl⟩ := trodAll_nil h
    exact ⟨[], trivial, trivial, rfl⟩
  | t :: ts, vs, ds, p, hp, hval, h => by
    obtain ⟨v, vs1, d, ds1, a, b, rfl, rfl, rfl, h1, h2⟩ := trodAll_cons h
    obtain ⟨x, hx1, hx2⟩ := readArg (ι := ι) (hp t List.mem_cons_self) (hval 0 t v rfl rfl) h1
    obtain ⟨xs, hxs1, hxs2, hl⟩ := readArgs (ι := ι) ts vs1 ds1 b (fun t ht => hp t (List.mem_cons_of_mem _ ht)) (fun j t v hj hv => hval (j + 1) t v hj hv) h2
    exact ⟨x :: xs, ⟨hx1, hxs1⟩, ⟨hx2, hxs2⟩, by simp [hl]⟩

theorem argsStay {W W' : World} (hl : laidOutB P = true) (hb : Below W.heap.size W W') (sp : Nat → Bool) : ∀ (ts : List TypeId) (vs : List Value) (ds : List (DataW H)) (p : List MemPlace), (∀ t ∈ ts, P.readableRec t = true ∧ t < P.types.size) →
    (∀ x ∈ p, sp x.block = true) → (∀ x ∈ p, x.block < W.heap.size) → DataW.TrodAll enc P W 0 (fun _ => true) true ts vs ds p → DataW.TrodAll enc P W' 0 sp true ts vs ds p
  | [], vs, ds, p, _, _, _, h => by
    obtain ⟨rfl, rfl, rfl⟩ := trodAll_nil h
    exact rfl
  | t :: ts, vs, ds, p, ht, hsp, hlt, h => by
    obtain ⟨v, vs1, d, ds1, a, b, rfl, rfl, rfl, h1, h2⟩ := trodAll_cons h
    exact ⟨a, b, WideElems.Trod_stays hl (ht t List.mem_cons_self).1 (ht t List.mem_cons_self).2 h1 (fun x hx => hb.same (hlt x (List.mem_append_left _ hx))) (fun x hx => hsp x (List.mem_append_left _ hx)),
      argsStay hl hb sp ts vs1 ds1 b (fun t h => ht t (List.mem_cons_of_mem _ h)) (fun x hx => hsp x (List.mem_append_right _ hx)) (fun x hx => hlt x (List.mem_append_right _ hx)) h2, rfl⟩

theorem post_of_below {f : Func} {s : ChangeSpec} {apart fresh handsOn again : Bool} {W W' : World} {args : Array Value} {v : Value} {ds gs : List (DataW H)} {before pa pv : List MemPlace}
    (hW : DataW.Whole enc P f.params.toList s.vars apart W args.toList ds gs before)
    (hres : ∀ (b : Nat) (sp : Nat → Bool) (hd : Bool), DataW.TrodAll enc P W' b sp hd f.resultTypes.toList (v.resultList f.resultTypes.size) (s.fn H (ds ++ gs)).results [])
    (hargs : ∀ sp : Nat → Bool, (∀ p ∈ before, sp p.block = true) → DataW.TrodAll enc P W' 0 sp true f.params.toList args.toList (s.fn H (ds ++ gs)).args pa)
    (hvars : ∀ sp : Nat → Bool, (∀ p ∈ before, sp p.block = true) → DataW.TrodVars enc P W' sp s.vars (s.fn H (ds ++ gs)).vars pv)
    (hps : before = pa ++ pv) (hb : Below W.heap.size W W')
    (hok : ∀ (j : Nat) (t : TypeId) (r : Value), f.resultTypes[j]? = some t → (v.resultList f.resultTypes.size)[j]? = some r → Value.okWide P W' .any 0 t r) :
    s.post enc P f apart fresh handsOn again W args v W' := by
  have hlt : ∀ p ∈ before, p.block < W.heap.size := fun p hp => hW.lt p hp
  have hold : ∀ p ∈ before, (fun b => decide (b < W.heap.size)) p.block = true := fun p hp => by simpa using hlt p hp
  refine ⟨ds, gs, before, [], pa, pv, hW, hres _ _ _, hargs _ hold, hvars _ hold, World.keptBut_mono (fun p hp => ⟨hp, ?_⟩) (hb.frame (· ∈ before)), fun _ => ?_⟩
  · rw [hps, List.mem_append] at hp
    exact Or.inr hp
  · obtain ⟨_, _, _, _, _, hz, hn⟩ := hW
    refine ⟨hok, _, _, ([] ++ pa) ++ pv, ⟨[] ++ pa, pv, trodAll_append (hargs _ (fun _ _ => rfl)) (hres _ _ _), hvars _ (fun _ _ => rfl), rfl, ?_, ?_⟩, ?_⟩
    · intro b off hp
      have hin : MemPlace.cell b off ∈ before := by rw [hps]; simpa using hp
      rw [hb.frozen (hlt _ hin)]
      exact hz b off hin
    · intro ha
      have := hn ha
      rw [hps] at this
      simpa using this
    · intro p hp _
      rw [hps]
      simpa using hp

def trueRes : Res := ⟨.w (.c (.d (.lit (.bool true)))), []⟩

/-- What is asked of a law's parameters. -/
def lawTys (P : Program) (n : Nat) (ts : List TypeId) : Bool := ts.all fun t => plainTy P n t && P.readableRec t && decide (t < P.types.size)

theorem law_step {f : FuncId} {fn : Func} {s : ChangeSpec} {n : Nat} {tb : TypeId} (hl : laidOutB P = true) (htys : lawTys P n fn.params.toList = true) (hvars : s.vars = []) (hres : fn.resultTypes = #[tb]) (hb : P.underlying tb = some .bool)
    (hspec : ∀ (H : Type) (ds : List (DataW H)), ds.length = fn.params.toList.length → (s.fn H ds).results = [.lit (.bool true)] ∧ (s.fn H ds).args = ds ∧ (s.fn H ds).vars = [])
    (hsat : ∀ xs, All2 (Arg P n) fn.params.toList xs → Sat P f xs (fun r => r = trueRes)) {apart fresh handsOn again : Bool}
    (W : World) (base : Nat) (args : Array Value) (ds gs : List (DataW H)) (before : List MemPlace)
    (hval : ∀ (j : Nat) t v, fn.params[j]? = some t → args[j]? = some v → Value.okWide P W .any base t v)
    (hW : DataW.Whole enc P fn.params.toList s.vars apart W args.toList ds gs before) :
    Calls P f args W fun e W' => ∃ v, e = .returned v ∧ s.post enc P fn apart fresh handsOn again W args v W' := by
  have hW' := hW
  obtain ⟨p, q, hA, hV, rfl, hfz, hnd⟩ := hW
  rw [hvars] at hV
  obtain ⟨rfl, rfl⟩ := trodVars_none hV
  simp only [lawTys, List.all_eq_true, Bool.and_eq_true, decide_eq_true_eq] at htys
  obtain ⟨xs, h1, h2, h3⟩ := readArgs (ι := fun _ => ⟨none, 0⟩) fn.params.toList args.toList ds p (fun t ht => (htys t ht).1.1) (fun j t v hj hv => hval j t v (by simpa using hj) (by simpa using hv)) hA
  have hc := (hsat xs h1).2 W (Okw W) args.toList (fun b h => h) h2
  rw [Array.toArray_toList] at hc
  refine hc.mono fun e W' ⟨v, r, he, hr, hres', hg⟩ => ⟨v, he, ?_⟩
  subst hr
  obtain ⟨_, ι, hv, _⟩ := hres'
  have hv : v = .bool true := by
    simp only [VR, WR, CR, RD, trueRes] at hv
    exact hv.1
  subst hv
  obtain ⟨s1, s2, s3⟩ := hspec H (ds ++ []) (by simpa using h3)
  have hbel : Below W.heap.size W W' := ⟨hg.os, hg.tape, hg.output.1, hg.size, fun k hk => hg.block k hk fun h => h⟩
  refine post_of_below (pa := p) (pv := []) hW' ?_ ?_ ?_ (by simp) hbel ?_
  · intro b sp hd
    rw [s1, hres]
    exact trodAll_cons_mk (shut_bool hb _) trodAll_mk0
  · intro sp hsp
    rw [s2, List.append_nil]
    exact argsStay hl hbel sp _ _ _ _ (fun t ht => ⟨(htys t ht).1.2, (htys t ht).2⟩) (fun x hx => hsp x (by simpa using hx)) (fun x hx => hW'.lt x (by simpa using hx)) hA
  · intro sp _
    rw [s3, hvars]
    rfl
  · exact ok_one hres rfl (okWide_bool_mk hb _)
end

end Go.AM

namespace Go.AM
open Go.RowKit Go.WideShapes Go.ChangeShapes

/-- What a field or an element may be; 'ref' names a row of the table. -/
inductive Fd where
  | bool
  | int (k : IntKind)
  | str
  | ref (i : Nat)
inductive Sh where
  | sl (e : Fd)
  | st (fs : List Fd)

/-- The data that values of these shapes read as. -/
def TyT (tab : List Sh) : Nat → Fd → List D → Prop
  | _, .bool, ds => ∃ b, ds = [.lit (.bool b)]
  | _, .int k, ds => ∃ m, ds = [.lit (.int k m)] ∧ (Lit.int k m).wf = true
  | _, .str, ds => ∃ s : ByteArray, ds = [.lit (.string s)] ∧ s.size ≤ maxLen
  | 0, .ref _, _ => False
  | n + 1, .ref i, ds => match tab[i]? with
    | some (.sl e) => ∃ els, ds = [.sl els] ∧ els.length ≤ maxLen ∧ ∀ y ∈ els, TyT tab n e y
    | some (.st fs) => ∃ dss : List (List D), ds = dss.flatten ∧ All2 (fun f d => TyT tab n f d) fs dss
    | none => False

def okFd (P : Program) (nums : List TypeId) (t : TypeId) : Fd → Bool
  | .bool => match P.underlying t with | some .bool => true | _ => false
  | .int k => match P.underlying t with | some (.int k1) => kindEq k1 k | _ => false
  | .str => match P.underlying t with | some .string => true | _ => false
  | .ref i => match nums[i]? with | some u => Nat.beq t u | none => false
def okFds (P : Program) (nums : List TypeId) : List Field → List Fd → Bool
  | [], [] => true
  | f :: fs, d :: ds => okFd P nums f.type d && okFds P nums fs ds
  | _, _ => false
def okSh (P : Program) (nums : List TypeId) (t : TypeId) : Sh → Bool
  | .sl e => match P.underlying t with
    | some (.slice u) => Nat.blt 0 (P.cellsOf u) && okFd P nums u e
    | _ => false
  | .st fs => match P.underlying t with
    | some (.struct l) => (match laid P 0 l.toList with | some m => Nat.beq m (P.cellsOf t) | none => false) && okFds P nums l.toList fs
    | _ => false
def okTabL (P : Program) (nums : List TypeId) : List TypeId → List Sh → Bool
  | [], [] => true
  | t :: ts, s :: ss => okSh P nums t s && okTabL P nums ts ss
  | _, _ => false
def okTab (P : Program) (nums : List TypeId) (tab : List Sh) : Bool := okTabL P nums nums tab

theorem okTabL_get {P : Program} {nums : List TypeId} : ∀ {ts : List TypeId} {ss : List Sh} {i : Nat} {t : TypeId}, okTabL P nums ts ss = true → ts[i]? = some t → ∃ s, ss[i]? = some s ∧ okSh P nums t s = true
  | [], _, i, t, _, h => by simp at h
  | t :: ts, [], i, u, h, _ => by cases h
  | t :: ts, s :: ss, i, u, h, hi => by
    simp only [okTabL, Bool.and_eq_true] at h
    cases i with
    | zero => simp at hi; subst hi; exact ⟨s, rfl, h.1⟩
    | succ i =>
      simp at hi
      obtain ⟨x, hx, ho⟩ := okTabL_get h.2 hi
      exact ⟨x, by simpa using hx, ho⟩

section
variable {H : Type} {enc : TypeId × Value → H} {P : Program} {w : World} {base : Nat} {spare : Nat → Bool} {held : Bool} {ι : Nat → Gh} {nums : List TypeId} {tab : List Sh}

theorem fieldsT {ok : Nat → Prop} {n : Nat} (cs : List Value) : ∀ (fs : List Field) (gs : List Fd) (o m : Nat), laid P o fs = some m → m ≤ cs.length → okFds P nums fs gs = true →
    (∀ f ∈ fs, ∀ g, okFd P nums f.type g = true → ∃ ds, TyT tab n g ds ∧ CRs ι w ok (ds.map .d) ((cs.drop f.offset).take (P.cellsOf f.type))) →
    o ≤ m ∧ ∃ dss : List (List D), All2 (fun f d => TyT tab n f d) gs dss ∧ CRs ι w ok (dss.flatten.map .d) ((cs.drop o).take (m - o))
  | [], [], o, m, h, _, _, _ => by
    cases h
    exact ⟨Nat.le_refl _, [], trivial, by simp; trivial⟩
  | [], _ :: _, _, _, _, _, h, _ => by cases h
  | _ :: _, [], _, _, _, _, h, _ => by cases h
  | f :: fs, g :: gs, o, m, h, hm, hg, hall => by
    simp only [okFds, Bool.and_eq_true] at hg
    simp only [laid] at h
    cases hb : Nat.beq f.offset o with
    | false => rw [hb] at h; cases h
    | true =>
      rw [hb] at h
      have hb := Nat.eq_of_beq_eq_true hb
      obtain ⟨ds, h1, h2⟩ := hall f List.mem_cons_self g hg.1
      obtain ⟨h3, dss, h4, h5⟩ := fieldsT cs fs gs _ m h hm hg.2 fun f' hf => hall f' (List.mem_cons_of_mem _ hf)
      refine ⟨by omega, ds :: dss, ⟨h1, h4⟩, ?_⟩
      rw [hb] at h2
      rw [List.flatten_cons, List.map_append]
      have : (cs.drop o).take (m - o) = (cs.drop o).take (P.cellsOf f.type) ++ (cs.drop (o + P.cellsOf f.type)).take (m - (o + P.cellsOf f.type)) := by
        rw [show m - o = P.cellsOf f.type + (m - (o + P.cellsOf f.type)) by omega, List.take_add, List.drop_drop]
      rw [this]
      exact CRs.append h2 h5

theorem kindEq_eq {a b : IntKind} (h : kindEq a b = true) : a = b := by cases a <;> cases b <;> first | rfl | cases h
theorem readT (hok : okTab P nums tab = true) : ∀ (fuel : Nat) (t : TypeId) (g : Fd), okFd P nums t g = true → ∀ (cs : List Value) (x : DataW H × List MemPlace), DataW.trod enc P w base spare held fuel t cs = some x →
    ∃ ds, TyT tab fuel g ds ∧ CRs ι w (Okw w) (ds.map .d) cs := by
  intro fuel
  induction fuel with
  | zero => intro t g _ cs x hx; simp [DataW.trod] at hx
  | succ n ih =>
    intro t g hg cs x hx
    cases g with
    | bool =>
      simp only [okFd] at hg
      split at hg
      · rename_i hu
        obtain ⟨b, rfl, _⟩ := DataW.trod_bool hu hx
        exact ⟨[.lit (.bool b)], by simp only [TyT]; exact ⟨b, rfl⟩, ⟨by simp only [CR, RD]; exact ⟨trivial, rfl⟩, trivial⟩⟩
      · cases hg
    | int k =>
      simp only [okFd] at hg
      split at hg
      · rename_i k1 hu
        have := kindEq_eq hg
        subst this
        obtain ⟨m, rfl, _, hw⟩ := DataW.trod_int hu hx
        exact ⟨[.lit (.int k1 m)], by simp only [TyT]; exact ⟨m, rfl, hw⟩, ⟨by simp only [CR, RD]; exact ⟨trivial, rfl⟩, trivial⟩⟩
      · cases hg
    | str =>
      simp only [okFd] at hg
      split at hg
      · rename_i hu
        obtain ⟨s, rfl, _, hw⟩ := DataW.trod_string hu hx
        exact ⟨[.lit (.string s)], by simp only [TyT]; exact ⟨s, rfl, hw⟩, ⟨by simp only [CR, RD]; exact ⟨trivial, rfl⟩, trivial⟩⟩
      · cases hg
    | ref i =>
      simp only [okFd] at hg
      split at hg
      · rename_i u hnu
        have := Nat.eq_of_beq_eq_true hg
        subst this
        obtain ⟨s, hs, hsh⟩ := okTabL_get hok hnu
        cases s with
        | sl e =>
          simp only [okSh] at hsh
          split at hsh
          · rename_i u hu
            rw [Bool.and_eq_true] at hsh
            have hpos : 0 < P.cellsOf u := Nat.le_of_ble_eq_true hsh.1
            simp only [TyT, hs]
            rcases DataW.trod_slice hu hx with ⟨rfl, _⟩ | ⟨a, len, cap, elems, rest, m, hfu, rfl, _, hb, hl, hm, hlen, hel, _, _⟩
            · exact ⟨_, ⟨[], rfl, Nat.zero_le _, fun _ h => (by cases h)⟩, ⟨by simp only [CR, RD]; exact ⟨none, 0, 0, rfl, rfl, Nat.le_refl _, Nat.zero_le _, .inl trivial⟩, trivial⟩⟩
            · cases hfu
              obtain ⟨els, h1, h2, h3⟩ := els_of (w := w) (ι := ι) (R := TyT tab n e) (ok := Okw w) (g := fun i => w.cells? base (a.add (i * P.cellsOf u)) (P.cellsOf u)) len (fun i hi => by
                have h := hel i hi
                rw [List.getElem?_eq_getElem (by omega)] at h
                obtain ⟨cs', g1, g2⟩ := Option.bind_eq_some_iff.1 h
                obtain ⟨ds, g3, g4⟩ := ih u e hsh.2 cs' _ g2
                exact ⟨cs', ds, g1, g3, g4⟩)
              refine ⟨_, ⟨els, rfl, by omega, h2⟩, ⟨?_, trivial⟩⟩
              simp only [CR, RD]
              refine ⟨some a, len, cap, rfl, h1.symm, hl, hm, ?_⟩
              cases hels : els with
              | nil => exact .inl rfl
              | cons e0 r =>
                right
                have hcell : ∀ i y, els[i]? = some y → ∃ cs', cs'.length = P.cellsOf u ∧ (∀ j, j < P.cellsOf u → w.cell? ((a.add (i * P.cellsOf u)).add j) = cs'[j]?) ∧ CRs ι w (Okw w) (y.map .d) cs' := fun i y hy => by
                  obtain ⟨cs', g1, g2⟩ := h3 i y hy
                  obtain ⟨_, g3, g4⟩ := World.cells?_some g1
                  exact ⟨cs', g3, g4, g2⟩
                obtain ⟨cs0, c1, c2, _⟩ := hcell 0 e0 (by rw [hels]; rfl)
                have hc0 := c2 0 hpos
                rw [List.getElem?_eq_getElem (by omega)] at hc0
                have hspot : a.spot = none ∧ a.block < w.heap.size := by
                  have := cell_spot hc0
                  refine ⟨?_, ?_⟩
                  · cases hs : a.spot with
                    | none => rfl
                    | some s => exfalso; have h5 := this.1; simp [Addr.add, hs] at h5
                  · have h5 := this.2
                    unfold Addr.add at h5
                    (repeat' split at h5) <;> exact h5
                refine ⟨a.block, a.off, P.cellsOf u, ?_, hspot.2, ?_⟩
                · obtain ⟨b, o, s⟩ := a
                  cases hspot.1; rfl
                · rw [← hels]
                  refine RDs_of els a.off fun i y hy => ?_
                  obtain ⟨cs', g1, g2, g3⟩ := hcell i y hy
                  refine ⟨by rw [RDc_len g3, g1], RDc_of_CRs g3 fun j v hv => ?_⟩
                  have hj : j < P.cellsOf u := by rw [← g1]; exact (List.getElem?_eq_some_iff.1 hv).1
                  have := g2 j hj
                  rw [addr_add' a _ hspot.1, addr_add] at this
                  rw [this, hv]
          · cases hsh
        | st gs =>
          simp only [okSh] at hsh
          split at hsh
          · rename_i fs hu
            rw [Bool.and_eq_true] at hsh
            obtain ⟨hp1, hp2⟩ := hsh
            split at hp1
            · rename_i m hm
              have hm' := Nat.eq_of_beq_eq_true hp1
              obtain ⟨xs, k, hfu, _, hlen, hxs, hf⟩ := DataW.trod_struct hu hx
              cases hfu
              simp only [TyT, hs]
              obtain ⟨_, dss, h1, h2⟩ := fieldsT (w := w) (ι := ι) (ok := Okw w) (n := n) (tab := tab) (nums := nums) cs fs.toList gs 0 m hm (by omega) hp2 (fun f hfm g hg => by
                obtain ⟨i, hi⟩ := List.getElem?_of_mem hfm
                have hi' : fs[i]? = some f := by rw [← Array.getElem?_toList]; exact hi
                have hlt : i < xs.length := by rw [hxs]; exact (Array.getElem?_eq_some_iff.1 hi').1
                have h := hf i f hi'
                rw [List.getElem?_eq_getElem hlt] at h
                exact ih f.type g hg _ _ h)
              refine ⟨dss.flatten, ⟨dss, rfl, h1⟩, ?_⟩
              rw [List.drop_zero, Nat.sub_zero, List.take_of_length_le (by omega)] at h2
              exact h2
            · cases hp1
          · cases hsh
      · cases hg

/-- An argument of this shape, as the machine has it. -/
def Fd.isAgg (tab : List Sh) : Fd → Bool
  | .ref i => match tab[i]? with | some (.st _) => true | _ => false
  | _ => false
def ArgT (tab : List Sh) (g : Fd) (x : W) : Prop := ∃ n ds, TyT tab n g ds ∧ (g.isAgg tab = true → x = .agg (ds.map .d)) ∧ (g.isAgg tab = false → ∃ d, ds = [d] ∧ x = .c (.d d))

theorem isAgg_eq (hok : okTab P nums tab = true) {t : TypeId} {g : Fd} (hg : okFd P nums t g = true) : g.isAgg tab = isAggTy P t := by
  unfold isAggTy
  cases g with
  | bool =>
    simp only [okFd] at hg
    split at hg
    · rename_i h
      rw [h]; rfl
    · cases hg
  | int k =>
    simp only [okFd] at hg
    split at hg
    · rename_i h
      rw [h]; rfl
    · cases hg
  | str =>
    simp only [okFd] at hg
    split at hg
    · rename_i h
      rw [h]; rfl
    · cases hg
  | ref i =>
    simp only [okFd] at hg
    split at hg
    · rename_i u hnu
      have := Nat.eq_of_beq_eq_true hg
      subst this
      obtain ⟨s, hs, hsh⟩ := okTabL_get hok hnu
      simp only [Fd.isAgg, hs]
      cases s with
      | sl e =>
        simp only [okSh] at hsh
        split at hsh
        · rename_i h
          rw [h]
        · cases hsh
      | st e =>
        simp only [okSh] at hsh
        split at hsh
        · rename_i h
          rw [h]
        · cases hsh
    · cases hg

theorem readArgT (hok : okTab P nums tab = true) {W : World} {b0 : Nat} {t : TypeId} {g : Fd} {v : Value} {d : DataW H} {p : List MemPlace} {ι : Nat → Gh} (hg : okFd P nums t g = true) (hval : Value.okWide P W .any b0 t v)
    (h : DataW.Trod enc P W 0 (fun _ => true) true t v d p) : ∃ x, ArgT tab g x ∧ WR ι W (Okw W) x v := by
  obtain ⟨fuel, hf⟩ := h
  obtain ⟨ds, hty, hcs⟩ := readT (ι := ι) hok fuel t g hg _ _ hf
  cases ha : isAggTy P t with
  | true =>
    obtain ⟨cs, rfl⟩ := agg_of_ok hval ha
    refine ⟨.agg (ds.map .d), ⟨fuel, ds, hty, fun _ => rfl, fun h => (by rw [isAgg_eq hok hg, ha] at h; cases h)⟩, cs.toList, by simp, ?_⟩
    simpa [Value.cells] using hcs
  | false =>
    rw [cells_of_ok hval ha] at hcs
    match ds, hcs with
    | [d], hcs => exact ⟨.c (.d d), ⟨fuel, [d], hty, fun h => (by rw [isAgg_eq hok hg, ha] at h; cases h), fun _ => ⟨d, rfl, rfl⟩⟩, hcs.1⟩
    | [], hcs => exact hcs.elim
    | _ :: _ :: _, hcs => exact hcs.2.elim

def okArgsT (P : Program) (nums : List TypeId) : List TypeId → List Fd → Bool
  | [], [] => true
  | t :: ts, g :: gs => okFd P nums t g && okArgsT P nums ts gs
  | _, _ => false
theorem readArgsT (hok : okTab P nums tab = true) {W : World} {b0 : Nat} {ι : Nat → Gh} : ∀ (ts : List TypeId) (gs : List Fd) (vs : List Value) (ds : List (DataW H)) (p : List MemPlace), okArgsT P nums ts gs = true →
    (∀ (j : Nat) t v, ts[j]? = some t → vs[j]? = some v → Value.okWide P W .any b0 t v) → DataW.TrodAll enc P W 0 (fun _ => true) true ts vs ds p →
    ∃ xs, All2 (ArgT tab) gs xs ∧ WRs ι W (Okw W) xs vs ∧ ds.length = ts.length
  | [], [], vs, ds, p, _, _, h => by
    obtain ⟨rfl, rfl, rfl⟩ := trodAll_nil h
    exact ⟨[], trivial, trivial, rfl⟩
  | [], _ :: _, _, _, _, h, _, _ => by cases h
  | _ :: _, [], _, _, _, h, _, _ => by cases h
  | t :: ts, g :: gs, vs, ds, p, hp, hval, h => by
    simp only [okArgsT, Bool.and_eq_true] at hp
    obtain ⟨v, vs1, d, ds1, a, b, rfl, rfl, rfl, h1, h2⟩ := trodAll_cons h
    obtain ⟨x, hx1, hx2⟩ := readArgT (ι := ι) hok hp.1 (hval 0 t v rfl rfl) h1
    obtain ⟨xs, hxs1, hxs2, hl⟩ := readArgsT (ι := ι) hok ts gs vs1 ds1 b hp.2 (fun j t v hj hv => hval (j + 1) t v hj hv) h2
    exact ⟨x :: xs, ⟨hx1, hxs1⟩, ⟨hx2, hxs2⟩, by simp [hl]⟩

def lawTysT (P : Program) (ts : List TypeId) : Bool := ts.all fun t => P.readableRec t && decide (t < P.types.size)

theorem law_stepT {f : FuncId} {fn : Func} {s : ChangeSpec} {tb : TypeId} {gs0 : List Fd} (hl : laidOutB P = true) (hok : okTab P nums tab = true) (hargs : okArgsT P nums fn.params.toList gs0 = true) (htys : lawTysT P fn.params.toList = true) (hvars : s.vars = []) (hres : fn.resultTypes = #[tb]) (hb : P.underlying tb = some .bool)
    (hspec : ∀ (H : Type) (ds : List (DataW H)), ds.length = fn.params.toList.length → (s.fn H ds).results = [.lit (.bool true)] ∧ (s.fn H ds).args = ds ∧ (s.fn H ds).vars = [])
    (hsat : ∀ xs, All2 (ArgT tab) gs0 xs → Sat P f xs (fun r => r = trueRes)) {apart fresh handsOn again : Bool}
    (W : World) (base : Nat) (args : Array Value) (ds gs : List (DataW H)) (before : List MemPlace)
    (hval : ∀ (j : Nat) t v, fn.params[j]? = some t → args[j]? = some v → Value.okWide P W .any base t v)
    (hW : DataW.Whole enc P fn.params.toList s.vars apart W args.toList ds gs before) :
    Calls P f args W fun e W' => ∃ v, e = .returned v ∧ s.post enc P fn apart fresh handsOn again W args v W' := by
  have hW' := hW
  obtain ⟨p, q, hA, hV, rfl, hfz, hnd⟩ := hW
  rw [hvars] at hV
  obtain ⟨rfl, rfl⟩ := trodVars_none hV
  simp only [lawTysT, List.all_eq_true, Bool.and_eq_true, decide_eq_true_eq] at htys
  obtain ⟨xs, h1, h2, h3⟩ := readArgsT (ι := fun _ => ⟨none, 0⟩) hok fn.params.toList gs0 args.toList ds p hargs (fun j t v hj hv => hval j t v (by simpa using hj) (by simpa using hv)) hA
  have hc := (hsat xs h1).2 W (Okw W) args.toList (fun b h => h) h2
  rw [Array.toArray_toList] at hc
  refine hc.mono fun e W' ⟨v, r, he, hr, hres', hg⟩ => ⟨v, he, ?_⟩
  subst hr
  obtain ⟨_, ι, hv, _⟩ := hres'
  have hv : v = .bool true := by
    simp only [VR, WR, CR, RD, trueRes] at hv
    exact hv.1
  subst hv
  obtain ⟨s1, s2, s3⟩ := hspec H (ds ++ []) (by simpa using h3)
  have hbel : Below W.heap.size W W' := ⟨hg.os, hg.tape, hg.output.1, hg.size, fun k hk => hg.block k hk fun h => h⟩
  refine post_of_below (pa := p) (pv := []) hW' ?_ ?_ ?_ (by simp) hbel ?_
  · intro b sp hd
    rw [s1, hres]
    exact trodAll_cons_mk (shut_bool hb _) trodAll_mk0
  · intro sp hsp
    rw [s2, List.append_nil]
    exact argsStay hl hbel sp _ _ _ _ (fun t ht => ⟨(htys t ht).1, (htys t ht).2⟩) (fun x hx => hsp x (by simpa using hx)) (fun x hx => hW'.lt x (by simpa using hx)) hA
  · intro sp _
    rw [s3, hvars]
    rfl
  · exact ok_one hres rfl (okWide_bool_mk hb _)

theorem all2_nil {α β : Type} {R : α → β → Prop} {xs : List β} (h : All2 R [] xs) : xs = [] := by cases xs with | nil => rfl | cons _ _ => exact h.elim
theorem all2_cons {α β : Type} {R : α → β → Prop} {a : α} {l : List α} {xs : List β} (h : All2 R (a :: l) xs) : ∃ x r, xs = x :: r ∧ R a x ∧ All2 R l r := by
  cases xs with | nil => exact h.elim | cons x r => exact ⟨x, r, rfl, h.1, h.2⟩
/-- A list of elements, each of which is some datum's. -/
theorem listT {α : Type} {f : α → List D} {R : List D → Prop} (h : ∀ y, R y → ∃ x, y = f x) : ∀ {els : List (List D)}, (∀ y ∈ els, R y) → ∃ l : List α, els = l.map f
  | [], _ => ⟨[], rfl⟩
  | e :: r, hr => by
    obtain ⟨l, hl⟩ := listT (f := f) h fun y hy => hr y (List.mem_cons_of_mem _ hy)
    obtain ⟨x, hx⟩ := h e (hr e List.mem_cons_self)
    exact ⟨x :: l, by rw [hx, hl]; rfl⟩
end
end Go.AM

namespace Go.Proofs.YtcajnlkkjdhjdaaGreat
open Go Go.AM
set_option maxRecDepth 100000

def apiTab : List Sh := [.st [.int .i64, .int .i64, .str], .sl (.ref 0), .sl (.ref 1), .st [.str, .int .i64], .sl (.ref 3), .st [.ref 4, .ref 2], .st [.ref 1, .int .i64], .sl (.ref 6),
  .st [.int .i64, .str, .ref 0, .ref 9], .sl (.ref 8), .st [.ref 8, .str], .sl (.ref 10), .sl .str, .st [.str, .str, .str], .sl (.ref 13), .st [.str, .bool], .sl (.ref 15),
  .st [.int .i64, .ref 8, .ref 11, .ref 12, .ref 14, .ref 16, .int .i64, .str], .sl (.ref 17), .st [.str, .ref 18]]
def apiNums : List TypeId := [48, 38, 23, 67, 22, 25, 40, 28,
  51, 49, 145, 52, 53, 148, 54, 126, 55, 57, 59, 61]
theorem own : ownKnob Pg.godebug = none := by kernel_rfl
theorem laidOut : laidOutB Pg = true := by kernel_rfl
theorem api_ok : okTab Pg apiNums apiTab = true := by kernel_rfl
theorem ty_int {n : Nat} {ds : List D} (h : TyT apiTab n (.int .i64) ds) : ∃ x : Int, ds = [.lit (.int .i64 x)] := by
  cases n <;> (simp only [TyT] at h; obtain ⟨m, h, _⟩ := h; exact ⟨m, h⟩)
theorem ty_str {n : Nat} {ds : List D} (h : TyT apiTab n .str ds) : ∃ x : ByteArray, ds = [.lit (.string x)] := by
  cases n <;> (simp only [TyT] at h; obtain ⟨m, h, _⟩ := h; exact ⟨m, h⟩)
theorem ty_bool {n : Nat} {ds : List D} (h : TyT apiTab n .bool ds) : ∃ x : Bool, ds = [.lit (.bool x)] := by
  cases n <;> (simp only [TyT] at h; exact h)
theorem ty_val {n : Nat} {ds : List D} (h : TyT apiTab n (.ref 0) ds) : ∃ x : Val, ds = x.ds := by
  cases n with
  | zero => simp only [TyT] at h
  | succ n =>
    simp only [TyT, show apiTab[0]? = some (.st [.int .i64, .int .i64, .str]) from rfl] at h
    obtain ⟨dss, rfl, h⟩ := h
    obtain ⟨d0, _, rfl, h0, h⟩ := all2_cons h
    obtain ⟨d1, _, rfl, h1, h⟩ := all2_cons h
    obtain ⟨d2, _, rfl, h2, h⟩ := all2_cons h
    cases all2_nil h
    obtain ⟨x0, rfl⟩ := ty_int h0
    obtain ⟨x1, rfl⟩ := ty_int h1
    obtain ⟨x2, rfl⟩ := ty_str h2
    exact ⟨⟨x0, x1, x2⟩, rfl⟩
theorem ty_row {n : Nat} {ds : List D} (h : TyT apiTab n (.ref 1) ds) : ∃ x : List Val, ds = [.sl (x.map Val.ds)] := by
  cases n with
  | zero => simp only [TyT] at h
  | succ n =>
    simp only [TyT, show apiTab[1]? = some (.sl (.ref 0)) from rfl] at h
    obtain ⟨els, rfl, _, h⟩ := h
    obtain ⟨l, rfl⟩ := listT (f := Val.ds) (R := TyT apiTab n (.ref 0)) (fun y hy => ty_val hy) h
    exact ⟨l, rfl⟩
theorem ty_rows {n : Nat} {ds : List D} (h : TyT apiTab n (.ref 2) ds) : ∃ x : List (List Val), ds = [.sl (rowsD x)] := by
  cases n with
  | zero => simp only [TyT] at h
  | succ n =>
    simp only [TyT, show apiTab[2]? = some (.sl (.ref 1)) from rfl] at h
    obtain ⟨els, rfl, _, h⟩ := h
    obtain ⟨l, rfl⟩ := listT (f := fun r : List Val => [D.sl (rowD r)]) (R := TyT apiTab n (.ref 1)) (fun y hy => ty_row hy) h
    exact ⟨l, rfl⟩
theorem ty_col {n : Nat} {ds : List D} (h : TyT apiTab n (.ref 3) ds) : ∃ x : Col, ds = x.ds := by
  cases n with
  | zero => simp only [TyT] at h
  | succ n =>
    simp only [TyT, show apiTab[3]? = some (.st [.str, .int .i64]) from rfl] at h
    obtain ⟨dss, rfl, h⟩ := h
    obtain ⟨d0, _, rfl, h0, h⟩ := all2_cons h
    obtain ⟨d1, _, rfl, h1, h⟩ := all2_cons h
    cases all2_nil h
    obtain ⟨x0, rfl⟩ := ty_str h0
    obtain ⟨x1, rfl⟩ := ty_int h1
    exact ⟨⟨x0, x1⟩, rfl⟩
theorem ty_cols {n : Nat} {ds : List D} (h : TyT apiTab n (.ref 4) ds) : ∃ x : List Col, ds = [.sl (x.map Col.ds)] := by
  cases n with
  | zero => simp only [TyT] at h
  | succ n =>
    simp only [TyT, show apiTab[4]? = some (.sl (.ref 3)) from rfl] at h
    obtain ⟨els, rfl, _, h⟩ := h
    obtain ⟨l, rfl⟩ := listT (f := Col.ds) (R := TyT apiTab n (.ref 3)) (fun y hy => ty_col hy) h
    exact ⟨l, rfl⟩
theorem ty_tbl {n : Nat} {ds : List D} (h : TyT apiTab n (.ref 5) ds) : ∃ x : Tbl, ds = x.ds := by
  cases n with
  | zero => simp only [TyT] at h
  | succ n =>
    simp only [TyT, show apiTab[5]? = some (.st [.ref 4, .ref 2]) from rfl] at h
    obtain ⟨dss, rfl, h⟩ := h
    obtain ⟨d0, _, rfl, h0, h⟩ := all2_cons h
    obtain ⟨d1, _, rfl, h1, h⟩ := all2_cons h
    cases all2_nil h
    obtain ⟨x0, rfl⟩ := ty_cols h0
    obtain ⟨x1, rfl⟩ := ty_rows h1
    exact ⟨⟨x0, x1⟩, rfl⟩
theorem ty_chg {n : Nat} {ds : List D} (h : TyT apiTab n (.ref 6) ds) : ∃ x : Chg, ds = x.ds := by
  cases n with
  | zero => simp only [TyT] at h
  | succ n =>
    simp only [TyT, show apiTab[6]? = some (.st [.ref 1, .int .i64]) from rfl] at h
    obtain ⟨dss, rfl, h⟩ := h
    obtain ⟨d0, _, rfl, h0, h⟩ := all2_cons h
    obtain ⟨d1, _, rfl, h1, h⟩ := all2_cons h
    cases all2_nil h
    obtain ⟨x0, rfl⟩ := ty_row h0
    obtain ⟨x1, rfl⟩ := ty_int h1
    exact ⟨⟨x0, x1⟩, rfl⟩
theorem ty_chgs {n : Nat} {ds : List D} (h : TyT apiTab n (.ref 7) ds) : ∃ x : List Chg, ds = [.sl (x.map Chg.ds)] := by
  cases n with
  | zero => simp only [TyT] at h
  | succ n =>
    simp only [TyT, show apiTab[7]? = some (.sl (.ref 6)) from rfl] at h
    obtain ⟨els, rfl, _, h⟩ := h
    obtain ⟨l, rfl⟩ := listT (f := Chg.ds) (R := TyT apiTab n (.ref 6)) (fun y hy => ty_chg hy) h
    exact ⟨l, rfl⟩
theorem ty_ex : ∀ {n : Nat} {ds : List D} (_ : TyT apiTab n (.ref 8) ds), ∃ x : Ex, ds = x.ds := by
  intro n
  induction n using Nat.strongRecOn with
  | ind n ih =>
    intro ds h
    cases n with
    | zero => simp only [TyT] at h
    | succ n =>
      simp only [TyT, show apiTab[8]? = some (.st [.int .i64, .str, .ref 0, .ref 9]) from rfl] at h
      obtain ⟨dss, rfl, h⟩ := h
      obtain ⟨d0, _, rfl, h0, h⟩ := all2_cons h
      obtain ⟨d1, _, rfl, h1, h⟩ := all2_cons h
      obtain ⟨d2, _, rfl, h2, h⟩ := all2_cons h
      obtain ⟨d3, _, rfl, h3, h⟩ := all2_cons h
      cases all2_nil h
      obtain ⟨x0, rfl⟩ := ty_int h0
      obtain ⟨x1, rfl⟩ := ty_str h1
      obtain ⟨x2, rfl⟩ := ty_val h2
      cases n with
      | zero => simp only [TyT] at h3
      | succ n =>
        simp only [TyT, show apiTab[9]? = some (.sl (.ref 8)) from rfl] at h3
        obtain ⟨els, rfl, _, h3⟩ := h3
        obtain ⟨l, rfl⟩ := listT (f := Ex.ds) (R := TyT apiTab n (.ref 8)) (fun y hy => ih n (by omega) hy) h3
        exact ⟨⟨x0, x1, x2, l⟩, by rw [← exsD_map]; rfl⟩
theorem ty_itm {n : Nat} {ds : List D} (h : TyT apiTab n (.ref 10) ds) : ∃ x : Itm, ds = x.ds := by
  cases n with
  | zero => simp only [TyT] at h
  | succ n =>
    simp only [TyT, show apiTab[10]? = some (.st [.ref 8, .str]) from rfl] at h
    obtain ⟨dss, rfl, h⟩ := h
    obtain ⟨d0, _, rfl, h0, h⟩ := all2_cons h
    obtain ⟨d1, _, rfl, h1, h⟩ := all2_cons h
    cases all2_nil h
    obtain ⟨x0, rfl⟩ := ty_ex h0
    obtain ⟨x1, rfl⟩ := ty_str h1
    exact ⟨⟨x0, x1⟩, rfl⟩
theorem ty_itms {n : Nat} {ds : List D} (h : TyT apiTab n (.ref 11) ds) : ∃ x : List Itm, ds = [.sl (x.map Itm.ds)] := by
  cases n with
  | zero => simp only [TyT] at h
  | succ n =>
    simp only [TyT, show apiTab[11]? = some (.sl (.ref 10)) from rfl] at h
    obtain ⟨els, rfl, _, h⟩ := h
    obtain ⟨l, rfl⟩ := listT (f := Itm.ds) (R := TyT apiTab n (.ref 10)) (fun y hy => ty_itm hy) h
    exact ⟨l, rfl⟩
theorem ty_strs {n : Nat} {ds : List D} (h : TyT apiTab n (.ref 12) ds) : ∃ x : List ByteArray, ds = [.sl (x.map (fun b => [D.lit (.string b)]))] := by
  cases n with
  | zero => simp only [TyT] at h
  | succ n =>
    simp only [TyT, show apiTab[12]? = some (.sl .str) from rfl] at h
    obtain ⟨els, rfl, _, h⟩ := h
    obtain ⟨l, rfl⟩ := listT (f := (fun b => [D.lit (.string b)])) (R := fun y => ∃ s : ByteArray, y = [D.lit (.string s)] ∧ s.size ≤ maxLen) (fun y ⟨s, e, _⟩ => ⟨s, e⟩) h
    exact ⟨l, rfl⟩
theorem ty_agg {n : Nat} {ds : List D} (h : TyT apiTab n (.ref 13) ds) : ∃ x : Agg, ds = x.ds := by
  cases n with
  | zero => simp only [TyT] at h
  | succ n =>
    simp only [TyT, show apiTab[13]? = some (.st [.str, .str, .str]) from rfl] at h
    obtain ⟨dss, rfl, h⟩ := h
    obtain ⟨d0, _, rfl, h0, h⟩ := all2_cons h
    obtain ⟨d1, _, rfl, h1, h⟩ := all2_cons h
    obtain ⟨d2, _, rfl, h2, h⟩ := all2_cons h
    cases all2_nil h
    obtain ⟨x0, rfl⟩ := ty_str h0
    obtain ⟨x1, rfl⟩ := ty_str h1
    obtain ⟨x2, rfl⟩ := ty_str h2
    exact ⟨⟨x0, x1, x2⟩, rfl⟩
theorem ty_aggs {n : Nat} {ds : List D} (h : TyT apiTab n (.ref 14) ds) : ∃ x : List Agg, ds = [.sl (x.map Agg.ds)] := by
  cases n with
  | zero => simp only [TyT] at h
  | succ n =>
    simp only [TyT, show apiTab[14]? = some (.sl (.ref 13)) from rfl] at h
    obtain ⟨els, rfl, _, h⟩ := h
    obtain ⟨l, rfl⟩ := listT (f := Agg.ds) (R := TyT apiTab n (.ref 13)) (fun y hy => ty_agg hy) h
    exact ⟨l, rfl⟩
theorem ty_srt {n : Nat} {ds : List D} (h : TyT apiTab n (.ref 15) ds) : ∃ x : Srt, ds = x.ds := by
  cases n with
  | zero => simp only [TyT] at h
  | succ n =>
    simp only [TyT, show apiTab[15]? = some (.st [.str, .bool]) from rfl] at h
    obtain ⟨dss, rfl, h⟩ := h
    obtain ⟨d0, _, rfl, h0, h⟩ := all2_cons h
    obtain ⟨d1, _, rfl, h1, h⟩ := all2_cons h
    cases all2_nil h
    obtain ⟨x0, rfl⟩ := ty_str h0
    obtain ⟨x1, rfl⟩ := ty_bool h1
    exact ⟨⟨x0, x1⟩, rfl⟩
theorem ty_srts {n : Nat} {ds : List D} (h : TyT apiTab n (.ref 16) ds) : ∃ x : List Srt, ds = [.sl (x.map Srt.ds)] := by
  cases n with
  | zero => simp only [TyT] at h
  | succ n =>
    simp only [TyT, show apiTab[16]? = some (.sl (.ref 15)) from rfl] at h
    obtain ⟨els, rfl, _, h⟩ := h
    obtain ⟨l, rfl⟩ := listT (f := Srt.ds) (R := TyT apiTab n (.ref 15)) (fun y hy => ty_srt hy) h
    exact ⟨l, rfl⟩
theorem ty_stp {n : Nat} {ds : List D} (h : TyT apiTab n (.ref 17) ds) : ∃ x : Stp, ds = x.ds := by
  cases n with
  | zero => simp only [TyT] at h
  | succ n =>
    simp only [TyT, show apiTab[17]? = some (.st [.int .i64, .ref 8, .ref 11, .ref 12, .ref 14, .ref 16, .int .i64, .str]) from rfl] at h
    obtain ⟨dss, rfl, h⟩ := h
    obtain ⟨d0, _, rfl, h0, h⟩ := all2_cons h
    obtain ⟨d1, _, rfl, h1, h⟩ := all2_cons h
    obtain ⟨d2, _, rfl, h2, h⟩ := all2_cons h
    obtain ⟨d3, _, rfl, h3, h⟩ := all2_cons h
    obtain ⟨d4, _, rfl, h4, h⟩ := all2_cons h
    obtain ⟨d5, _, rfl, h5, h⟩ := all2_cons h
    obtain ⟨d6, _, rfl, h6, h⟩ := all2_cons h
    obtain ⟨d7, _, rfl, h7, h⟩ := all2_cons h
    cases all2_nil h
    obtain ⟨x0, rfl⟩ := ty_int h0
    obtain ⟨x1, rfl⟩ := ty_ex h1
    obtain ⟨x2, rfl⟩ := ty_itms h2
    obtain ⟨x3, rfl⟩ := ty_strs h3
    obtain ⟨x4, rfl⟩ := ty_aggs h4
    obtain ⟨x5, rfl⟩ := ty_srts h5
    obtain ⟨x6, rfl⟩ := ty_int h6
    obtain ⟨x7, rfl⟩ := ty_str h7
    exact ⟨⟨x0, x1, x2, x3, x4, x5, x6, x7⟩, rfl⟩
theorem ty_stps {n : Nat} {ds : List D} (h : TyT apiTab n (.ref 18) ds) : ∃ x : List Stp, ds = [.sl (x.map Stp.ds)] := by
  cases n with
  | zero => simp only [TyT] at h
  | succ n =>
    simp only [TyT, show apiTab[18]? = some (.sl (.ref 17)) from rfl] at h
    obtain ⟨els, rfl, _, h⟩ := h
    obtain ⟨l, rfl⟩ := listT (f := Stp.ds) (R := TyT apiTab n (.ref 17)) (fun y hy => ty_stp hy) h
    exact ⟨l, rfl⟩
theorem arg_of {g : AM.Fd} {x : W} (h : ArgT apiTab g x) (hg : g.isAgg apiTab = true) : ∃ n ds, TyT apiTab n g ds ∧ x = .agg (ds.map .d) := by
  obtain ⟨n, ds, h1, h2, _⟩ := h
  exact ⟨n, ds, h1, h2 hg⟩
theorem arg_of' {g : AM.Fd} {x : W} (h : ArgT apiTab g x) (hg : g.isAgg apiTab = false) : ∃ n d, TyT apiTab n g [d] ∧ x = .c (.d d) := by
  obtain ⟨n, ds, h1, _, h2⟩ := h
  obtain ⟨d, rfl, rfl⟩ := h2 hg
  exact ⟨n, d, h1, rfl⟩
theorem arg_tbl {x : W} (h : ArgT apiTab (.ref 5) x) : ∃ t : Tbl, x = t.w := by
  obtain ⟨n, ds, hx, rfl⟩ := arg_of h rfl
  clear h
  have h := hx
  clear hx
  obtain ⟨t, rfl⟩ := ty_tbl h
  exact ⟨t, rfl⟩
theorem arg_chgs {x : W} (h : ArgT apiTab (.ref 7) x) : ∃ t : List Chg, x = chgC t := by
  obtain ⟨n, d, hx, rfl⟩ := arg_of' h rfl
  clear h
  have h := hx
  clear hx
  obtain ⟨t, h⟩ := ty_chgs h
  cases h
  exact ⟨t, rfl⟩
theorem arg_str {x : W} (h : ArgT apiTab .str x) : ∃ t : ByteArray, x = .c (str t) := by
  obtain ⟨n, d, hx, rfl⟩ := arg_of' h rfl
  clear h
  have h := hx
  clear hx
  obtain ⟨t, h⟩ := ty_str h
  cases h
  exact ⟨t, rfl⟩
theorem arg_qry {x : W} (h : ArgT apiTab (.ref 19) x) : ∃ t : Qry, x = t.w := by
  obtain ⟨n, ds, hx, rfl⟩ := arg_of h rfl
  clear h
  have h := hx
  clear hx
  cases n with
  | zero => simp only [TyT] at h
  | succ n =>
    simp only [TyT, show apiTab[19]? = some (.st [.str, .ref 18]) from rfl] at h
    obtain ⟨dss, rfl, h⟩ := h
    obtain ⟨d0, _, rfl, h0, h⟩ := all2_cons h
    obtain ⟨d1, _, rfl, h1, h⟩ := all2_cons h
    cases all2_nil h
    obtain ⟨x0, rfl⟩ := ty_str h0
    obtain ⟨x1, rfl⟩ := ty_stps h1
    exact ⟨⟨x0, x1⟩, rfl⟩
end Go.Proofs.YtcajnlkkjdhjdaaGreat

namespace Go.Proofs.YtcajnlkkjdhjdaaGreat
open Go Go.AM
attribute [local irreducible] Sat SatH LoopP
set_option maxRecDepth 100000
set_option maxHeartbeats 1000000

theorem sat_ref34_numbers (a b : Int) : Sat Pg k_ref34_numbers [.c (int a), .c (int b)] (fun r => r = rI (cmpI a b)) := by
  unfold cmpI
  refine Sat_of T5 c_ref34_numbers_ok (by kernel_rfl) ?_
  repeat' (conv => whnf
           refine cond_i (fun h => ?_) (fun h => ?_))
  all_goals refine congrArg rI ?_
  all_goals first | (simp only [*, cond_true, cond_false]; done) | (simp_all only [Bool.false_eq_true, cond_true, cond_false]; done) | (simp_all; done)
theorem sat_ref01_In (n : Int) : Sat Pg k_ref01_In [.c (int n)] (fun r => r = rB (inB n)) := by
  refine Sat_of T5 c_ref01_In_ok (by kernel_rfl) ?_
  conv => whnf
  rfl
def T6f (k : FuncId) (l : List W) : Option W :=
  match l with
  | [.c (.d (.lit (.int .i64 m))), .c (.d (.lit (.int .i64 n)))] => bif Nat.beq k k_ref34_numbers then some (.c (int (cmpI m n))) else T5f k l
  | [.c (.d (.lit (.int .i64 m)))] => bif Nat.beq k k_ref01_In then some (.c (bool (inB m))) else T5f k l
  | _ => T5f k l
theorem T6ok (k : FuncId) (l : List W) (w : W) (h : T6f k l = some w) : Sat Pg k l (fun r => r = ⟨.w w, []⟩) := by
  unfold T6f at h
  split at h
  · rcases bif_some h with ⟨h1, rfl⟩ | ⟨_, h⟩
    · rw [Nat.eq_of_beq_eq_true h1]; exact sat_ref34_numbers _ _
    · exact T5ok k _ w h
  · rcases bif_some h with ⟨h1, rfl⟩ | ⟨_, h⟩
    · rw [Nat.eq_of_beq_eq_true h1]; exact sat_ref01_In _
    · exact T5ok k _ w h
  · exact T5ok k l w h
def T6 : Tab Pg := ⟨T6f, T6ok⟩

def ordV' (a b : Val) : Int := bif a.k != b.k then cmpI a.k b.k else bif a.k == 1 || a.k == 2 then cmpI a.n b.n else bif a.k != 3 || beqS a.s b.s then 0 else bif ltS a.s b.s then -1 else 1
theorem ordV'_eq (a b : Val) : ordV' a b = ordV a b := by
  unfold ordV' ordV cmpS
  by_cases h : a.k = b.k
  · rw [show (a.k != b.k) = false by simpa using h]
    simp only [cond_false]
    by_cases h3 : a.k = 3
    · rw [h3]
      cases h4 : beqS a.s b.s
      · cases h5 : ltS a.s b.s <;> rfl
      · have : a.s = b.s := (AM.beqS_iff _ _).1 h4
        rw [this]
        cases h5 : ltS b.s b.s
        · rfl
        · exact absurd h5 (by rw [AM.ltS_irrefl]; simp)
    · have h3' : (a.k == 3) = false := by simpa using h3
      have h3'' : (a.k != 3) = true := by simpa using h3
      rw [h3', h3'']
      cases (a.k == 1 || a.k == 2) <;> rfl
  · rw [show (a.k != b.k) = true by simpa using h]
    rfl
theorem sat_ref34_Order (a b : Val) : Sat Pg k_ref34_Order [a.w, b.w] (fun r => r = rI (ordV a b)) := by
  rw [← ordV'_eq]
  obtain ⟨a1, a2, a3⟩ := a
  obtain ⟨b1, b2, b3⟩ := b
  unfold ordV'
  refine Sat_of T6 c_ref34_Order_ok (by kernel_rfl) ?_
  repeat' (conv => whnf
           refine cond_i (fun h => ?_) (fun h => ?_))
  all_goals refine congrArg rI ?_
  all_goals first | (simp only [*, cond_true, cond_false]; done) | (simp_all only [Bool.false_eq_true, cond_true, cond_false]; done) | (simp_all; done)

theorem sat_ref42_Compare (a b : List Val) : Sat Pg k_ref42_Compare [rowC a, rowC b] (fun r => r = rI (ordR a b)) := by
  refine sat_len 0 (by kernel_rfl) rfl fun hlen => ?_
  rw [rowD_len] at hlen
  refine Sat_of T6 c_ref42_Compare_ok (by kernel_rfl) ?_
  conv => whnf
  refine loopI (P := Pg) (f := T6.f) (body := c_ref42_Compare_L0) a.length (fun i => ⟨[(0, .w (rowC a)), (1, .w (rowC b)), (5, intV i)], []⟩) (fun i => i ≤ b.length ∧ ordR a b = ordR (a.drop i) (b.drop i)) ⟨⟨Nat.zero_le _, rfl⟩, normW_of ?_⟩ ?_
  · conv => whnf
    rfl
  · intro i hi hR
    obtain ⟨hib, hR0⟩ := hR
    conv => whnf
    refine cond_i (fun h1 => ?_) (fun h1 => ?_)
    · have h1 : (decide ((i : Int) < ((rowD a).length : Int)) && decide ((i : Int) < ((rowD b).length : Int))) = true := h1
      simp only [Bool.and_eq_true, decide_eq_true_eq, rowD_len] at h1
      have hlt : i < a.length := by omega
      have hlb : i < b.length := by omega
      have hg := rowD_get hlt
      have hg2 := rowD_get hlb
      rw [drop_cons hlt, drop_cons hlb] at hR0
      have hR : ordR a b = bif ordV a[i] b[i] != 0 then ordV a[i] b[i] else ordR (a.drop (i + 1)) (b.drop (i + 1)) := hR0
      clear hR0
      have ho := sat_ref34_Order a[i] b[i]
      generalize ordV a[i] b[i] = o at *
      generalize a[i] = x at *
      generalize b[i] = y at *
      obtain ⟨x1, x2, x3⟩ := x
      obtain ⟨y1, y2, y3⟩ := y
      conv => whnf
      refine ⟨by omega, _, hg, rfl, ?_⟩
      conv => whnf
      refine ⟨by omega, _, hg2, rfl, ?_⟩
      conv => whnf
      refine Sat.mono (ho) ?_
      rintro _ rfl
      conv => whnf
      refine cond_i (fun h3 => ?_) (fun h3 => ?_)
      · have h3 : (o != 0) = true := h3
        rw [h3, cond_true] at hR
        conv => whnf
        rw [hR]; rfl
      · have h3 : (o != 0) = false := h3
        rw [h3, cond_false] at hR
        conv => whnf
        refine ⟨hlt, ⟨hlb, hR⟩, normW_of ?_⟩
        conv => whnf
        rw [wrapS hlt hlen]
        rfl
    · have h1 : (decide ((i : Int) < ((rowD a).length : Int)) && decide ((i : Int) < ((rowD b).length : Int))) = false := h1
      simp only [Bool.and_eq_false_iff, decide_eq_false_iff_not, rowD_len] at h1
      conv => whnf
      refine cond_i (fun h2 => ?_) (fun h2 => ?_)
      · have h2 : decide (((rowD a).length : Int) < ((rowD b).length : Int)) = true := h2
        have h2 := of_decide_eq_true h2
        simp only [rowD_len] at h2
        rw [List.drop_eq_nil_of_le (by omega : a.length ≤ i), drop_cons (by omega : i < b.length)] at hR0
        have hR : ordR a b = -1 := hR0
        conv => whnf
        rw [hR]; rfl
      · have h2 : decide (((rowD a).length : Int) < ((rowD b).length : Int)) = false := h2
        have h2 := of_decide_eq_false h2
        simp only [rowD_len] at h2
        conv => whnf
        refine cond_i (fun h4 => ?_) (fun h4 => ?_)
        · have h4 : decide (((rowD a).length : Int) > ((rowD b).length : Int)) = true := h4
          have h4 := of_decide_eq_true h4
          simp only [rowD_len] at h4
          rw [List.drop_eq_nil_of_le (by omega : b.length ≤ i), drop_cons (by omega : i < a.length)] at hR0
          have hR : ordR a b = 1 := hR0
          conv => whnf
          rw [hR]; rfl
        · have h4 : decide (((rowD a).length : Int) > ((rowD b).length : Int)) = false := h4
          have h4 := of_decide_eq_false h4
          simp only [rowD_len] at h4
          rw [List.drop_eq_nil_of_le (by omega : b.length ≤ i), List.drop_eq_nil_of_le (by omega : a.length ≤ i)] at hR0
          have hR : ordR a b = 0 := hR0
          conv => whnf
          rw [hR]; rfl

theorem sat_ref34_SameRow (a b : List Val) : Sat Pg k_ref34_SameRow [rowC a, rowC b] (fun r => r = rB (sameRow a b)) := by
  have h := sat_ref33_Same a b
  generalize sameRow a b = x at *
  refine Sat_of T6 c_ref34_SameRow_ok (by kernel_rfl) ?_
  conv => whnf
  refine Sat.mono (h) ?_
  rintro _ rfl
  rfl
def sameT (a b : Tbl) : Bool := bif (((a.cols.length : Int)) != b.cols.length) || (((a.rows.length : Int)) != b.rows.length) then false else bif !allEq eqC a.cols b.cols then false else allEq sameRow a.rows b.rows
theorem allEq_step {α : Type} (e : α → α → Bool) {a b : List α} {i : Nat} (h : i < a.length) (h2 : i < b.length) : allEq e (a.drop i) (b.drop i) = bif !e a[i] b[i] then false else allEq e (a.drop (i + 1)) (b.drop (i + 1)) := by
  rw [drop_cons h, drop_cons h2]; rfl
theorem sat_ref34_Same (a b : Tbl) : Sat Pg k_ref34_Same [a.w, b.w] (fun r => r = rB (sameT a b)) := by
  obtain ⟨ac, ar⟩ := a
  obtain ⟨bc, br⟩ := b
  unfold sameT
  simp only
  rw [← colD_len, ← colD_len, ← rowsD_len, ← rowsD_len]
  refine sat_bnd (by kernel_rfl) fun hb => ?_
  have hb := hb _ (List.mem_cons_self ..)
  have hlc : (colD ac).length ≤ 9223372036854775807 := by
    have := hb (.d (.sl (colD ac))) (by simp)
    simp only [bndC, bnd] at this
    exact this.1
  have hlr : (rowsD ar).length ≤ 9223372036854775807 := by
    have := hb (.d (.sl (rowsD ar))) (by simp)
    simp only [bndC, bnd] at this
    exact this.1
  clear hb
  rw [colD_len] at hlc
  rw [rowsD_len] at hlr
  refine Sat_of T6 c_ref34_Same_ok (by kernel_rfl) ?_
  conv => whnf
  refine cond_i (fun h => ?_) (fun h => ?_)
  · have h : ((((colD ac).length : Int)) != ((colD bc).length : Int) || (((rowsD ar).length : Int)) != ((rowsD br).length : Int)) = true := h
    rw [h, cond_true]
    conv => whnf
    rfl
  · have h : ((((colD ac).length : Int)) != ((colD bc).length : Int) || (((rowsD ar).length : Int)) != ((rowsD br).length : Int)) = false := h
    rw [h, cond_false]
    simp only [Bool.or_eq_false_iff, bne_eq_false_iff_eq, colD_len, rowsD_len] at h
    conv => whnf
    refine loopI (P := Pg) (f := T6.f) (body := c_ref34_Same_L0) ac.length (fun i => ⟨[(2, cV (.ptr 2 0)), (3, cV (.ptr 3 0)), (5, intV i)], [(2, .box [.d (.sl (colD ac)), .d (.sl (rowsD ar))]), (3, .box [.d (.sl (colD bc)), .d (.sl (rowsD br))])]⟩) (fun i => allEq eqC ac bc = allEq eqC (ac.drop i) (bc.drop i)) ⟨rfl, normW_of ?_⟩ ?_
    · conv => whnf
      rfl
    · intro i hi hR
      conv => whnf
      refine cond_i (fun h1 => ?_) (fun h1 => ?_)
      · have hlt : i < ac.length := by have := of_decide_eq_true h1; rw [colD_len] at this; omega
        have hlb : i < bc.length := by omega
        rw [allEq_step _ hlt hlb] at hR
        have hg := colD_get hlt
        have hg2 := colD_get hlb
        generalize ac[i] = x at *
        generalize bc[i] = y at *
        obtain ⟨x1, x2⟩ := x
        obtain ⟨y1, y2⟩ := y
        conv => whnf
        refine ⟨by omega, _, hg, rfl, ?_⟩
        conv => whnf
        refine ⟨by omega, _, hg2, rfl, ?_⟩
        conv => whnf
        refine cond_i (fun h2 => ?_) (fun h2 => ?_)
        · have h2 : (!eqC ⟨x1, x2⟩ ⟨y1, y2⟩) = true := h2
          rw [h2, cond_true] at hR
          conv => whnf
          rw [hR]; rfl
        · have h2 : (!eqC ⟨x1, x2⟩ ⟨y1, y2⟩) = false := h2
          rw [h2, cond_false] at hR
          conv => whnf
          refine ⟨hlt, hR, normW_of ?_⟩
          conv => whnf
          rw [wrapS hlt hlc]
          rfl
      · have hge : ac.length ≤ i := by have := of_decide_eq_false h1; rw [colD_len] at this; omega
        rw [allEq_end _ hge (by omega)] at hR
        rw [hR, Bool.not_true, cond_false]
        conv => whnf
        refine loopI (P := Pg) (f := T6.f) (body := c_ref34_Same_L1) ar.length (fun i => ⟨[(2, cV (.ptr 2 0)), (3, cV (.ptr 3 0)), (6, intV i)], [(2, .box [.d (.sl (colD ac)), .d (.sl (rowsD ar))]), (3, .box [.d (.sl (colD bc)), .d (.sl (rowsD br))])]⟩) (fun i => allEq sameRow ar br = allEq sameRow (ar.drop i) (br.drop i)) ⟨rfl, normW_of ?_⟩ ?_
        · conv => whnf
          rfl
        · intro i hi hR
          conv => whnf
          refine cond_i (fun h1 => ?_) (fun h1 => ?_)
          · have hlt : i < ar.length := by have := of_decide_eq_true h1; rw [rowsD_len] at this; omega
            have hlb : i < br.length := by omega
            rw [allEq_step _ hlt hlb] at hR
            have hg := rowsD_get hlt
            have hg2 := rowsD_get hlb
            have hs := sat_ref34_SameRow ar[i] br[i]
            generalize sameRow ar[i] br[i] = o at *
            generalize ar[i] = x at *
            generalize br[i] = y at *
            conv => whnf
            refine ⟨by omega, _, hg, rfl, ?_⟩
            conv => whnf
            refine ⟨by omega, _, hg2, rfl, ?_⟩
            conv => whnf
            refine Sat.mono (hs) ?_
            rintro _ rfl
            conv => whnf
            refine cond_i (fun h2 => ?_) (fun h2 => ?_)
            · have h2 : (!o) = true := h2
              rw [h2, cond_true] at hR
              conv => whnf
              rw [hR]; rfl
            · have h2 : (!o) = false := h2
              rw [h2, cond_false] at hR
              conv => whnf
              refine ⟨hlt, hR, normW_of ?_⟩
              conv => whnf
              rw [wrapS hlt hlr]
              rfl
          · have hge : ar.length ≤ i := by have := of_decide_eq_false h1; rw [rowsD_len] at this; omega
            rw [allEq_end _ hge (by omega)] at hR
            rw [hR]
            conv => whnf
            rfl
end Go.Proofs.YtcajnlkkjdhjdaaGreat

namespace Go.Proofs.YtcajnlkkjdhjdaaGreat
open Go Go.AM
attribute [local irreducible] Sat SatH LoopP
set_option maxRecDepth 100000
set_option maxHeartbeats 1000000

theorem indexByte_any (l : List UInt8) (c : UInt8) : decide (Lib.indexByte l c ≥ 0) = l.any fun x => x == c := by
  induction l with
  | nil => rfl
  | cons b l ih =>
    unfold Lib.indexByte
    simp only [List.any_cons]
    cases h : b == c
    · have hge := Lib.indexByte_ge l c
      simp only [Bool.false_eq_true, if_false, Bool.false_or, ← ih]
      by_cases e : Lib.indexByte l c = -1
      · rw [e]; rfl
      · rw [if_neg (by simpa using e)]
        rw [decide_eq_true (by omega : Lib.indexByte l c + 1 ≥ 0), decide_eq_true (by omega : Lib.indexByte l c ≥ 0)]
    · simp
def sgnL : List UInt8 := [95, 46, 58, 47, 60, 62, 36, 42, 126, 45]
def letterR (c : Int) : Bool := (decide (c ≥ 97) && decide (c ≤ 122)) || (decide (c ≥ 65) && decide (c ≤ 90)) || (decide (c ≥ 48) && decide (c ≤ 57))
theorem letterB_eq (b : UInt8) : letterB b.toNat = (letterR b.toNat || sgnL.any fun x => x == b) := by
  unfold letterB letterR byteAt
  rw [indexByte_any]
  have : ((b.toNat : Int)).toNat.toUInt8 = b := by simp
  rw [this]
  rfl
def sgn : ByteArray := ⟨#[95, 46, 58, 47, 60, 62, 36, 42, 126, 45]⟩
theorem sgn_len : sgn.size = 10 := rfl
theorem sat_ref06_letter (b : UInt8) : Sat Pg k_ref06_letter [.c (.d (.lit (.int .u8 b.toNat)))] (fun r => r = rB (letterB b.toNat)) := by
  rw [letterB_eq]
  refine Sat_of T6 c_ref06_letter_ok (by kernel_rfl) ?_
  conv => whnf
  refine cond_i (fun h => ?_) (fun h => ?_)
  · have h : letterR b.toNat = true := h
    rw [h, Bool.true_or]
    conv => whnf
    rfl
  · have h : letterR b.toNat = false := h
    rw [h, Bool.false_or]
    conv => whnf
    refine loopI (P := Pg) (f := T6.f) (body := c_ref06_letter_L0) 10 (fun i => ⟨[(0, .w (.c (.d (.lit (.int .u8 b.toNat))))), (3, .w (.c (str sgn))), (4, intV i)], []⟩) (fun i => (sgnL.any fun x => x == b) = (sgnL.drop i).any fun x => x == b) ⟨rfl, normW_of ?_⟩ ?_
    · conv => whnf
      rfl
    · intro i hi hR
      conv => whnf
      refine cond_i (fun h1 => ?_) (fun h1 => ?_)
      · have hlt : i < 10 := by have h1 : decide ((i : Int) < (10 : Int)) = true := h1; have := of_decide_eq_true h1; omega
        have hl : i < sgnL.length := hlt
        rw [drop_cons hl, List.any_cons] at hR
        conv => whnf
        refine ⟨⟨by omega, by show (i : Int) < (10 : Int); omega⟩, ?_⟩
        have hb : sgn.data.toList.getD ((i : Int)).toNat 0 = sgnL[i] := by
          show sgnL.getD i 0 = _
          simp [List.getD, List.getElem?_eq_getElem hl]
        rw [hb]
        generalize sgnL[i] = c at *
        have hc : ((c.toNat : Int) == (b.toNat : Int)) = (c == b) := by
          by_cases e : c = b
          · rw [e]; simp
          · have : c.toNat ≠ b.toNat := fun h => e (UInt8.toNat_inj.1 h)
            rw [beq_eq_false_iff_ne.2 e, beq_eq_false_iff_ne.2 (by omega)]
        conv => whnf
        refine cond_i (fun h2 => ?_) (fun h2 => ?_)
        · have h2 : ((c.toNat : Int) == (b.toNat : Int)) = true := h2
          rw [hc] at h2
          rw [h2, Bool.true_or] at hR
          conv => whnf
          rw [hR]; rfl
        · have h2 : ((c.toNat : Int) == (b.toNat : Int)) = false := h2
          rw [hc] at h2
          rw [h2, Bool.false_or] at hR
          conv => whnf
          refine ⟨hlt, hR, normW_of ?_⟩
          conv => whnf
          rw [wrapS hlt (by omega)]
          rfl
      · have hge : i = 10 := by have h1 : decide ((i : Int) < (10 : Int)) = false := h1; have := of_decide_eq_false h1; omega
        rw [hge] at hR
        conv => whnf
        rw [hR]; rfl

theorem namErr_eq (s : ByteArray) : namErr s = bif decide ((s.size : Int) < 1) || decide ((s.size : Int) > 40) then 3 else namL s.data.toList := by
  unfold namErr
  have : beqS s ⟨#[]⟩ = decide ((s.size : Int) < 1) := by
    cases h : beqS s ⟨#[]⟩
    · have := size_pos h
      exact (decide_eq_false (by omega)).symm
    · rw [(AM.beqS_iff _ _).1 h]; rfl
  rw [this]
theorem sat_ref06_Name (s : ByteArray) : Sat Pg k_ref06_Name [.c (str s)] (fun r => r = rI (namErr s)) := by
  rw [namErr_eq]
  refine Sat_of T6 c_ref06_Name_ok (by kernel_rfl) ?_
  conv => whnf
  refine cond_i (fun h => ?_) (fun h => ?_)
  · have h : (decide ((s.size : Int) < 1) || decide ((s.size : Int) > 40)) = true := h
    rw [h, cond_true]
    conv => whnf
    rfl
  · have h : (decide ((s.size : Int) < 1) || decide ((s.size : Int) > 40)) = false := h
    rw [h, cond_false]
    simp only [Bool.or_eq_false_iff, decide_eq_false_iff_not] at h
    conv => whnf
    refine loopI (P := Pg) (f := T6.f) (body := c_ref06_Name_L0) s.size (fun i => ⟨[(0, .w (.c (str s))), (3, intV i)], []⟩) (fun i => namL s.data.toList = namL (s.data.toList.drop i)) ⟨rfl, normW_of ?_⟩ ?_
    · conv => whnf
      rfl
    · intro i hi hR
      conv => whnf
      refine cond_i (fun h1 => ?_) (fun h1 => ?_)
      · have hlt : i < s.size := by have := of_decide_eq_true h1; omega
        have hlt' : i < s.data.toList.length := by rw [size_list]; exact hlt
        rw [drop_cons hlt'] at hR
        conv => whnf
        refine ⟨⟨by omega, by omega⟩, ?_⟩
        have hb : s.data.toList.getD ((i : Int)).toNat 0 = s.data.toList[i] := by simp [List.getD, List.getElem?_eq_getElem hlt']
        rw [hb]
        generalize s.data.toList[i] = b at *
        have hl := sat_ref06_letter b
        simp only [namL] at hR
        generalize letterB b.toNat = x at *
        conv => whnf
        refine Sat.mono (hl) ?_
        rintro _ rfl
        conv => whnf
        refine cond_i (fun h2 => ?_) (fun h2 => ?_)
        · have h2 : (!x) = true := h2
          rw [h2, cond_true] at hR
          conv => whnf
          rw [hR]; rfl
        · have h2 : (!x) = false := h2
          rw [h2, cond_false] at hR
          conv => whnf
          refine ⟨hlt, hR, normW_of ?_⟩
          conv => whnf
          rw [wrapS hlt (by omega)]
          rfl
      · have hge : s.size ≤ i := by have := of_decide_eq_false h1; omega
        rw [List.drop_eq_nil_of_le (by rw [size_list]; exact hge)] at hR
        conv => whnf
        rw [hR]; rfl

def valErrR (k : Int) (v : Val) : Int :=
  bif v.k != 0 && (v.k != k || decide (k < 1) || decide (k > 3)) then 14 else
  bif (v.k == 1 && (decide (v.n < 0) || decide (v.n > 1))) || (v.k == 2 && !inB v.n) then 2 else
  bif v.k == 3 && decide ((v.s.size : Int) > 200) then 7 else
  bif (v.k != 3 && !beqS v.s ⟨#[]⟩) || ((v.k == 0 || v.k == 3) && v.n != 0) then 1 else 0
theorem valErrR_eq (k : Int) (v : Val) : valErrR k v = valErr k v := by
  unfold valErrR valErr
  have e1 : (v.k != k || decide (k < 1) || decide (k > 3)) = (v.k != k || !(k == 1 || k == 2 || k == 3)) := by
    by_cases h : v.k = k
    · rw [show (v.k != k) = false by simpa using h]
      simp only [Bool.false_or]
      by_cases h1 : k < 1
      · rw [decide_eq_true h1, beq_eq_false_iff_ne.2 (by omega : k ≠ 1), beq_eq_false_iff_ne.2 (by omega : k ≠ 2), beq_eq_false_iff_ne.2 (by omega : k ≠ 3)]; rfl
      · by_cases h2 : k > 3
        · rw [decide_eq_true h2, beq_eq_false_iff_ne.2 (by omega : k ≠ 1), beq_eq_false_iff_ne.2 (by omega : k ≠ 2), beq_eq_false_iff_ne.2 (by omega : k ≠ 3)]; simp
        · rw [decide_eq_false h1, decide_eq_false h2]
          have : k = 1 ∨ k = 2 ∨ k = 3 := by omega
          rcases this with rfl | rfl | rfl <;> rfl
    · rw [show (v.k != k) = true by simpa using h]; simp
  have e2 : (decide (v.n < 0) || decide (v.n > 1)) = (v.n != 0 && v.n != 1) := by
    by_cases h0 : v.n = 0
    · rw [h0]; rfl
    · by_cases h1 : v.n = 1
      · rw [h1]; rfl
      · rw [bne_iff_ne.2 h0, bne_iff_ne.2 h1]
        by_cases h : v.n < 0
        · rw [decide_eq_true h]; rfl
        · rw [decide_eq_true (by omega : v.n > 1)]; simp
  rw [e1, e2]
  cases (v.k != 0 && (v.k != k || !(k == 1 || k == 2 || k == 3)))
  · simp only [cond_false]
    rw [show (v.k == 1 && v.n != 0 && v.n != 1) = (v.k == 1 && (v.n != 0 && v.n != 1)) from Bool.and_assoc ..]
    cases (v.k == 1 && (v.n != 0 && v.n != 1))
    · simp only [cond_false, Bool.false_or]
      cases (v.k == 2 && !inB v.n)
      · simp only [cond_false]
        cases (v.k == 3 && decide ((v.s.size : Int) > 200))
        · simp only [cond_false]
          cases (v.k != 3 && !beqS v.s ⟨#[]⟩) <;> rfl
        · rfl
      · rfl
    · rfl
  · rfl
theorem sat_ref33_Value (k : Int) (v : Val) : Sat Pg k_ref33_Value [.c (int k), v.w] (fun r => r = rI (valErr k v)) := by
  rw [← valErrR_eq]
  obtain ⟨a, n, s⟩ := v
  unfold valErrR
  refine Sat_of T6 c_ref33_Value_ok (by kernel_rfl) ?_
  repeat' (conv => whnf
           refine cond_i (fun h => ?_) (fun h => ?_))
  all_goals refine congrArg rI ?_
  all_goals first | (simp only [*, cond_true, cond_false]; done) | (simp_all only [Bool.false_eq_true, cond_true, cond_false]; done) | (simp_all; done)

theorem findI_lt {α : Type} (p : α → Bool) : ∀ (l : List α) (j : Nat), findI p (j : Int) l = -1 ∨ (j : Int) ≤ findI p (j : Int) l
  | [], j => .inl rfl
  | x :: r, j => by
    simp only [findI]
    by_cases h : p x = true
    · rw [h, cond_true]; exact .inr (Int.le_refl _)
    · rw [Bool.not_eq_true] at h
      rw [h, cond_false]
      rcases findI_lt p r (j + 1) with e | e
      · exact .inl e
      · refine .inr (Int.le_trans (by omega) e)
/-- The first element with p stands before place i: one with p is among the first i. -/
theorem findI_take {α : Type} (p : α → Bool) : ∀ (l : List α) (i j : Nat), (∃ x, l[i]? = some x ∧ p x = true) → (findI p (j : Int) l < ((j + i : Nat) : Int) ↔ (l.take i).any p = true)
  | [], i, j, h => by obtain ⟨x, hx, _⟩ := h; simp at hx
  | x :: r, 0, j, h => by
    obtain ⟨y, hy, hp⟩ := h
    simp at hy
    subst hy
    have e : findI p (j : Int) (x :: r) = j := by simp only [findI, hp, cond_true]
    rw [e]
    simp
  | x :: r, i + 1, j, h => by
    obtain ⟨y, hy, hp⟩ := h
    have ih := findI_take p r i (j + 1) ⟨y, by simpa using hy, hp⟩
    by_cases hx : p x = true
    · have e : findI p (j : Int) (x :: r) = j := by simp only [findI, hx, cond_true]
      rw [e, List.take_succ_cons, List.any_cons, hx]
      simp
      omega
    · rw [Bool.not_eq_true] at hx
      have e : findI p (j : Int) (x :: r) = findI p ((j + 1 : Nat) : Int) r := by simp only [findI, hx, cond_false]; rfl
      rw [e, List.take_succ_cons, List.any_cons, hx, Bool.false_or, ← ih, show ((j + (i + 1) : Nat) : Int) = ((j + 1 + i : Nat) : Int) by omega]
theorem sat_ref34_Col (t : Tbl) (name : ByteArray) : Sat Pg k_ref34_Col [t.w, .c (str name)] (fun r => r = rI (colAt t.cols name)) := by
  obtain ⟨cols, rows⟩ := t
  refine sat_bnd (by kernel_rfl) fun hb => ?_
  have hlc : cols.length ≤ 9223372036854775807 := by
    have := hb _ (List.mem_cons_self ..) (.d (.sl (colD cols))) (by simp)
    simp only [bndC, bnd, colD_len] at this
    exact this.1
  clear hb
  unfold colAt
  refine Sat_of T6 c_ref34_Col_ok (by kernel_rfl) ?_
  conv => whnf
  refine loopI (P := Pg) (f := T6.f) (body := c_ref34_Col_L0) cols.length (fun i => ⟨[(1, .w (.c (str name))), (2, cV (.ptr 2 0)), (5, intV i)], [(2, .box [.d (.sl (colD cols)), .d (.sl (rowsD rows))])]⟩) (fun i => findI (fun x : Col => beqS x.name name) 0 cols = findI (fun x : Col => beqS x.name name) i (cols.drop i)) ⟨rfl, normW_of ?_⟩ ?_
  · conv => whnf
    rfl
  · intro i hi hR
    conv => whnf
    refine cond_i (fun h1 => ?_) (fun h1 => ?_)
    · have hlt : i < cols.length := by have := of_decide_eq_true h1; rw [colD_len] at this; omega
      rw [drop_cons hlt] at hR
      have hg := colD_get hlt
      generalize cols[i] = c at *
      obtain ⟨cn, ct⟩ := c
      conv => whnf
      refine ⟨by omega, _, hg, rfl, ?_⟩
      conv => whnf
      refine cond_i (fun h3 => ?_) (fun h3 => ?_)
      · have h3 : beqS cn name = true := h3
        simp only [findI, h3, cond_true] at hR
        conv => whnf
        rw [hR]; rfl
      · have h3 : beqS cn name = false := h3
        simp only [findI, h3, cond_false] at hR
        conv => whnf
        refine ⟨hlt, hR, normW_of ?_⟩
        conv => whnf
        rw [wrapS hlt hlc]
        rfl
    · have hge : cols.length ≤ i := by have := of_decide_eq_false h1; rw [colD_len] at this; omega
      rw [List.drop_eq_nil_of_le hge] at hR
      conv => whnf
      rw [hR]; rfl

theorem colsL_end (all : List Col) (i : Nat) : colsL all i [] = 0 := rfl
theorem sat_ref34_Check (t : Tbl) : Sat Pg k_ref34_Check [t.w] (fun r => r = rI (tblErr t)) := by
  have hcol := sat_ref34_Col t
  obtain ⟨cols, rows⟩ := t
  unfold tblErr
  simp only
  rw [← colD_len, ← rowsD_len]
  refine Sat_of T6 c_ref34_Check_ok (by kernel_rfl) ?_
  conv => whnf
  refine cond_i (fun h => ?_) (fun h => ?_)
  · have h : (decide (((colD cols).length : Int) > 32) || decide (((rowsD rows).length : Int) > 20000)) = true := h
    rw [h, cond_true]
    conv => whnf
    rfl
  · have h : (decide (((colD cols).length : Int) > 32) || decide (((rowsD rows).length : Int) > 20000)) = false := h
    rw [h, cond_false]
    simp only [Bool.or_eq_false_iff, decide_eq_false_iff_not, colD_len, rowsD_len] at h
    conv => whnf
    refine loopI (P := Pg) (f := T6.f) (body := c_ref34_Check_L0) cols.length (fun i => ⟨[(1, cV (.ptr 1 0)), (3, intV i)], [(1, .box [.d (.sl (colD cols)), .d (.sl (rowsD rows))])]⟩) (fun i => colsL cols 0 cols = colsL cols i (cols.drop i)) ⟨rfl, normW_of ?_⟩ ?_
    · conv => whnf
      rfl
    · intro i hi hR
      conv => whnf
      refine cond_i (fun h1 => ?_) (fun h1 => ?_)
      · have hlt : i < cols.length := by have := of_decide_eq_true h1; rw [colD_len] at this; omega
        rw [drop_cons hlt] at hR
        have hg := colD_get hlt
        have hcl := hcol cols[i].name
        have hdup : decide (colAt cols cols[i].name < (i : Int)) = decide (colAt (cols.take i) cols[i].name ≥ 0) := by
          have a := findI_take (fun x : Col => beqS x.name cols[i].name) cols i 0 ⟨cols[i], List.getElem?_eq_getElem hlt, AM.beqS_self _⟩
          have b := findI_ge (fun x : Col => beqS x.name cols[i].name) (cols.take i) 0
          rw [Nat.zero_add] at a
          refine Eq.trans ?_ b.symm
          rw [Bool.eq_iff_iff, decide_eq_true_iff]
          exact a
        have hcl : Sat Pg k_ref34_Col [Tbl.w ⟨cols, rows⟩, .c (str cols[i].name)] (fun r => r = rI (colAt cols cols[i].name)) := hcl
        simp only [colsL] at hR
        rw [← hdup] at hR
        have hnm := sat_ref06_Name cols[i].name
        generalize colAt cols cols[i].name = ca at *
        generalize namErr cols[i].name = ne at *
        clear hdup
        generalize cols[i] = c at *
        obtain ⟨cn, ct⟩ := c
        conv => whnf
        refine ⟨by omega, _, hg, rfl, ?_⟩
        conv => whnf
        refine Sat.mono (hnm) ?_
        rintro _ rfl
        conv => whnf
        refine cond_i (fun h2 => ?_) (fun h2 => ?_)
        · have h2 : (ne != 0) = true := h2
          rw [h2, cond_true] at hR
          conv => whnf
          rw [hR, h2]; rfl
        · have h2 : (ne != 0) = false := h2
          rw [h2, cond_false] at hR
          conv => whnf
          refine Sat.mono (hcl) ?_
          rintro _ rfl
          conv => whnf
          refine cond_i (fun h3 => ?_) (fun h3 => ?_)
          · have h3 : decide (ca < (i : Int)) = true := h3
            rw [h3, cond_true] at hR
            conv => whnf
            rw [hR]; rfl
          · have h3 : decide (ca < (i : Int)) = false := h3
            rw [h3, cond_false] at hR
            conv => whnf
            refine cond_i (fun h4 => ?_) (fun h4 => ?_)
            · have h4 : (ct != 1 && ct != 2 && ct != 3) = true := h4
              rw [h4, cond_true] at hR
              conv => whnf
              rw [hR]; rfl
            · have h4 : (ct != 1 && ct != 2 && ct != 3) = false := h4
              rw [h4, cond_false] at hR
              conv => whnf
              refine ⟨hlt, hR, normW_of ?_⟩
              conv => whnf
              rw [wrapS hlt (by omega)]
              rfl
      · have hge : cols.length ≤ i := by have := of_decide_eq_false h1; rw [colD_len] at this; omega
        rw [List.drop_eq_nil_of_le hge, colsL_end] at hR
        rw [hR]
        simp only [bne_self_eq_false, cond_false]
        conv => whnf
        refine loopI (P := Pg) (f := T6.f) (body := c_ref34_Check_L2) rows.length (fun i => ⟨[(1, cV (.ptr 1 0)), (6, intV i)], [(1, .box [.d (.sl (colD cols)), .d (.sl (rowsD rows))])]⟩) (fun i => rowsL cols rows = rowsL cols (rows.drop i)) ⟨rfl, normW_of ?_⟩ ?_
        · conv => whnf
          rfl
        · clear hR hge h1 hi i
          intro i hi hR
          conv => whnf
          refine cond_i (fun h1 => ?_) (fun h1 => ?_)
          · have hlt : i < rows.length := by have := of_decide_eq_true h1; rw [rowsD_len] at this; omega
            rw [drop_cons hlt] at hR
            have hg := rowsD_get hlt
            simp only [rowsL] at hR
            generalize rows[i] = row at *
            rw [← rowD_len, ← colD_len] at hR
            conv => whnf
            refine ⟨by omega, _, hg, rfl, ?_⟩
            conv => whnf
            refine cond_i (fun h2 => ?_) (fun h2 => ?_)
            · have h2 : (((rowD row).length : Int) != ((colD cols).length : Int)) = true := h2
              rw [h2, cond_true] at hR
              conv => whnf
              rw [hR]; rfl
            · have h2 : (((rowD row).length : Int) != ((colD cols).length : Int)) = false := h2
              rw [h2, cond_false] at hR
              have hl : row.length = cols.length := by rw [bne_eq_false_iff_eq, rowD_len, colD_len] at h2; omega
              conv => whnf
              refine loopI (P := Pg) (f := T6.f) (body := c_ref34_Check_L1) cols.length (fun j => ⟨[(1, cV (.ptr 1 0)), (6, intV i), (7, intV j)], [(1, .box [.d (.sl (colD cols)), .d (.sl (rowsD rows))])]⟩) (fun j => valuesL cols row = valuesL (cols.drop j) (row.drop j)) ⟨rfl, normW_of ?_⟩ ?_
              · conv => whnf
                rfl
              · intro j hj hV
                conv => whnf
                refine cond_i (fun h3 => ?_) (fun h3 => ?_)
                · have hlc : j < cols.length := by have := of_decide_eq_true h3; rw [colD_len] at this; omega
                  have hlj : j < row.length := by omega
                  rw [drop_cons hlj, drop_cons hlc] at hV
                  have hgc := colD_get hlc
                  have hgr := rowD_get hlj
                  simp only [valuesL] at hV
                  have hv := sat_ref33_Value cols[j].t row[j]
                  generalize valErr cols[j].t row[j] = e at *
                  generalize cols[j] = c at *
                  generalize row[j] = v at *
                  obtain ⟨cn, ct⟩ := c
                  obtain ⟨v1, v2, v3⟩ := v
                  conv => whnf
                  refine ⟨by omega, _, hgc, rfl, ?_⟩
                  conv => whnf
                  refine ⟨by omega, _, hg, rfl, ?_⟩
                  conv => whnf
                  refine ⟨by omega, _, hgr, rfl, ?_⟩
                  conv => whnf
                  refine Sat.mono (hv) ?_
                  rintro _ rfl
                  conv => whnf
                  refine cond_i (fun h5 => ?_) (fun h5 => ?_)
                  · have h5 : (e != 0) = true := h5
                    rw [h5, cond_true] at hV
                    rw [hV, h5, cond_true] at hR
                    conv => whnf
                    rw [hR]; rfl
                  · have h5 : (e != 0) = false := h5
                    rw [h5, cond_false] at hV
                    conv => whnf
                    refine ⟨hlc, hV, normW_of ?_⟩
                    conv => whnf
                    rw [wrapS hlc (by omega)]
                    rfl
                · have hge : cols.length ≤ j := by have := of_decide_eq_false h3; rw [colD_len] at this; omega
                  rw [List.drop_eq_nil_of_le (by omega : row.length ≤ j), valuesL_nil] at hV
                  rw [hV] at hR
                  have hR : rowsL cols rows = rowsL cols (rows.drop (i + 1)) := hR
                  conv => whnf
                  refine ⟨hlt, hR, normW_of ?_⟩
                  conv => whnf
                  rw [wrapS hlt (by omega)]
                  rfl
          · have hge : rows.length ≤ i := by have := of_decide_eq_false h1; rw [rowsD_len] at this; omega
            rw [List.drop_eq_nil_of_le hge] at hR
            have hR : rowsL cols rows = 0 := hR
            conv => whnf
            rw [hR]; rfl
end Go.Proofs.YtcajnlkkjdhjdaaGreat
