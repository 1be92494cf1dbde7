/- Facts of the program: its types, as far as package nib and its laws name them. -/
import Derived.Test.YtonlehebfeilmaaRows
import Derived.Test.YtonlehebfeilmaaK25
import Derived.Test.YtonlehebfeilmaaPNib
import Derived.KernelRfl
namespace Go.Proofs.Ytonlehebfeilmaa.K
open Go Go.RowKit
set_option linter.unusedSimpArgs false
set_option linter.unusedVariables false
attribute [local congr] PW_congr XK_congr RK_congr RQ_congr stepF_congr guardF_congr then_congr inBlock_congr Ends_congr appendF_congr CallK_congr CallG_congr EqK_congr EqG_congr SpecK_congr CallX_congr
theorem mixed : Try.prog.follows .mixedOrders = true := by kernel_rfl
namespace T
theorem arrA_126 : arrA Try.prog 126 = none := by kernel_rfl
theorem arrA_29 : arrA Try.prog 29 = some (32, 1, false) := by kernel_rfl
theorem arrA_37 : arrA Try.prog 37 = none := by kernel_rfl
theorem arrA_9 : arrA Try.prog 9 = none := by kernel_rfl
theorem arrB_29_32 : arrB Try.prog 29 32 = true := by kernel_rfl
theorem bldA_29 : bldA Try.prog 29 = some ((u8s (List.replicate 32 0)), Sum.inr 1) := by kernel_rfl
theorem enters_121 : entersB Try.prog 121 = true := by kernel_rfl
theorem enters_122 : entersB Try.prog 122 = true := by kernel_rfl
theorem enters_133 : entersB Try.prog 133 = true := by kernel_rfl
theorem enters_28 : entersB Try.prog 28 = true := by kernel_rfl
theorem enters_33 : entersB Try.prog 33 = true := by kernel_rfl
theorem enters_34 : entersB Try.prog 34 = true := by kernel_rfl
theorem enters_35 : entersB Try.prog 35 = true := by kernel_rfl
theorem enters_36 : entersB Try.prog 36 = true := by kernel_rfl
theorem enters_37 : entersB Try.prog 37 = true := by kernel_rfl
theorem enters_38 : entersB Try.prog 38 = true := by kernel_rfl
theorem enters_39 : entersB Try.prog 39 = true := by kernel_rfl
theorem enters_40 : entersB Try.prog 40 = true := by kernel_rfl
theorem enters_41 : entersB Try.prog 41 = true := by kernel_rfl
theorem enters_42 : entersB Try.prog 42 = true := by kernel_rfl
theorem enters_43 : entersB Try.prog 43 = true := by kernel_rfl
theorem enters_44 : entersB Try.prog 44 = true := by kernel_rfl
theorem enters_45 : entersB Try.prog 45 = true := by kernel_rfl
theorem enters_89 : entersB Try.prog 89 = true := by kernel_rfl
theorem enters_90 : entersB Try.prog 90 = true := by kernel_rfl
theorem enters_91 : entersB Try.prog 91 = true := by kernel_rfl
theorem enters_92 : entersB Try.prog 92 = true := by kernel_rfl
theorem enters_93 : entersB Try.prog 93 = true := by kernel_rfl
theorem res_121 : Try.f121.results.toList = [.tmp 4] := rfl
theorem res_122 : Try.f122.results.toList = [.tmp 4] := rfl
theorem res_133 : Try.f133.results.toList = [.tmp 2] := rfl
theorem res_28 : Try.f28.results.toList = [.tmp 2] := rfl
theorem res_33 : Try.f33.results.toList = [.tmp 0] := rfl
theorem res_34 : Try.f34.results.toList = [.tmp 4, .tmp 5] := rfl
theorem res_35 : Try.f35.results.toList = [.tmp 2] := rfl
theorem res_36 : Try.f36.results.toList = [.tmp 2, .tmp 3, .tmp 4] := rfl
theorem res_37 : Try.f37.results.toList = [.tmp 4] := rfl
theorem res_38 : Try.f38.results.toList = [.tmp 2] := rfl
theorem res_39 : Try.f39.results.toList = [.cell 2 29, .tmp 3] := rfl
theorem res_40 : Try.f40.results.toList = [.tmp 2] := rfl
theorem res_41 : Try.f41.results.toList = [.tmp 2] := rfl
theorem res_42 : Try.f42.results.toList = [.tmp 2] := rfl
theorem res_43 : Try.f43.results.toList = [.tmp 4] := rfl
theorem res_44 : Try.f44.results.toList = [.tmp 4] := rfl
theorem res_45 : Try.f45.results.toList = [.tmp 4] := rfl
theorem res_5 : Try.f5.results.toList = [.tmp 4] := rfl
theorem res_6 : Try.f6.results.toList = [.tmp 2] := rfl
theorem res_7 : Try.f7.results.toList = [.tmp 4] := rfl
theorem res_8 : Try.f8.results.toList = [.tmp 4] := rfl
theorem res_89 : Try.f89.results.toList = [.tmp 2] := rfl
theorem res_90 : Try.f90.results.toList = [] := rfl
theorem res_91 : Try.f91.results.toList = [.tmp 4] := rfl
theorem res_92 : Try.f92.results.toList = [.tmp 2] := rfl
theorem res_93 : Try.f93.results.toList = [.tmp 4] := rfl
theorem rowA_126 : rowA Try.prog 126 = some (1, 24) := by kernel_rfl
theorem rowA_37 : rowA Try.prog 37 = some (1, 1) := by kernel_rfl
theorem slcA_126 : slcA Try.prog 126 = some (1, 24, false) := by kernel_rfl
theorem slcA_29 : slcA Try.prog 29 = none := by kernel_rfl
theorem slcA_37 : slcA Try.prog 37 = some (1, 1, false) := by kernel_rfl
theorem slcA_9 : slcA Try.prog 9 = none := by kernel_rfl
theorem tyA_29 : tyA Try.prog 29 = some (true, 32) := by kernel_rfl
theorem tyA_37 : tyA Try.prog 37 = some (false, 1) := by kernel_rfl
theorem tyA_5 : tyA Try.prog 5 = some (false, 1) := by kernel_rfl
theorem under_126 : Program.underlying Try.prog 126 = some (TypeDesc.slice 37) := by kernel_rfl
theorem under_29 : Program.underlying Try.prog 29 = some (TypeDesc.array 32 5) := by kernel_rfl
theorem under_3 : Program.underlying Try.prog 3 = some (TypeDesc.int IntKind.i64) := by kernel_rfl
theorem under_37 : Program.underlying Try.prog 37 = some (TypeDesc.slice 5) := by kernel_rfl
theorem under_4 : Program.underlying Try.prog 4 = some TypeDesc.bool := by kernel_rfl
theorem under_42 : Program.underlying Try.prog 42 = some (TypeDesc.int IntKind.i64) := by kernel_rfl
theorem under_5 : Program.underlying Try.prog 5 = some (TypeDesc.int IntKind.u8) := by kernel_rfl
theorem under_9 : Program.underlying Try.prog 9 = some TypeDesc.string := by kernel_rfl
theorem zeroA_29 : zeroA Try.prog 29 = some (u8s (List.replicate 32 0)) := by kernel_rfl
theorem zeroA_37 : zeroA Try.prog 37 = some [Value.slice none 0 0] := by kernel_rfl
end T
attribute [go_sem] T.arrA_126 T.arrA_29 T.arrA_37 T.arrA_9 T.bldA_29 T.rowA_126 T.rowA_37 T.slcA_126 T.slcA_29 T.slcA_37 T.slcA_9 T.tyA_29 T.tyA_37 T.tyA_5 T.under_126 T.under_29 T.under_3 T.under_37 T.under_4 T.under_42 T.under_5 T.under_9 T.zeroA_29 T.zeroA_37
end Go.Proofs.Ytonlehebfeilmaa.K
