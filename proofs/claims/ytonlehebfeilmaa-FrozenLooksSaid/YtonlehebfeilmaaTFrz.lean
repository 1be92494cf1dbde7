/- Facts of the program: types. -/
import Derived.Test.YtonlehebfeilmaaWSha
import Derived.Test.YtonlehebfeilmaaPFrz
import Derived.KernelRfl
namespace Go.Proofs.Ytonlehebfeilmaa.K
open Go Go.RowKit
set_option linter.unusedSimpArgs false
set_option linter.unusedVariables false
attribute [local congr] PW_congr XK_congr RK_congr RQ_congr stepF_congr guardF_congr then_congr inBlock_congr Ends_congr appendF_congr CallK_congr CallG_congr EqK_congr EqG_congr SpecK_congr CallX_congr
namespace T
theorem arrA_34 : arrA Try.prog 34 = none := by kernel_rfl
theorem arrA_58 : arrA Try.prog 58 = none := by kernel_rfl
theorem arrB_64_32 : arrB Try.prog 64 32 = true := by kernel_rfl
theorem bldA_60 : bldA Try.prog 60 = some ([Value.slice none 0 0], Sum.inl [(0, 1)]) := by kernel_rfl
theorem bldA_64 : bldA Try.prog 64 = some ((u8s (List.replicate 32 0)), Sum.inr 1) := by kernel_rfl
theorem enters_100 : entersB Try.prog 100 = true := by kernel_rfl
theorem enters_46 : entersB Try.prog 46 = true := by kernel_rfl
theorem enters_47 : entersB Try.prog 47 = true := by kernel_rfl
theorem enters_48 : entersB Try.prog 48 = true := by kernel_rfl
theorem enters_49 : entersB Try.prog 49 = true := by kernel_rfl
theorem enters_50 : entersB Try.prog 50 = true := by kernel_rfl
theorem enters_51 : entersB Try.prog 51 = true := by kernel_rfl
theorem enters_52 : entersB Try.prog 52 = true := by kernel_rfl
theorem enters_53 : entersB Try.prog 53 = true := by kernel_rfl
theorem enters_54 : entersB Try.prog 54 = true := by kernel_rfl
theorem enters_55 : entersB Try.prog 55 = true := by kernel_rfl
theorem enters_58 : entersB Try.prog 58 = true := by kernel_rfl
theorem enters_59 : entersB Try.prog 59 = true := by kernel_rfl
theorem enters_61 : entersB Try.prog 61 = true := by kernel_rfl
theorem enters_94 : entersB Try.prog 94 = true := by kernel_rfl
theorem enters_95 : entersB Try.prog 95 = true := by kernel_rfl
theorem enters_96 : entersB Try.prog 96 = true := by kernel_rfl
theorem enters_97 : entersB Try.prog 97 = true := by kernel_rfl
theorem enters_98 : entersB Try.prog 98 = true := by kernel_rfl
theorem fldA_60_0 : fldA Try.prog 60 0 = some (0, 1, false) := by kernel_rfl
theorem res_100 : Try.f100.results.toList = [] := rfl
theorem res_46 : Try.f46.results.toList = [.tmp 0] := rfl
theorem res_47 : Try.f47.results.toList = [.cell 2 60] := rfl
theorem res_48 : Try.f48.results.toList = [.tmp 2] := rfl
theorem res_49 : Try.f49.results.toList = [.tmp 2] := rfl
theorem res_50 : Try.f50.results.toList = [.cell 2 64] := rfl
theorem res_52 : Try.f52.results.toList = [.tmp 4] := rfl
theorem res_53 : Try.f53.results.toList = [.tmp 2] := rfl
theorem res_54 : Try.f54.results.toList = [.cell 4 60] := rfl
theorem res_55 : Try.f55.results.toList = [.cell 4 64, .tmp 5] := rfl
theorem res_56 : Try.f56.results.toList = [.tmp 4] := rfl
theorem res_57 : Try.f57.results.toList = [.tmp 4] := rfl
theorem res_58 : Try.f58.results.toList = [.tmp 4] := rfl
theorem res_59 : Try.f59.results.toList = [.tmp 2] := rfl
theorem res_60 : Try.f60.results.toList = [.tmp 2] := rfl
theorem res_61 : Try.f61.results.toList = [.tmp 4] := rfl
theorem res_9 : Try.f9.results.toList = [.tmp 4] := rfl
theorem res_94 : Try.f94.results.toList = [.tmp 2] := rfl
theorem res_95 : Try.f95.results.toList = [.tmp 2] := rfl
theorem res_96 : Try.f96.results.toList = [] := rfl
theorem res_97 : Try.f97.results.toList = [] := rfl
theorem rowA_34 : rowA Try.prog 34 = some (1, 16) := by kernel_rfl
theorem rowA_58 : rowA Try.prog 58 = some (32, 32) := by kernel_rfl
theorem rowA_72 : rowA Try.prog 72 = some (1, 8) := by kernel_rfl
theorem slcA_34 : slcA Try.prog 34 = some (1, 16, false) := by kernel_rfl
theorem slcA_58 : slcA Try.prog 58 = some (32, 32, true) := by kernel_rfl
theorem tyA_58 : tyA Try.prog 58 = some (false, 1) := by kernel_rfl
theorem tyA_60 : tyA Try.prog 60 = some (true, 1) := by kernel_rfl
theorem tyA_72 : tyA Try.prog 72 = some (false, 1) := by kernel_rfl
theorem tyA_9 : tyA Try.prog 9 = some (false, 1) := by kernel_rfl
theorem under_34 : Program.underlying Try.prog 34 = some (TypeDesc.slice 9) := by kernel_rfl
theorem under_58 : Program.underlying Try.prog 58 = some (TypeDesc.slice 64) := by kernel_rfl
theorem under_64 : Program.underlying Try.prog 64 = some (TypeDesc.array 32 5) := by kernel_rfl
theorem under_72 : Program.underlying Try.prog 72 = some (TypeDesc.slice 3) := by kernel_rfl
theorem zeroA_60 : zeroA Try.prog 60 = some [Value.slice none 0 0] := by kernel_rfl
theorem zeroA_72 : zeroA Try.prog 72 = some [Value.slice none 0 0] := by kernel_rfl
end T
attribute [go_sem] T.arrA_34 T.arrA_58 T.bldA_60 T.bldA_64 T.fldA_60_0 T.rowA_34 T.rowA_58 T.rowA_72 T.slcA_34 T.slcA_58 T.tyA_58 T.tyA_60 T.tyA_72 T.tyA_9 T.under_34 T.under_58 T.under_64 T.under_72 T.zeroA_60 T.zeroA_72
end Go.Proofs.Ytonlehebfeilmaa.K
