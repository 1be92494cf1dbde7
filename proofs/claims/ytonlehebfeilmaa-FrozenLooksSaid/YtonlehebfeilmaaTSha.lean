/- Facts of the program: types. -/
import Derived.Test.YtonlehebfeilmaaTNib
import Derived.Test.YtonlehebfeilmaaPSha
import Derived.KernelRfl
namespace Go.Proofs.Ytonlehebfeilmaa.K
open Go Go.RowKit
set_option linter.unusedSimpArgs false
set_option linter.unusedVariables false
attribute [local congr] PW_congr XK_congr RK_congr RQ_congr stepF_congr guardF_congr then_congr inBlock_congr Ends_congr appendF_congr CallK_congr CallG_congr EqK_congr EqG_congr SpecK_congr CallX_congr
namespace T
theorem arrA_152 : arrA Try.prog 152 = some (8, 1, false) := by kernel_rfl
theorem arrA_156 : arrA Try.prog 156 = none := by kernel_rfl
theorem arrA_168 : arrA Try.prog 168 = some (64, 1, false) := by kernel_rfl
theorem arrA_182 : arrA Try.prog 182 = some (8, 1, false) := by kernel_rfl
theorem arrA_64 : arrA Try.prog 64 = some (32, 1, false) := by kernel_rfl
theorem bldA_152 : bldA Try.prog 152 = some ((u32s (List.replicate 8 0)), Sum.inr 1) := by kernel_rfl
theorem bldA_168 : bldA Try.prog 168 = some ((u32s (List.replicate 64 0)), Sum.inr 1) := by kernel_rfl
theorem enters_123 : entersB Try.prog 123 = true := by kernel_rfl
theorem enters_124 : entersB Try.prog 124 = true := by kernel_rfl
theorem enters_125 : entersB Try.prog 125 = true := by kernel_rfl
theorem enters_126 : entersB Try.prog 126 = true := by kernel_rfl
theorem enters_127 : entersB Try.prog 127 = true := by kernel_rfl
theorem enters_134 : entersB Try.prog 134 = true := by kernel_rfl
theorem enters_135 : entersB Try.prog 135 = true := by kernel_rfl
theorem enters_136 : entersB Try.prog 136 = true := by kernel_rfl
theorem enters_137 : entersB Try.prog 137 = true := by kernel_rfl
theorem enters_138 : entersB Try.prog 138 = true := by kernel_rfl
theorem enters_139 : entersB Try.prog 139 = true := by kernel_rfl
theorem enters_140 : entersB Try.prog 140 = true := by kernel_rfl
theorem enters_141 : entersB Try.prog 141 = true := by kernel_rfl
theorem enters_146 : entersB Try.prog 146 = true := by kernel_rfl
theorem enters_147 : entersB Try.prog 147 = true := by kernel_rfl
theorem enters_148 : entersB Try.prog 148 = true := by kernel_rfl
theorem enters_99 : entersB Try.prog 99 = true := by kernel_rfl
theorem res_123 : Try.f123.results.toList = [.cell 0 152] := rfl
theorem res_124 : Try.f124.results.toList = [.tmp 2] := rfl
theorem res_125 : Try.f125.results.toList = [.cell 4 152] := rfl
theorem res_126 : Try.f126.results.toList = [.tmp 2] := rfl
theorem res_127 : Try.f127.results.toList = [.tmp 4] := rfl
theorem res_134 : Try.f134.results.toList = [.tmp 4] := rfl
theorem res_135 : Try.f135.results.toList = [.cell 2 168] := rfl
theorem res_136 : Try.f136.results.toList = [.cell 0 168] := rfl
theorem res_137 : Try.f137.results.toList = [.tmp 10] := rfl
theorem res_138 : Try.f138.results.toList = [.tmp 4] := rfl
theorem res_139 : Try.f139.results.toList = [.tmp 4] := rfl
theorem res_140 : Try.f140.results.toList = [.tmp 2] := rfl
theorem res_141 : Try.f141.results.toList = [.tmp 2] := rfl
theorem res_146 : Try.f146.results.toList = [.tmp 2] := rfl
theorem res_147 : Try.f147.results.toList = [.tmp 3] := rfl
theorem res_148 : Try.f148.results.toList = [.tmp 4] := rfl
theorem res_51 : Try.f51.results.toList = [.cell 2 64] := rfl
theorem res_98 : Try.f98.results.toList = [.cell 2 64] := rfl
theorem res_99 : Try.f99.results.toList = [.tmp 2] := rfl
theorem rowA_156 : rowA Try.prog 156 = some (1, 8) := by kernel_rfl
theorem slcA_152 : slcA Try.prog 152 = none := by kernel_rfl
theorem slcA_156 : slcA Try.prog 156 = some (1, 8, false) := by kernel_rfl
theorem slcA_168 : slcA Try.prog 168 = none := by kernel_rfl
theorem slcA_182 : slcA Try.prog 182 = none := by kernel_rfl
theorem slcA_64 : slcA Try.prog 64 = none := by kernel_rfl
theorem tyA_151 : tyA Try.prog 151 = some (false, 1) := by kernel_rfl
theorem tyA_152 : tyA Try.prog 152 = some (true, 8) := by kernel_rfl
theorem tyA_155 : tyA Try.prog 155 = some (false, 1) := by kernel_rfl
theorem tyA_168 : tyA Try.prog 168 = some (true, 64) := by kernel_rfl
theorem tyA_64 : tyA Try.prog 64 = some (true, 32) := by kernel_rfl
theorem under_122 : Program.underlying Try.prog 122 = some (TypeDesc.int IntKind.u64) := by kernel_rfl
theorem under_151 : Program.underlying Try.prog 151 = some (TypeDesc.int IntKind.u32) := by kernel_rfl
theorem under_155 : Program.underlying Try.prog 155 = some (TypeDesc.int IntKind.u64) := by kernel_rfl
theorem under_156 : Program.underlying Try.prog 156 = some (TypeDesc.slice 155) := by kernel_rfl
theorem under_182 : Program.underlying Try.prog 182 = some (TypeDesc.array 8 5) := by kernel_rfl
theorem zeroA_152 : zeroA Try.prog 152 = some (u32s (List.replicate 8 0)) := by kernel_rfl
theorem zeroA_168 : zeroA Try.prog 168 = some (u32s (List.replicate 64 0)) := by kernel_rfl
theorem zeroA_182 : zeroA Try.prog 182 = some (u8s (List.replicate 8 0)) := by kernel_rfl
theorem zeroA_64 : zeroA Try.prog 64 = some (u8s (List.replicate 32 0)) := by kernel_rfl
end T
attribute [go_sem] T.arrA_152 T.arrA_156 T.arrA_168 T.arrA_182 T.arrA_64 T.bldA_152 T.bldA_168 T.rowA_156 T.slcA_152 T.slcA_156 T.slcA_168 T.slcA_182 T.slcA_64 T.tyA_151 T.tyA_152 T.tyA_155 T.tyA_168 T.tyA_64 T.under_122 T.under_151 T.under_155 T.under_156 T.under_182 T.zeroA_152 T.zeroA_168 T.zeroA_182 T.zeroA_64
end Go.Proofs.Ytonlehebfeilmaa.K
