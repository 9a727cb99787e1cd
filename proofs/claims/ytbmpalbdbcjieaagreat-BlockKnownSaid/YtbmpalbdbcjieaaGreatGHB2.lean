/- Remembered calls. -/
import Derived.Test.YtbmpalbdbcjieaaGreatGHB0
namespace Go.Proofs.YtbmpalbdbcjieaaGreat.R
open Go Go.Vm
set_option maxRecDepth 100000
noncomputable def ma_7 : List Value := [va_24, (.slice (some ⟨363, 0, none⟩) 2 2)]
noncomputable def mh_7 : Heap := ⟨364, (.node .dead tr_118 (.node ob_3 (.node .dead tr_122 tr_112) tr_125))⟩
noncomputable def mo_7 : List CO := [(.ret (.tuple ⟨[va_23, (.int .i64 5)]⟩) ⟨407, (.node .dead (.node .dead (.node .dead (.node .dead tr_128 (.node .dead tr_127 (.node .dead tr_71 tr_94))) tr_132) tr_137) tr_142)⟩)]
theorem me_7 : fewOK (xcall Tryz.prog tabS 1000 60 (.fn 9) ma_7 mh_7) mo_7 = true := by kernel_rfl
noncomputable def ma_8 : List Value := [va_24, (.slice (some ⟨363, 0, none⟩) 2 2)]
noncomputable def mh_8 : Heap := ⟨365, (.node .dead tr_118 (.node ob_3 (.node .dead tr_122 (.node .dead tr_111 (.node .dead (.node .dead tr_5 tr_143) tr_87))) tr_125))⟩
noncomputable def mo_8 : List CO := [(.ret (.tuple ⟨[va_23, (.int .i64 5)]⟩) ⟨408, tr_145⟩)]
theorem me_8 : fewOK (xcall Tryz.prog tabS 1000 60 (.fn 9) ma_8 mh_8) mo_8 = true := by kernel_rfl
noncomputable def ma_9 : List Value := [va_24, (.slice (some ⟨364, 0, none⟩) 2 2)]
noncomputable def mh_9 : Heap := ⟨365, (.node .dead (.node .dead (.node .dead tr_106 (.node .dead tr_104 (.node .dead (.node .dead tr_5 tr_146) tr_77))) tr_117) (.node ob_3 (.node .dead tr_122 (.node .dead tr_111 (.node .dead (.node .dead tr_5 tr_147) tr_87))) tr_125))⟩
noncomputable def mo_9 : List CO := [(.ret (.tuple ⟨[va_23, (.int .i64 5)]⟩) ⟨408, tr_148⟩)]
theorem me_9 : fewOK (xcall Tryz.prog tabS 1000 60 (.fn 9) ma_9 mh_9) mo_9 = true := by kernel_rfl
noncomputable def ma_10 : List Value := [va_4]
noncomputable def mh_10 : Heap := ⟨408, (.node .dead (.node .dead (.node .dead (.node .dead tr_128 (.node .dead tr_127 (.node .dead (.node ob_8 (.node .dead tr_3 tr_119) tr_4) tr_94))) tr_132) tr_137) tr_142)⟩
noncomputable def mo_10 : List CO := [(.ret (.tuple ⟨[(.slice (some ⟨536, 0, (some 0)⟩) 190 190), (.int .i64 0)]⟩) ⟨537, tr_186⟩)]
theorem me_10 : fewOK (xcall Tryz.prog tabS 1000 60 (.fn 22) ma_10 mh_10) mo_10 = true := by kernel_rfl
noncomputable def ma_11 : List Value := [(.slice none 0 0)]
noncomputable def mh_11 : Heap := ⟨537, tr_186⟩
noncomputable def mo_11 : List CO := [(.ret (.tuple ⟨[va_23, (.agg ⟨[(.int .i64 6), (.int .i64 0)]⟩)]⟩) ⟨549, (.node .dead (.node .dead tr_192 tr_197) (.node ob_3 tr_200 tr_203))⟩)]
theorem me_11 : fewOK (xcall Tryz.prog tabS 1000 60 (.fn 15) ma_11 mh_11) mo_11 = true := by kernel_rfl
noncomputable def ma_12 : List Value := [(.slice (some ⟨536, 0, (some 0)⟩) 189 190)]
noncomputable def mh_12 : Heap := ⟨551, (.node .dead (.node .dead tr_192 tr_205) (.node ob_3 tr_200 tr_209))⟩
noncomputable def mo_12 : List CO := [(.ret (.tuple ⟨[va_23, (.agg ⟨[(.int .i64 6), (.int .i64 174)]⟩)]⟩) ⟨653, (.node .dead (.node .dead (.node .dead (.node .dead tr_215 tr_218) tr_227) tr_234) (.node ob_3 tr_239 tr_246))⟩)]
theorem me_12 : fewOK (xcall Tryz.prog tabS 1000 60 (.fn 15) ma_12 mh_12) mo_12 = true := by kernel_rfl
end Go.Proofs.YtbmpalbdbcjieaaGreat.R
