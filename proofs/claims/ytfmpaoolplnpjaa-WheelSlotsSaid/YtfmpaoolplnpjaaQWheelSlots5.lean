/- Contracts of functions, over the machine. -/
import Derived.Test.YtfmpaoolplnpjaaQWheelSlots4
import Derived.Test.YtfmpaoolplnpjaaVL
set_option linter.unusedSimpArgs false
set_option linter.unusedSectionVars false
noncomputable section
namespace Go.Proofs.Ytfmpaoolplnpjaa.R
open Go Go.Vm
set_option maxRecDepth 100000
def rep (n : Nat) (v : Value) (l : List Value) : List Value := List.replicate n v ++ l
def ob_1 : AObj := .cells ((.int .i64 4) :: (.slice none 0 0) :: (.slice (some ⟨12, 0, (some 0)⟩) 3 3) :: rep 254 (.slice none 0 0) ((.map (some 1)) :: [])) 0
def ob_2 : AObj := .cells ((.pointer (some ⟨6, 0, none⟩)) :: (.pointer (some ⟨3, 0, none⟩)) :: (.pointer (some ⟨10, 0, none⟩)) :: []) 1
def ob_3 : AObj := .cells ((.pointer (some ⟨6, 0, none⟩)) :: (.pointer (some ⟨10, 0, none⟩)) :: (.pointer (some ⟨3, 0, none⟩)) :: []) 1
def ob_4 : AObj := .cells ((.int .i64 2) :: (.int .i64 5) :: (.int .i64 3) :: (.int .i64 5) :: (.int .i64 1) :: (.int .i64 9) :: []) 0
def ob_5 : AObj := .cells ((.int .i64 2) :: (.int .i64 5) :: (.int .i64 3) :: (.int .i64 5) :: (.int .i64 1) :: (.int .i64 9) :: []) 2
def ob_6 : AObj := .cells ((.int .i64 4) :: (.slice none 0 0) :: (.slice (some ⟨12, 0, (some 0)⟩) 2 3) :: rep 254 (.slice none 0 0) ((.map (some 1)) :: [])) 0
def ob_7 : AObj := .cells ((.pointer (some ⟨10, 0, none⟩)) :: (.pointer (some ⟨3, 0, none⟩)) :: (.pointer (some ⟨6, 0, none⟩)) :: []) 1
def ob_8 : AObj := .cells ((.int .i64 4) :: (.slice none 0 0) :: (.slice (some ⟨12, 0, (some 0)⟩) 1 3) :: rep 254 (.slice none 0 0) ((.map (some 1)) :: [])) 0
def ob_9 : AObj := .cells ((.pointer (some ⟨3, 0, none⟩)) :: (.pointer (some ⟨10, 0, none⟩)) :: (.pointer (some ⟨6, 0, none⟩)) :: []) 1
def ob_10 : AObj := .cells ((.int .i64 4) :: (.slice none 0 0) :: (.slice (some ⟨12, 0, (some 0)⟩) 0 3) :: rep 254 (.slice none 0 0) ((.map (some 1)) :: [])) 0
def ob_11 : AObj := .cells ((.pointer (some ⟨49, 0, none⟩)) :: (.pointer (some ⟨46, 0, none⟩)) :: (.pointer (some ⟨53, 0, none⟩)) :: []) 1
def ob_12 : AObj := .cells ((.int .i64 4) :: (.slice none 0 0) :: (.slice (some ⟨55, 0, (some 0)⟩) 3 3) :: rep 254 (.slice none 0 0) ((.map (some 44)) :: [])) 0
def ob_13 : AObj := .cells ((.int .i64 4) :: (.slice (some ⟨43, 0, (some 0)⟩) 0 1) :: (.slice (some ⟨12, 0, (some 0)⟩) 0 3) :: rep 254 (.slice none 0 0) ((.map (some 1)) :: [])) 0
def ob_14 : AObj := .cells ((.pointer (some ⟨53, 0, none⟩)) :: (.pointer (some ⟨46, 0, none⟩)) :: (.pointer (some ⟨49, 0, none⟩)) :: []) 1
def ob_15 : AObj := .cells ((.int .i64 4) :: (.slice none 0 0) :: (.slice (some ⟨55, 0, (some 0)⟩) 2 3) :: rep 254 (.slice none 0 0) ((.map (some 44)) :: [])) 0
def ob_16 : AObj := .cells ((.pointer (some ⟨46, 0, none⟩)) :: (.pointer (some ⟨53, 0, none⟩)) :: (.pointer (some ⟨49, 0, none⟩)) :: []) 1
def ob_17 : AObj := .cells ((.int .i64 4) :: (.slice none 0 0) :: (.slice (some ⟨55, 0, (some 0)⟩) 1 3) :: rep 254 (.slice none 0 0) ((.map (some 44)) :: [])) 0
def ob_18 : AObj := .cells ((.int .i64 4) :: (.slice none 0 0) :: (.slice (some ⟨55, 0, (some 0)⟩) 0 3) :: rep 254 (.slice none 0 0) ((.map (some 44)) :: [])) 0
def tr_1 : Tr := .node (.cells [(.pointer (some ⟨6, 0, none⟩))] 0) .nil .nil
def tr_2 : Tr := .node (.cells [(.pointer (some ⟨10, 0, none⟩))] 0) .nil .nil
def tr_3 : Tr := .node (.cells [(.int .i64 (-1)), (.int .i64 1)] 0) .nil .nil
def tr_4 : Tr := .node (.cells [(.int .i64 0), (.int .i64 1)] 0) .nil .nil
def tr_5 : Tr := .node .dead .nil .nil
def tr_6 : Tr := .node (.cells [(.int .i64 3), (.int .i64 5)] 0) .nil .nil
def tr_7 : Tr := .node .dead (.node (.map [⟨(.int .i64 1), (.pointer (some ⟨3, 0, none⟩)), 0⟩, ⟨(.int .i64 2), (.pointer (some ⟨6, 0, none⟩)), 1⟩, ⟨(.int .i64 3), (.pointer (some ⟨10, 0, none⟩)), 2⟩] 3) (.node (.cells [(.int .i64 1), (.int .i64 9)] 0) tr_1 tr_2) (.node .dead tr_3 tr_4)) (.node ob_1 (.node (.cells [(.pointer (some ⟨3, 0, none⟩))] 0) tr_5 (.node ob_2 .nil .nil)) (.node (.cells [(.int .i64 2), (.int .i64 5)] 0) tr_6 .nil))
def tr_8 : Tr := .node (.cells [(.int .i64 1), (.int .i64 9)] 0) .nil .nil
def tr_9 : Tr := .node (.cells [(.slice (some ⟨23, 0, (some 0)⟩) 3 3)] 0) tr_8 .nil
def tr_10 : Tr := .node (.cells [(.pointer (some ⟨6, 0, none⟩))] 0) tr_9 (.node ob_3 .nil .nil)
def tr_11 : Tr := .node (.cells [(.int .i64 2), (.int .i64 5)] 0) .nil .nil
def tr_12 : Tr := .node ob_4 .nil .nil
def tr_13 : Tr := .node (.cells [(.int .i64 (-1)), (.int .i64 1)] 0) (.node .dead tr_12 .nil) tr_3
def tr_14 : Tr := .node .dead tr_13 (.node (.cells [(.int .i64 0), (.int .i64 1)] 0) tr_5 tr_6)
def tr_15 : Tr := .node ob_5 .nil .nil
def tr_16 : Tr := .node (.defs true) tr_15 .nil
def tr_17 : Tr := .node (.cells [(.int .i64 1), (.int .i64 (-1))] 0) .nil .nil
def tr_18 : Tr := .node .dead tr_16 tr_17
def tr_19 : Tr := .node (.cells [(.slice (some ⟨12, 0, (some 0)⟩) 3 3)] 0) tr_2 tr_5
def tr_20 : Tr := .node .dead (.node (.map [⟨(.int .i64 1), (.pointer (some ⟨3, 0, none⟩)), 0⟩, ⟨(.int .i64 2), (.pointer (some ⟨6, 0, none⟩)), 1⟩, ⟨(.int .i64 3), (.pointer (some ⟨10, 0, none⟩)), 2⟩] 3) (.node (.cells [(.int .i64 1), (.int .i64 9)] 0) tr_10 (.node (.cells [(.pointer (some ⟨10, 0, none⟩))] 0) tr_5 tr_11)) tr_14) (.node ob_1 (.node (.cells [(.pointer (some ⟨3, 0, none⟩))] 0) tr_18 (.node ob_2 (.node (.cells [(.pointer (some ⟨3, 0, none⟩))] 0) .nil .nil) tr_5)) (.node (.cells [(.int .i64 2), (.int .i64 5)] 0) (.node (.cells [(.int .i64 3), (.int .i64 5)] 0) tr_1 tr_4) tr_19))
def tr_21 : Tr := .node (.cells [(.int .i64 2)] 1) .nil .nil
def tr_22 : Tr := .node (.cells [(.pointer (some ⟨3, 0, none⟩))] 0) tr_17 .nil
def tr_23 : Tr := .node (.cells [(.int .i64 2)] 0) .nil .nil
def tr_24 : Tr := .node (.cells [(.int .i64 3), (.int .i64 5)] 0) (.node (.cells [(.pointer (some ⟨6, 0, none⟩))] 0) tr_23 .nil) tr_4
def tr_25 : Tr := .node .dead (.node (.map [⟨(.int .i64 1), (.pointer (some ⟨3, 0, none⟩)), 0⟩, ⟨(.int .i64 3), (.pointer (some ⟨10, 0, none⟩)), 2⟩] 3) (.node (.cells [(.int .i64 1), (.int .i64 9)] 0) tr_10 (.node (.cells [(.pointer (some ⟨10, 0, none⟩))] 0) (.node .dead tr_21 .nil) tr_11)) tr_14) (.node ob_6 (.node (.cells [(.pointer (some ⟨3, 0, none⟩))] 0) tr_18 (.node ob_7 tr_22 tr_5)) (.node (.cells [(.int .i64 2), (.int .i64 5)] 0) tr_24 tr_19))
def tr_26 : Tr := .node (.cells [(.pointer (some ⟨10, 0, none⟩))] 0) (.node .dead tr_5 .nil) tr_11
def tr_27 : Tr := .node (.cells [(.int .i64 3)] 0) .nil .nil
def tr_28 : Tr := .node .dead tr_13 (.node (.cells [(.int .i64 0), (.int .i64 1)] 0) (.node .dead tr_27 .nil) tr_6)
def tr_29 : Tr := .node ob_9 tr_22 tr_5
def tr_30 : Tr := .node (.cells [(.int .i64 2), (.int .i64 3)] 1) .nil .nil
def tr_31 : Tr := .node .dead (.node (.map [⟨(.int .i64 1), (.pointer (some ⟨3, 0, none⟩)), 0⟩] 3) (.node (.cells [(.int .i64 1), (.int .i64 9)] 0) tr_10 tr_26) tr_28) (.node ob_8 (.node (.cells [(.pointer (some ⟨3, 0, none⟩))] 0) tr_18 tr_29) (.node (.cells [(.int .i64 2), (.int .i64 5)] 0) tr_24 (.node (.cells [(.slice (some ⟨12, 0, (some 0)⟩) 3 3)] 0) (.node (.cells [(.pointer (some ⟨10, 0, none⟩))] 0) tr_30 .nil) tr_5)))
def tr_32 : Tr := .node (.cells [(.int .i64 1)] 0) .nil .nil
def tr_33 : Tr := .node (.cells [(.int .i64 2), (.int .i64 3), (.int .i64 1)] 1) .nil .nil
def tr_34 : Tr := .node .dead (.node (.map [] 3) (.node (.cells [(.int .i64 1), (.int .i64 9)] 0) (.node (.cells [(.pointer (some ⟨6, 0, none⟩))] 0) tr_9 (.node ob_3 tr_32 .nil)) tr_26) tr_28) (.node ob_10 (.node (.cells [(.pointer (some ⟨3, 0, none⟩))] 0) (.node .dead tr_16 (.node (.cells [(.int .i64 1), (.int .i64 (-1))] 0) tr_33 .nil)) tr_29) (.node (.cells [(.int .i64 2), (.int .i64 5)] 0) tr_24 (.node (.cells [(.slice (some ⟨12, 0, (some 0)⟩) 3 3)] 0) (.node (.cells [(.pointer (some ⟨10, 0, none⟩))] 0) tr_5 .nil) tr_5)))
def tr_35 : Tr := .node (.cells [(.pointer (some ⟨46, 0, none⟩))] 0) .nil .nil
def tr_36 : Tr := .node (.cells [(.slice (some ⟨23, 0, (some 0)⟩) 3 3)] 0) tr_8 tr_35
def tr_37 : Tr := .node .dead tr_5 tr_5
def tr_38 : Tr := .node (.cells [(.pointer (some ⟨41, 0, none⟩))] 1) .nil .nil
def tr_39 : Tr := .node .dead tr_12 tr_11
def tr_40 : Tr := .node (.cells [(.int .i64 7), (.int .i64 0)] 0) .nil .nil
def tr_41 : Tr := .node .dead tr_27 tr_6
def tr_42 : Tr := .node (.cells [(.int .i64 1), (.int .i64 (-1))] 0) tr_33 tr_4
def tr_43 : Tr := .node .dead (.node (.defs true) tr_15 tr_5) tr_42
def tr_44 : Tr := .node (.cells [(.pointer (some ⟨3, 0, none⟩))] 0) tr_17 tr_3
def tr_45 : Tr := .node (.cells [(.pointer (some ⟨6, 0, none⟩))] 0) tr_23 (.node (.cells [(.pointer (some ⟨49, 0, none⟩))] 0) .nil .nil)
def tr_46 : Tr := .node (.cells [(.pointer (some ⟨41, 0, none⟩))] 0) .nil .nil
def tr_47 : Tr := .node (.cells [(.pointer (some ⟨10, 0, none⟩))] 0) tr_5 (.node (.cells [(.pointer (some ⟨53, 0, none⟩))] 0) .nil .nil)
def tr_48 : Tr := .node (.cells [(.slice (some ⟨12, 0, (some 0)⟩) 3 3)] 0) tr_47 (.node .dead tr_8 .nil)
def tr_49 : Tr := .node .dead (.node (.map [] 4) (.node (.cells [(.int .i64 1), (.int .i64 9)] 0) (.node (.cells [(.pointer (some ⟨6, 0, none⟩))] 0) tr_36 (.node ob_3 tr_32 (.node ob_11 .nil .nil))) (.node (.cells [(.pointer (some ⟨10, 0, none⟩))] 0) tr_37 (.node (.cells [(.int .i64 2), (.int .i64 5)] 0) tr_38 .nil))) (.node .dead (.node (.cells [(.int .i64 (-1)), (.int .i64 1)] 0) tr_39 (.node (.cells [(.int .i64 (-1)), (.int .i64 1)] 0) tr_40 .nil)) (.node (.cells [(.int .i64 0), (.int .i64 1)] 0) tr_41 (.node (.cells [(.int .i64 3), (.int .i64 5)] 0) (.node ob_12 .nil .nil) .nil)))) (.node ob_13 (.node (.cells [(.pointer (some ⟨3, 0, none⟩))] 0) tr_43 (.node ob_9 tr_44 (.node .dead (.node (.map [⟨(.int .i64 1), (.pointer (some ⟨46, 0, none⟩)), 0⟩, ⟨(.int .i64 2), (.pointer (some ⟨49, 0, none⟩)), 1⟩, ⟨(.int .i64 3), (.pointer (some ⟨53, 0, none⟩)), 2⟩] 3) .nil .nil) .nil))) (.node (.cells [(.int .i64 2), (.int .i64 5)] 0) (.node (.cells [(.int .i64 3), (.int .i64 5)] 0) tr_45 (.node (.cells [(.int .i64 0), (.int .i64 1)] 0) tr_46 .nil)) tr_48))
def tr_50 : Tr := .node (.cells [(.pointer (some ⟨10, 0, none⟩))] 0) tr_37 (.node (.cells [(.int .i64 2), (.int .i64 5)] 0) tr_38 tr_17)
def tr_51 : Tr := .node (.cells [(.int .i64 (-1)), (.int .i64 1)] 0) tr_39 (.node (.cells [(.int .i64 (-1)), (.int .i64 1)] 0) tr_40 tr_23)
def tr_52 : Tr := .node .dead (.node (.map [] 4) (.node (.cells [(.int .i64 1), (.int .i64 9)] 0) (.node (.cells [(.pointer (some ⟨6, 0, none⟩))] 0) tr_36 (.node ob_3 tr_32 (.node ob_14 .nil .nil))) tr_50) (.node .dead tr_51 (.node (.cells [(.int .i64 0), (.int .i64 1)] 0) tr_41 (.node (.cells [(.int .i64 3), (.int .i64 5)] 0) (.node ob_15 .nil .nil) .nil)))) (.node ob_13 (.node (.cells [(.pointer (some ⟨3, 0, none⟩))] 0) tr_43 (.node ob_9 tr_44 (.node .dead (.node (.map [⟨(.int .i64 1), (.pointer (some ⟨46, 0, none⟩)), 0⟩, ⟨(.int .i64 3), (.pointer (some ⟨53, 0, none⟩)), 2⟩] 3) .nil .nil) .nil))) (.node (.cells [(.int .i64 2), (.int .i64 5)] 0) (.node (.cells [(.int .i64 3), (.int .i64 5)] 0) tr_45 (.node (.cells [(.int .i64 0), (.int .i64 1)] 0) tr_46 tr_21)) tr_48))
def tr_53 : Tr := .node ob_3 tr_32 (.node ob_16 .nil .nil)
def tr_54 : Tr := .node (.map [] 4) (.node (.cells [(.int .i64 1), (.int .i64 9)] 0) (.node (.cells [(.pointer (some ⟨6, 0, none⟩))] 0) tr_36 tr_53) tr_50) (.node .dead tr_51 (.node (.cells [(.int .i64 0), (.int .i64 1)] 0) tr_41 (.node (.cells [(.int .i64 3), (.int .i64 5)] 0) (.node ob_17 .nil .nil) tr_30)))
def tr_55 : Tr := .node (.cells [(.pointer (some ⟨3, 0, none⟩))] 0) tr_43 (.node ob_9 tr_44 (.node .dead (.node (.map [⟨(.int .i64 1), (.pointer (some ⟨46, 0, none⟩)), 0⟩] 3) .nil .nil) tr_27))
def tr_56 : Tr := .node (.cells [(.int .i64 3), (.int .i64 5)] 0) tr_45 (.node (.cells [(.int .i64 0), (.int .i64 1)] 0) tr_46 tr_5)
def tr_57 : Tr := .node .dead tr_54 (.node ob_13 tr_55 (.node (.cells [(.int .i64 2), (.int .i64 5)] 0) tr_56 tr_48))
def tr_58 : Tr := .node (.cells [(.int .i64 2), (.int .i64 5)] 0) tr_56 (.node (.cells [(.slice (some ⟨12, 0, (some 0)⟩) 3 3)] 0) tr_47 (.node .dead tr_8 (.node (.cells [(.int .i64 2), (.int .i64 3)] 0) .nil .nil)))
def tr_59 : Tr := .node .dead tr_54 (.node ob_13 tr_55 tr_58)
def tr_60 : Tr := .node .dead (.node (.map [] 4) (.node (.cells [(.int .i64 1), (.int .i64 9)] 0) (.node (.cells [(.pointer (some ⟨6, 0, none⟩))] 0) (.node (.cells [(.slice (some ⟨23, 0, (some 0)⟩) 3 3)] 0) (.node (.cells [(.int .i64 1), (.int .i64 9)] 0) tr_32 .nil) tr_35) tr_53) tr_50) (.node .dead tr_51 (.node (.cells [(.int .i64 0), (.int .i64 1)] 0) tr_41 (.node (.cells [(.int .i64 3), (.int .i64 5)] 0) (.node ob_18 .nil .nil) tr_30)))) (.node ob_13 (.node (.cells [(.pointer (some ⟨3, 0, none⟩))] 0) (.node .dead (.node (.defs true) (.node ob_5 (.node (.cells [(.int .i64 1)] 1) .nil .nil) .nil) tr_5) tr_42) (.node ob_9 tr_44 (.node .dead (.node (.map [] 3) .nil .nil) tr_27))) tr_58)
end Go.Proofs.Ytfmpaoolplnpjaa.R

namespace Go.Proofs.Ytfmpaoolplnpjaa.R
open Go Go.Vm
set_option maxRecDepth 100000
def ma_1 : List Value := [(.pointer (some ⟨2, 0, none⟩))]
def mh_1 : Heap := ⟨14, tr_7⟩
def mo_1 : List CO := [(.ret (.pointer (some ⟨6, 0, none⟩)) ⟨14, tr_7⟩)]
theorem me_1 : fewOK (xcall Try.prog table.get 1000 60 (.fn 33) ma_1 mh_1) mo_1 = true := by kernel_rfl
def ma_2 : List Value := [(.pointer (some ⟨2, 0, none⟩))]
def mh_2 : Heap := ⟨34, tr_20⟩
def mo_2 : List CO := [(.ret (.pointer (some ⟨6, 0, none⟩)) ⟨34, tr_20⟩)]
theorem me_2 : fewOK (xcall Try.prog table.get 1000 60 (.fn 33) ma_2 mh_2) mo_2 = true := by kernel_rfl
def ma_3 : List Value := [(.pointer (some ⟨2, 0, none⟩))]
def mh_3 : Heap := ⟨37, tr_25⟩
def mo_3 : List CO := [(.ret (.pointer (some ⟨10, 0, none⟩)) ⟨37, tr_25⟩)]
theorem me_3 : fewOK (xcall Try.prog table.get 1000 60 (.fn 33) ma_3 mh_3) mo_3 = true := by kernel_rfl
def ma_4 : List Value := [(.pointer (some ⟨2, 0, none⟩))]
def mh_4 : Heap := ⟨39, tr_31⟩
def mo_4 : List CO := [(.ret (.pointer (some ⟨3, 0, none⟩)) ⟨39, tr_31⟩)]
theorem me_4 : fewOK (xcall Try.prog table.get 1000 60 (.fn 33) ma_4 mh_4) mo_4 = true := by kernel_rfl
def ma_5 : List Value := [(.pointer (some ⟨2, 0, none⟩))]
def mh_5 : Heap := ⟨41, tr_34⟩
def mo_5 : List CO := [(.ret (.pointer none) ⟨41, tr_34⟩)]
theorem me_5 : fewOK (xcall Try.prog table.get 1000 60 (.fn 33) ma_5 mh_5) mo_5 = true := by kernel_rfl
def ma_6 : List Value := [(.pointer (some ⟨45, 0, none⟩))]
def mh_6 : Heap := ⟨57, tr_49⟩
def mo_6 : List CO := [(.ret (.pointer (some ⟨49, 0, none⟩)) ⟨57, tr_49⟩)]
theorem me_6 : fewOK (xcall Try.prog table.get 1000 60 (.fn 33) ma_6 mh_6) mo_6 = true := by kernel_rfl
end Go.Proofs.Ytfmpaoolplnpjaa.R

namespace Go.Proofs.Ytfmpaoolplnpjaa.R
open Go Go.Vm
set_option maxRecDepth 100000
def ma_7 : List Value := [(.pointer (some ⟨45, 0, none⟩))]
def mh_7 : Heap := ⟨60, tr_52⟩
def mo_7 : List CO := [(.ret (.pointer (some ⟨53, 0, none⟩)) ⟨60, tr_52⟩)]
theorem me_7 : fewOK (xcall Try.prog table.get 1000 60 (.fn 33) ma_7 mh_7) mo_7 = true := by kernel_rfl
def ma_8 : List Value := [(.pointer (some ⟨45, 0, none⟩))]
def mh_8 : Heap := ⟨62, tr_57⟩
def mo_8 : List CO := [(.ret (.pointer (some ⟨46, 0, none⟩)) ⟨62, tr_57⟩)]
theorem me_8 : fewOK (xcall Try.prog table.get 1000 60 (.fn 33) ma_8 mh_8) mo_8 = true := by kernel_rfl
def ma_9 : List Value := [(.pointer (some ⟨45, 0, none⟩))]
def mh_9 : Heap := ⟨63, tr_59⟩
def mo_9 : List CO := [(.ret (.pointer (some ⟨46, 0, none⟩)) ⟨63, tr_59⟩)]
theorem me_9 : fewOK (xcall Try.prog table.get 1000 60 (.fn 33) ma_9 mh_9) mo_9 = true := by kernel_rfl
def ma_10 : List Value := [(.pointer (some ⟨45, 0, none⟩))]
def mh_10 : Heap := ⟨65, tr_60⟩
def mo_10 : List CO := [(.ret (.pointer none) ⟨65, tr_60⟩)]
theorem me_10 : fewOK (xcall Try.prog table.get 1000 60 (.fn 33) ma_10 mh_10) mo_10 = true := by kernel_rfl
end Go.Proofs.Ytfmpaoolplnpjaa.R

namespace Go.Proofs.Ytfmpaoolplnpjaa.R
open Go Go.Vm
set_option maxRecDepth 100000
def memo_33 : Memo := [(ma_1, mh_1, mo_1), (ma_2, mh_2, mo_2), (ma_3, mh_3, mo_3), (ma_4, mh_4, mo_4), (ma_5, mh_5, mo_5), (ma_6, mh_6, mo_6), (ma_7, mh_7, mo_7), (ma_8, mh_8, mo_8), (ma_9, mh_9, mo_9), (ma_10, mh_10, mo_10)]
theorem memo_33_ok : MemoF Try.prog 33 memo_33 := MemoF.cons (TT.table_ok table_all) me_1 (MemoF.cons (TT.table_ok table_all) me_2 (MemoF.cons (TT.table_ok table_all) me_3 (MemoF.cons (TT.table_ok table_all) me_4 (MemoF.cons (TT.table_ok table_all) me_5 (MemoF.cons (TT.table_ok table_all) me_6 (MemoF.cons (TT.table_ok table_all) me_7 (MemoF.cons (TT.table_ok table_all) me_8 (MemoF.cons (TT.table_ok table_all) me_9 (MemoF.cons (TT.table_ok table_all) me_10 (MemoF.nil))))))))))
def tab : Table := (withMemo table.get 33 memo_33)
theorem tab_ok : TableOK Try.prog tab := (withMemoF_ok (Checked.mixed Try.checked) (TT.table_ok table_all) memo_33_ok)
end Go.Proofs.Ytfmpaoolplnpjaa.R

namespace Go.Proofs.Ytfmpaoolplnpjaa.A
open Go Go.Vm
set_option maxRecDepth 100000
theorem ran_3 : allTrue (xcall Try.prog R.tab 1000 60 (.fn 3) [] Heap.init) = true := by kernel_rfl
theorem has_3 : (tableOf Try.prog 3).isSome = true := by kernel_rfl
theorem known : KnownAll Try.prog prims := ⟨⟨Option.isSome_iff_exists.1 has_3, fun w => known_calls (Checked.mixed Try.checked) R.tab_ok ran_3 w⟩, trivial⟩
theorem T0_ok : TableOK Try.prog T0 := withKept_ok (withTrue_ok known) fun k hk => by simp at hk
end Go.Proofs.Ytfmpaoolplnpjaa.A
