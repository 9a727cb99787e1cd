/- Remembered calls: blocks and values. -/
import Derived.Test.YtmhnddkpiefkhaaR22
import Derived.Test.YtmhnddkpiefkhaaVL
namespace Go.Proofs.Ytmhnddkpiefkhaa.R
open Go Go.Vm
set_option maxRecDepth 100000
def rep (n : Nat) (v : Value) (l : List Value) : List Value := List.replicate n v ++ l
noncomputable def va_1 : Value := .agg ⟨(.string ⟨⟨[]⟩⟩) :: (.int .i64 5) :: (.int .i64 0) :: rep 128 (.int .u8 0) ((.int .i64 0) :: rep 32 (.int .u8 0) ((.slice none 0 0) :: (.slice none 0 0) :: []))⟩
noncomputable def ob_2 : AObj := .cells ((.string ⟨⟨[]⟩⟩) :: (.int .i64 5) :: (.int .i64 0) :: rep 128 (.int .u8 0) ((.int .i64 0) :: rep 32 (.int .u8 0) ((.slice none 0 0) :: (.slice none 0 0) :: []))) 0
noncomputable def ob_3 : AObj := .cells ((.string ⟨⟨[]⟩⟩) :: (.int .i64 5) :: (.int .i64 0) :: rep 128 (.int .u8 0) ((.int .i64 0) :: rep 32 (.int .u8 0) ((.slice none 0 0) :: (.slice none 0 0) :: (.bool false) :: (.bool false) :: []))) 0
noncomputable def va_4 : Value := .agg ⟨(.string ⟨⟨[]⟩⟩) :: (.int .i64 2) :: (.int .i64 0) :: rep 128 (.int .u8 0) ((.int .i64 0) :: rep 32 (.int .u8 0) ((.slice none 0 0) :: (.slice none 0 0) :: []))⟩
noncomputable def ob_5 : AObj := .cells ((.string ⟨⟨[]⟩⟩) :: (.int .i64 2) :: (.int .i64 0) :: rep 128 (.int .u8 0) ((.int .i64 0) :: rep 32 (.int .u8 0) ((.slice none 0 0) :: (.slice none 0 0) :: []))) 0
noncomputable def ob_6 : AObj := .cells ((.string ⟨⟨[]⟩⟩) :: (.int .i64 2) :: (.int .i64 0) :: rep 128 (.int .u8 0) ((.int .i64 0) :: rep 32 (.int .u8 0) ((.slice none 0 0) :: (.slice none 0 0) :: (.bool false) :: (.bool false) :: []))) 0
noncomputable def va_7 : Value := .agg ⟨(.string ⟨⟨[]⟩⟩) :: (.int .i64 9) :: (.int .i64 0) :: rep 128 (.int .u8 0) ((.int .i64 0) :: rep 32 (.int .u8 0) ((.slice none 0 0) :: (.slice none 0 0) :: []))⟩
noncomputable def ob_8 : AObj := .cells ((.string ⟨⟨[]⟩⟩) :: (.int .i64 9) :: (.int .i64 0) :: rep 128 (.int .u8 0) ((.int .i64 0) :: rep 32 (.int .u8 0) ((.slice none 0 0) :: (.slice none 0 0) :: []))) 0
noncomputable def ob_9 : AObj := .cells ((.string ⟨⟨[]⟩⟩) :: (.int .i64 9) :: (.int .i64 0) :: rep 128 (.int .u8 0) ((.int .i64 0) :: rep 32 (.int .u8 0) ((.slice none 0 0) :: (.slice none 0 0) :: (.bool false) :: (.bool false) :: []))) 0
noncomputable def va_10 : Value := .agg ⟨(.string ⟨⟨[]⟩⟩) :: (.int .i64 7) :: (.int .i64 0) :: rep 128 (.int .u8 0) ((.int .i64 0) :: rep 32 (.int .u8 0) ((.slice none 0 0) :: (.slice none 0 0) :: []))⟩
noncomputable def ob_11 : AObj := .cells ((.string ⟨⟨[]⟩⟩) :: (.int .i64 5) :: (.int .i64 0) :: rep 128 (.int .u8 0) ((.int .i64 0) :: rep 32 (.int .u8 0) ((.slice none 0 0) :: (.slice none 0 0) :: (.bool true) :: (.bool false) :: []))) 0
noncomputable def ob_12 : AObj := .cells ((.string ⟨⟨[]⟩⟩) :: (.int .i64 7) :: (.int .i64 0) :: rep 128 (.int .u8 0) ((.int .i64 0) :: rep 32 (.int .u8 0) ((.slice none 0 0) :: (.slice none 0 0) :: []))) 0
noncomputable def ob_13 : AObj := .cells ((.string ⟨⟨[]⟩⟩) :: (.int .i64 2) :: (.int .i64 0) :: rep 128 (.int .u8 0) ((.int .i64 0) :: rep 32 (.int .u8 0) ((.slice none 0 0) :: (.slice none 0 0) :: (.bool false) :: (.bool true) :: []))) 0
noncomputable def ob_14 : AObj := .cells ((.string ⟨⟨[]⟩⟩) :: (.int .i64 7) :: (.int .i64 0) :: rep 128 (.int .u8 0) ((.int .i64 0) :: rep 32 (.int .u8 0) ((.slice none 0 0) :: (.slice none 0 0) :: (.bool false) :: (.bool false) :: []))) 0
noncomputable def ob_15 : AObj := .cells ((.int .i64 2) :: (.bool false) :: (.bool true) :: (.int .i64 5) :: (.bool true) :: (.bool false) :: (.int .i64 7) :: (.bool false) :: (.bool false) :: []) 3
noncomputable def ob_16 : AObj := .cells ((.int .i64 2) :: (.bool false) :: (.bool true) :: (.int .i64 5) :: (.bool true) :: (.bool false) :: (.int .i64 7) :: (.bool false) :: (.bool false) :: []) 0
noncomputable def va_17 : Value := .agg ⟨(.string ⟨⟨[]⟩⟩) :: (.int .i64 3) :: (.int .i64 0) :: rep 128 (.int .u8 0) ((.int .i64 0) :: rep 32 (.int .u8 0) ((.slice none 0 0) :: (.slice none 0 0) :: []))⟩
noncomputable def ob_18 : AObj := .cells ((.string ⟨⟨[]⟩⟩) :: (.int .i64 3) :: (.int .i64 0) :: rep 128 (.int .u8 0) ((.int .i64 0) :: rep 32 (.int .u8 0) ((.slice none 0 0) :: (.slice none 0 0) :: []))) 0
noncomputable def ob_19 : AObj := .cells ((.string ⟨⟨[]⟩⟩) :: (.int .i64 3) :: (.int .i64 0) :: rep 128 (.int .u8 0) ((.int .i64 0) :: rep 32 (.int .u8 0) ((.slice none 0 0) :: (.slice none 0 0) :: (.bool false) :: (.bool false) :: []))) 0
end Go.Proofs.Ytmhnddkpiefkhaa.R
