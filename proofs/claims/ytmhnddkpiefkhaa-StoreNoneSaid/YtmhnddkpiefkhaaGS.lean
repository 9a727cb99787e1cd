/- Remembered calls: the table. -/
import Derived.Test.YtmhnddkpiefkhaaGS1
namespace Go.Proofs.Ytmhnddkpiefkhaa.R
open Go Go.Vm
set_option maxRecDepth 100000
noncomputable def memo_17 : Memo := [(ma_5, mh_5, mo_5)]
theorem memo_17_ok : MemoF Try.prog 17 memo_17 := MemoF.cons (TT.table_ok table_all) me_5 (MemoF.nil)
noncomputable def memo_21 : Memo := [(ma_1, mh_1, mo_1), (ma_2, mh_2, mo_2), (ma_3, mh_3, mo_3), (ma_4, mh_4, mo_4), (ma_6, mh_6, mo_6), (ma_7, mh_7, mo_7)]
theorem memo_21_ok : MemoF Try.prog 21 memo_21 := MemoF.cons (TT.table_ok table_all) me_1 (MemoF.cons (TT.table_ok table_all) me_2 (MemoF.cons (TT.table_ok table_all) me_3 (MemoF.cons (TT.table_ok table_all) me_4 (MemoF.cons (TT.table_ok table_all) me_6 (MemoF.cons (TT.table_ok table_all) me_7 (MemoF.nil))))))
noncomputable def tab : Table := (withMemo (withMemo table.get 17 memo_17) 21 memo_21)
theorem tab_ok : TableOK Try.prog tab := (withMemoF_ok (Checked.mixed Try.checked) (withMemoF_ok (Checked.mixed Try.checked) (TT.table_ok table_all) memo_17_ok) memo_21_ok)
end Go.Proofs.Ytmhnddkpiefkhaa.R
