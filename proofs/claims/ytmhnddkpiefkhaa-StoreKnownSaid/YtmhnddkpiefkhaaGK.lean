/- Remembered calls: the table. -/
import Derived.Test.YtmhnddkpiefkhaaGK1
import Derived.Test.YtmhnddkpiefkhaaGK2
import Derived.Test.YtmhnddkpiefkhaaGK3
namespace Go.Proofs.Ytmhnddkpiefkhaa.R
open Go Go.Vm
set_option maxRecDepth 100000
noncomputable def memo_10 : Memo := [(ma_5, mh_5, mo_5), (ma_6, mh_6, mo_6)]
theorem memo_10_ok : MemoF Try.prog 10 memo_10 := MemoF.cons (TT.table_ok table_all) me_5 (MemoF.cons (TT.table_ok table_all) me_6 (MemoF.nil))
noncomputable def memo_13 : Memo := [(ma_9, mh_9, mo_9)]
theorem memo_13_ok : MemoF Try.prog 13 memo_13 := MemoF.cons (TT.table_ok table_all) me_9 (MemoF.nil)
noncomputable def memo_17 : Memo := [(ma_14, mh_14, mo_14), (ma_17, mh_17, mo_17)]
theorem memo_17_ok : MemoF Try.prog 17 memo_17 := MemoF.cons (TT.table_ok table_all) me_14 (MemoF.cons (TT.table_ok table_all) me_17 (MemoF.nil))
noncomputable def memo_21 : Memo := [(ma_1, mh_1, mo_1), (ma_2, mh_2, mo_2), (ma_3, mh_3, mo_3), (ma_4, mh_4, mo_4), (ma_7, mh_7, mo_7), (ma_8, mh_8, mo_8), (ma_10, mh_10, mo_10), (ma_11, mh_11, mo_11), (ma_12, mh_12, mo_12), (ma_13, mh_13, mo_13), (ma_15, mh_15, mo_15), (ma_16, mh_16, mo_16), (ma_18, mh_18, mo_18)]
theorem memo_21_ok : MemoF Try.prog 21 memo_21 := MemoF.cons (TT.table_ok table_all) me_1 (MemoF.cons (TT.table_ok table_all) me_2 (MemoF.cons (TT.table_ok table_all) me_3 (MemoF.cons (TT.table_ok table_all) me_4 (MemoF.cons (TT.table_ok table_all) me_7 (MemoF.cons (TT.table_ok table_all) me_8 (MemoF.cons (TT.table_ok table_all) me_10 (MemoF.cons (TT.table_ok table_all) me_11 (MemoF.cons (TT.table_ok table_all) me_12 (MemoF.cons (TT.table_ok table_all) me_13 (MemoF.cons (TT.table_ok table_all) me_15 (MemoF.cons (TT.table_ok table_all) me_16 (MemoF.cons (TT.table_ok table_all) me_18 (MemoF.nil)))))))))))))
noncomputable def tab : Table := (withMemo (withMemo (withMemo (withMemo table.get 10 memo_10) 13 memo_13) 17 memo_17) 21 memo_21)
theorem tab_ok : TableOK Try.prog tab := (withMemoF_ok (Checked.mixed Try.checked) (withMemoF_ok (Checked.mixed Try.checked) (withMemoF_ok (Checked.mixed Try.checked) (withMemoF_ok (Checked.mixed Try.checked) (TT.table_ok table_all) memo_10_ok) memo_13_ok) memo_17_ok) memo_21_ok)
end Go.Proofs.Ytmhnddkpiefkhaa.R
