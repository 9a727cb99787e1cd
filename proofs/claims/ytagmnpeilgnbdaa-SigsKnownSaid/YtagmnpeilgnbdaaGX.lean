/- Remembered calls: the table. -/
import Derived.Test.YtagmnpeilgnbdaaGX1
import Derived.Test.YtagmnpeilgnbdaaGX2
import Derived.Test.YtagmnpeilgnbdaaGX3
import Derived.Test.YtagmnpeilgnbdaaGX4
import Derived.Test.YtagmnpeilgnbdaaGX5
namespace Go.Proofs.Ytagmnpeilgnbdaa.R
open Go Go.Vm
set_option maxRecDepth 100000
noncomputable def memo_8 : Memo := [(ma_5, mh_5, mo_5)]
theorem memo_8_ok : MemoF Try.prog 8 memo_8 := MemoF.cons (TT.table_ok table_all) me_5 (MemoF.nil)
noncomputable def memo_11 : Memo := [(ma_2, mh_2, mo_2), (ma_3, mh_3, mo_3)]
theorem memo_11_ok : MemoF Try.prog 11 memo_11 := MemoF.cons (TT.table_ok table_all) me_2 (MemoF.cons (TT.table_ok table_all) me_3 (MemoF.nil))
noncomputable def memo_14 : Memo := [(ma_1, mh_1, mo_1), (ma_4, mh_4, mo_4)]
theorem memo_14_ok : MemoF Try.prog 14 memo_14 := MemoF.cons (TT.table_ok table_all) me_1 (MemoF.cons (TT.table_ok table_all) me_4 (MemoF.nil))
noncomputable def memo_16 : Memo := [(ma_7, mh_7, mo_7), (ma_10, mh_10, mo_10), (ma_14, mh_14, mo_14), (ma_17, mh_17, mo_17)]
theorem memo_16_ok : MemoF Try.prog 16 memo_16 := MemoF.cons (TT.table_ok table_all) me_7 (MemoF.cons (TT.table_ok table_all) me_10 (MemoF.cons (TT.table_ok table_all) me_14 (MemoF.cons (TT.table_ok table_all) me_17 (MemoF.nil))))
noncomputable def memo_18 : Memo := [(ma_6, mh_6, mo_6), (ma_13, mh_13, mo_13)]
theorem memo_18_ok : MemoF Try.prog 18 memo_18 := MemoF.cons (TT.table_ok table_all) me_6 (MemoF.cons (TT.table_ok table_all) me_13 (MemoF.nil))
noncomputable def memo_25 : Memo := [(ma_8, mh_8, mo_8), (ma_9, mh_9, mo_9), (ma_11, mh_11, mo_11), (ma_12, mh_12, mo_12), (ma_15, mh_15, mo_15), (ma_16, mh_16, mo_16), (ma_18, mh_18, mo_18), (ma_19, mh_19, mo_19)]
theorem memo_25_ok : MemoF Try.prog 25 memo_25 := MemoF.cons (TT.table_ok table_all) me_8 (MemoF.cons (TT.table_ok table_all) me_9 (MemoF.cons (TT.table_ok table_all) me_11 (MemoF.cons (TT.table_ok table_all) me_12 (MemoF.cons (TT.table_ok table_all) me_15 (MemoF.cons (TT.table_ok table_all) me_16 (MemoF.cons (TT.table_ok table_all) me_18 (MemoF.cons (TT.table_ok table_all) me_19 (MemoF.nil))))))))
noncomputable def tab : Table := (withMemo (withMemo (withMemo (withMemo (withMemo (withMemo table.get 8 memo_8) 11 memo_11) 14 memo_14) 16 memo_16) 18 memo_18) 25 memo_25)
theorem tab_ok : TableOK Try.prog tab := (withMemoF_ok (Checked.mixed Try.checked) (withMemoF_ok (Checked.mixed Try.checked) (withMemoF_ok (Checked.mixed Try.checked) (withMemoF_ok (Checked.mixed Try.checked) (withMemoF_ok (Checked.mixed Try.checked) (withMemoF_ok (Checked.mixed Try.checked) (TT.table_ok table_all) memo_8_ok) memo_11_ok) memo_14_ok) memo_16_ok) memo_18_ok) memo_25_ok)
end Go.Proofs.Ytagmnpeilgnbdaa.R
