/- Remembered calls: the table. -/
import Derived.Test.YtlckmpioipiihaaGC1
import Derived.Test.YtlckmpioipiihaaGC2
import Derived.Test.YtlckmpioipiihaaGC3
import Derived.Test.YtlckmpioipiihaaGC4
namespace Go.Proofs.Ytlckmpioipiihaa.R
open Go Go.Vm
set_option maxRecDepth 100000
noncomputable def memo_9 : Memo := [(ma_3, mh_3, mo_3), (ma_4, mh_4, mo_4), (ma_5, mh_5, mo_5), (ma_10, mh_10, mo_10), (ma_11, mh_11, mo_11), (ma_12, mh_12, mo_12), (ma_19, mh_19, mo_19)]
theorem memo_9_ok : MemoF Try.prog 9 memo_9 := MemoF.cons tabS_ok me_3 (MemoF.cons tabS_ok me_4 (MemoF.cons tabS_ok me_5 (MemoF.cons tabS_ok me_10 (MemoF.cons tabS_ok me_11 (MemoF.cons tabS_ok me_12 (MemoF.cons tabS_ok me_19 (MemoF.nil)))))))
noncomputable def memo_10 : Memo := [(ma_6, mh_6, mo_6), (ma_13, mh_13, mo_13), (ma_17, mh_17, mo_17), (ma_21, mh_21, mo_21)]
theorem memo_10_ok : MemoF Try.prog 10 memo_10 := MemoF.cons tabS_ok me_6 (MemoF.cons tabS_ok me_13 (MemoF.cons tabS_ok me_17 (MemoF.cons tabS_ok me_21 (MemoF.nil))))
noncomputable def memo_11 : Memo := [(ma_2, mh_2, mo_2), (ma_7, mh_7, mo_7), (ma_9, mh_9, mo_9), (ma_14, mh_14, mo_14), (ma_18, mh_18, mo_18), (ma_20, mh_20, mo_20)]
theorem memo_11_ok : MemoF Try.prog 11 memo_11 := MemoF.cons tabS_ok me_2 (MemoF.cons tabS_ok me_7 (MemoF.cons tabS_ok me_9 (MemoF.cons tabS_ok me_14 (MemoF.cons tabS_ok me_18 (MemoF.cons tabS_ok me_20 (MemoF.nil))))))
noncomputable def memo_13 : Memo := [(ma_15, mh_15, mo_15), (ma_16, mh_16, mo_16)]
theorem memo_13_ok : MemoF Try.prog 13 memo_13 := MemoF.cons tabS_ok me_15 (MemoF.cons tabS_ok me_16 (MemoF.nil))
noncomputable def memo_17 : Memo := [(ma_1, mh_1, mo_1), (ma_8, mh_8, mo_8)]
theorem memo_17_ok : MemoF Try.prog 17 memo_17 := MemoF.cons tabS_ok me_1 (MemoF.cons tabS_ok me_8 (MemoF.nil))
noncomputable def tab : Table := (withMemo (withMemo (withMemo (withMemo (withMemo tabS 9 memo_9) 10 memo_10) 11 memo_11) 13 memo_13) 17 memo_17)
theorem tab_ok : TableOK Try.prog tab := (withMemoF_ok (Checked.mixed Try.checked) (withMemoF_ok (Checked.mixed Try.checked) (withMemoF_ok (Checked.mixed Try.checked) (withMemoF_ok (Checked.mixed Try.checked) (withMemoF_ok (Checked.mixed Try.checked) tabS_ok memo_9_ok) memo_10_ok) memo_11_ok) memo_13_ok) memo_17_ok)
end Go.Proofs.Ytlckmpioipiihaa.R
