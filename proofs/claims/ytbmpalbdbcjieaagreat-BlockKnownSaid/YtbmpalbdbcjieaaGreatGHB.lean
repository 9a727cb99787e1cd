/- Remembered calls: the table. -/
import Derived.Test.YtbmpalbdbcjieaaGreatGHB1
import Derived.Test.YtbmpalbdbcjieaaGreatGHB2
import Derived.Test.YtbmpalbdbcjieaaGreatGHB3
import Derived.Test.YtbmpalbdbcjieaaGreatGHB4
import Derived.Test.YtbmpalbdbcjieaaGreatGHB5
import Derived.Test.YtbmpalbdbcjieaaGreatGHB6
import Derived.Test.YtbmpalbdbcjieaaGreatGHB7
import Derived.Test.YtbmpalbdbcjieaaGreatGHB8
namespace Go.Proofs.YtbmpalbdbcjieaaGreat.R
open Go Go.Vm
set_option maxRecDepth 100000
noncomputable def memo_9 : Memo := [(ma_1, mh_1, mo_1), (ma_6, mh_6, mo_6), (ma_7, mh_7, mo_7), (ma_8, mh_8, mo_8), (ma_9, mh_9, mo_9), (ma_14, mh_14, mo_14), (ma_27, mh_27, mo_27), (ma_40, mh_40, mo_40)]
theorem memo_9_ok : MemoF Tryz.prog 9 memo_9 := MemoF.cons tabS_ok me_1 (MemoF.cons tabS_ok me_6 (MemoF.cons tabS_ok me_7 (MemoF.cons tabS_ok me_8 (MemoF.cons tabS_ok me_9 (MemoF.cons tabS_ok me_14 (MemoF.cons tabS_ok me_27 (MemoF.cons tabS_ok me_40 (MemoF.nil))))))))
noncomputable def memo_15 : Memo := [(ma_11, mh_11, mo_11), (ma_12, mh_12, mo_12), (ma_16, mh_16, mo_16), (ma_24, mh_24, mo_24), (ma_25, mh_25, mo_25), (ma_29, mh_29, mo_29), (ma_37, mh_37, mo_37), (ma_38, mh_38, mo_38), (ma_42, mh_42, mo_42)]
theorem memo_15_ok : MemoF Tryz.prog 15 memo_15 := MemoF.cons tabS_ok me_11 (MemoF.cons tabS_ok me_12 (MemoF.cons tabS_ok me_16 (MemoF.cons tabS_ok me_24 (MemoF.cons tabS_ok me_25 (MemoF.cons tabS_ok me_29 (MemoF.cons tabS_ok me_37 (MemoF.cons tabS_ok me_38 (MemoF.cons tabS_ok me_42 (MemoF.nil)))))))))
noncomputable def memo_21 : Memo := [(ma_2, mh_2, mo_2), (ma_3, mh_3, mo_3), (ma_4, mh_4, mo_4), (ma_5, mh_5, mo_5), (ma_17, mh_17, mo_17), (ma_18, mh_18, mo_18), (ma_19, mh_19, mo_19), (ma_20, mh_20, mo_20), (ma_30, mh_30, mo_30), (ma_31, mh_31, mo_31), (ma_32, mh_32, mo_32), (ma_33, mh_33, mo_33), (ma_43, mh_43, mo_43), (ma_44, mh_44, mo_44), (ma_45, mh_45, mo_45), (ma_46, mh_46, mo_46)]
theorem memo_21_ok : MemoF Tryz.prog 21 memo_21 := MemoF.cons tabS_ok me_2 (MemoF.cons tabS_ok me_3 (MemoF.cons tabS_ok me_4 (MemoF.cons tabS_ok me_5 (MemoF.cons tabS_ok me_17 (MemoF.cons tabS_ok me_18 (MemoF.cons tabS_ok me_19 (MemoF.cons tabS_ok me_20 (MemoF.cons tabS_ok me_30 (MemoF.cons tabS_ok me_31 (MemoF.cons tabS_ok me_32 (MemoF.cons tabS_ok me_33 (MemoF.cons tabS_ok me_43 (MemoF.cons tabS_ok me_44 (MemoF.cons tabS_ok me_45 (MemoF.cons tabS_ok me_46 (MemoF.nil))))))))))))))))
noncomputable def memo_22 : Memo := [(ma_10, mh_10, mo_10), (ma_15, mh_15, mo_15), (ma_23, mh_23, mo_23), (ma_28, mh_28, mo_28), (ma_36, mh_36, mo_36), (ma_41, mh_41, mo_41)]
theorem memo_22_ok : MemoF Tryz.prog 22 memo_22 := MemoF.cons tabS_ok me_10 (MemoF.cons tabS_ok me_15 (MemoF.cons tabS_ok me_23 (MemoF.cons tabS_ok me_28 (MemoF.cons tabS_ok me_36 (MemoF.cons tabS_ok me_41 (MemoF.nil))))))
noncomputable def memo_23 : Memo := [(ma_13, mh_13, mo_13), (ma_26, mh_26, mo_26), (ma_39, mh_39, mo_39)]
theorem memo_23_ok : MemoF Tryz.prog 23 memo_23 := MemoF.cons tabS_ok me_13 (MemoF.cons tabS_ok me_26 (MemoF.cons tabS_ok me_39 (MemoF.nil)))
noncomputable def memo_24 : Memo := [(ma_21, mh_21, mo_21), (ma_22, mh_22, mo_22), (ma_34, mh_34, mo_34), (ma_35, mh_35, mo_35), (ma_47, mh_47, mo_47), (ma_48, mh_48, mo_48)]
theorem memo_24_ok : MemoF Tryz.prog 24 memo_24 := MemoF.cons tabS_ok me_21 (MemoF.cons tabS_ok me_22 (MemoF.cons tabS_ok me_34 (MemoF.cons tabS_ok me_35 (MemoF.cons tabS_ok me_47 (MemoF.cons tabS_ok me_48 (MemoF.nil))))))
noncomputable def tab : Table := (withMemo (withMemo (withMemo (withMemo (withMemo (withMemo tabS 9 memo_9) 15 memo_15) 21 memo_21) 22 memo_22) 23 memo_23) 24 memo_24)
theorem tab_ok : TableOK Tryz.prog tab := (withMemoF_ok (Checked.mixed Tryz.checked) (withMemoF_ok (Checked.mixed Tryz.checked) (withMemoF_ok (Checked.mixed Tryz.checked) (withMemoF_ok (Checked.mixed Tryz.checked) (withMemoF_ok (Checked.mixed Tryz.checked) (withMemoF_ok (Checked.mixed Tryz.checked) tabS_ok memo_9_ok) memo_15_ok) memo_21_ok) memo_22_ok) memo_23_ok) memo_24_ok)
end Go.Proofs.YtbmpalbdbcjieaaGreat.R
