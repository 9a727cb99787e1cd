/- Remembered calls. -/
import Derived.Test.YtfmpaoolplnpjaaG181
import Derived.Test.YtfmpaoolplnpjaaG182
import Derived.Test.YtfmpaoolplnpjaaG183
import Derived.Test.YtfmpaoolplnpjaaG184
import Derived.Test.YtfmpaoolplnpjaaG185
namespace Go.Proofs.Ytfmpaoolplnpjaa.R
open Go Go.Vm
set_option maxRecDepth 100000
def memo_33 : Memo := [(ma_33_1, mh_33_1, mo_33_1), (ma_33_2, mh_33_2, mo_33_2), (ma_33_3, mh_33_3, mo_33_3), (ma_33_4, mh_33_4, mo_33_4), (ma_33_5, mh_33_5, mo_33_5), (ma_33_6, mh_33_6, mo_33_6), (ma_33_7, mh_33_7, mo_33_7), (ma_33_8, mh_33_8, mo_33_8), (ma_33_9, mh_33_9, mo_33_9), (ma_33_10, mh_33_10, mo_33_10), (ma_33_11, mh_33_11, mo_33_11), (ma_33_12, mh_33_12, mo_33_12), (ma_33_13, mh_33_13, mo_33_13), (ma_33_14, mh_33_14, mo_33_14)]
theorem memo_33_ok : MemoOK Try.prog 33 memo_33 := MemoOK.cons (TT.table_ok table_all) me_33_1 (MemoOK.cons (TT.table_ok table_all) me_33_2 (MemoOK.cons (TT.table_ok table_all) me_33_3 (MemoOK.cons (TT.table_ok table_all) me_33_4 (MemoOK.cons (TT.table_ok table_all) me_33_5 (MemoOK.cons (TT.table_ok table_all) me_33_6 (MemoOK.cons (TT.table_ok table_all) me_33_7 (MemoOK.cons (TT.table_ok table_all) me_33_8 (MemoOK.cons (TT.table_ok table_all) me_33_9 (MemoOK.cons (TT.table_ok table_all) me_33_10 (MemoOK.cons (TT.table_ok table_all) me_33_11 (MemoOK.cons (TT.table_ok table_all) me_33_12 (MemoOK.cons (TT.table_ok table_all) me_33_13 (MemoOK.cons (TT.table_ok table_all) me_33_14 (MemoOK.nil))))))))))))))
end Go.Proofs.Ytfmpaoolplnpjaa.R
