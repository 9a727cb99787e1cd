/- A run that is cut: joined. -/
import Derived.Test.YtbmpalbdbcjieaaGreatCKL
import Derived.Test.YtbmpalbdbcjieaaGreatCKS
import Derived.Test.YtbmpalbdbcjieaaGreatCKT0
import Derived.Test.YtbmpalbdbcjieaaGreatCKT1
import Derived.Test.YtbmpalbdbcjieaaGreatCKT2
namespace Go.Proofs.YtbmpalbdbcjieaaGreat.R
open Go Go.Vm
set_option maxRecDepth 100000
theorem cK_tab : tab 5 = some cK_f := by kernel_rfl
theorem cK_init : ({ ts := pad [] cK_f.ntmps, ds := [], h := Heap.init } : St) = cs_S0_0 := by kernel_rfl
theorem ran5 : allTrue (xcall Tryz.prog tab 1000 60 (.fn 5) [] Heap.init) = true := by
  have e : xcall Tryz.prog tab 1000 60 (.fn 5) [] Heap.init = xfun Tryz.prog tab cK_call 1000 cK_f [] Heap.init := by
    rw [show xcall Tryz.prog tab 1000 60 (.fn 5) [] Heap.init = (match tab 5 with | some af => (match af.prim with | some p => p [] Heap.init | none => xfun Tryz.prog tab (xcall Tryz.prog tab 1000 59) 1000 af [] Heap.init) | none => [.bad]) from rfl, cK_tab]
    rfl
  rw [e, xfun_cut cK_init, show cK_f.body = cK_t0 from rfl]
  rw [show cK_t0 = .seq cK_0 cK_t1 from rfl, xc_cut cp_0]
  rw [show cK_t1 = .seq cK_1 cK_t2 from rfl, xc_cut cp_1]
  rw [show cK_t2 = .seq cK_2 cK_t3 from rfl, xc_cut cp_2]
  rw [show cK_t3 = .seq (.regionG cK_rd cK_wr) cK_t4 from rfl, out_to cp_3 cx_all]
  rw [show cK_t4 = .seq cK_4 cK_t5 from rfl, xc_cut cp_4]
  rw [show cK_t5 = .seq cK_5 cK_t6 from rfl, xc_cut cp_5]
  rw [show cK_t6 = .seq cK_6 cK_t7 from rfl, xc_cut cp_6]
  rw [show cK_t7 = .seq cK_7 cK_t8 from rfl, xc_cut cp_7]
  rw [show cK_t8 = .seq cK_8 cK_t9 from rfl, xc_cut cp_8]
  rw [show cK_t9 = .seq cK_9 cK_t10 from rfl, xc_cut cp_9]
  rw [show cK_t10 = .seq cK_10 cK_t11 from rfl, xc_cut cp_10]
  rw [show cK_t11 = .seq cK_11 cK_t12 from rfl, xc_cut cp_11]
  rw [show cK_t12 = .seq cK_12 cK_t13 from rfl, xc_cut3 cp_12]
  refine allTrue_flat fun s hs => ?_
  simp only [List.mem_cons, List.not_mem_nil, or_false] at hs
  rcases hs with rfl | rfl | rfl
  · exact cq_0
  · exact cq_1
  · exact cq_2
end Go.Proofs.YtbmpalbdbcjieaaGreat.R
