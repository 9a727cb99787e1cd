/- The hash of bytes, told beforehand: a table of functions. -/
import Derived.Test.YtlckmpioipiihaaBL4c
import Derived.Test.YtlckmpioipiihaaRX25
import Derived.Test.YtlckmpioipiihaaVL
namespace Go.Proofs.Ytlckmpioipiihaa.R
open Go Go.Vm
set_option maxRecDepth 100000
def in_1 : List UInt8 := [72, 1, 1, 97, 1, 5, 1, 1, 0, 0, 0, 0, 0, 0, 0, 0, 0, 0, 0, 0, 0, 0, 0, 0, 0, 0, 0, 0, 0, 0, 0, 0, 0, 0, 0, 0, 0, 0, 0, 0, 0, 0, 0, 0, 0, 0, 0, 0, 0, 0, 0, 0, 0, 0, 0, 0, 0, 0, 0, 0, 0, 0, 0, 0, 0, 0, 0, 0, 0, 0, 0, 0, 0, 0, 0, 0, 0, 0, 0, 0, 0, 0, 0, 0, 0, 0, 0, 0, 0, 0, 0, 0, 0, 0, 0, 0, 0, 0, 0, 0, 0, 0, 0, 0, 0, 0, 0, 0, 0, 0, 0, 0, 0, 0, 0, 0, 0, 0, 0, 0, 0, 0, 0, 0, 0, 0, 0, 0, 0, 0, 0, 0, 0, 0, 0, 0]
def out_1 : List UInt8 := [113, 219, 89, 209, 78, 141, 197, 125, 98, 168, 53, 46, 35, 198, 12, 103, 157, 59, 178, 134, 5, 193, 82, 228, 84, 190, 205, 163, 137, 228, 234, 185]
theorem sum_1b : (K.sumS in_1 == out_1) = true := by kernel_rfl
theorem sum_1 : K.sumS in_1 = out_1 := eq_of_beq sum_1b
def in_2 : List UInt8 := [72, 1, 1, 97, 1, 5, 1, 2, 0, 0, 0, 0, 0, 0, 0, 0, 0, 0, 0, 0, 0, 0, 0, 0, 0, 0, 0, 0, 0, 0, 0, 0, 0, 0, 0, 0, 0, 0, 0, 0, 0, 0, 0, 0, 0, 0, 0, 0, 0, 0, 0, 0, 0, 0, 0, 0, 0, 0, 0, 0, 0, 0, 0, 0, 0, 0, 0, 0, 0, 0, 0, 0, 0, 0, 0, 0, 0, 0, 0, 0, 0, 0, 0, 0, 0, 0, 0, 0, 0, 0, 0, 0, 0, 0, 0, 0, 0, 0, 0, 0, 0, 0, 0, 0, 0, 0, 0, 0, 0, 0, 0, 0, 0, 0, 0, 0, 0, 0, 0, 0, 0, 0, 0, 0, 0, 0, 0, 0, 0, 0, 0, 0, 0, 0, 0, 0]
def out_2 : List UInt8 := [20, 66, 11, 235, 16, 44, 47, 244, 165, 148, 253, 80, 212, 162, 77, 23, 156, 134, 100, 45, 80, 232, 9, 55, 99, 112, 126, 7, 103, 180, 60, 81]
theorem sum_2b : (K.sumS in_2 == out_2) = true := by kernel_rfl
theorem sum_2 : K.sumS in_2 = out_2 := eq_of_beq sum_2b
def sumT (l : List UInt8) : List Value := if l == in_1 then bcells out_1 else if l == in_2 then bcells out_2 else bcells (K.sumS l)
theorem sumT_eq (l : List UInt8) : sumT l = bcells (K.sumS l) := by
  unfold sumT
  split
  · rename_i h
    rw [eq_of_beq h, sum_1]
  split
  · rename_i h
    rw [eq_of_beq h, sum_2]
  rfl
theorem T0_ok : TableOK Try.prog K.T0 := withKept_ok (withTrue_ok trivial) fun k hk => by simp at hk
noncomputable def tabS : Table := withBytes table.get 39 sumT
theorem tabS_ok : TableOK Try.prog tabS := withBytes_ok (Checked.mixed Try.checked) (TT.table_ok table_all) T0_ok (fun l => by rw [sumT_eq]; exact bcells_ground _) (fnOK_of K.blake_Sum_t0) (fun h v l h1 h2 h3 => (K.Sum_ok h1 h2 h3).mono (fun r h' hr => by rw [sumT_eq]; exact hr.1) (fun _ _ h => h))
end Go.Proofs.Ytlckmpioipiihaa.R
