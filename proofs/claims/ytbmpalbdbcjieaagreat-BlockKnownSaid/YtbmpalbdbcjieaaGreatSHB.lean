/- The hash of bytes, told beforehand: a table of functions. -/
import Derived.Test.YtbmpalbdbcjieaaGreatKBL4KH9
import Derived.Test.YtbmpalbdbcjieaaGreatVL
namespace Go.Proofs.YtbmpalbdbcjieaaGreat.R
open Go Go.Vm
set_option maxRecDepth 100000
def in_1 : List UInt8 := [1, 2, 0, 0, 0, 1, 1, 5, 0, 0, 0, 2, 1, 7]
def out_1 : List UInt8 := [6, 42, 8, 140, 251, 91, 124, 64, 45, 135, 23, 48, 171, 198, 50, 83, 6, 143, 224, 191, 80, 205, 63, 101, 68, 82, 26, 114, 181, 102, 136, 230]
theorem sum_1b : (K.sumS in_1 == out_1) = true := by kernel_rfl
theorem sum_1 : K.sumS in_1 = out_1 := eq_of_beq sum_1b
def in_2 : List UInt8 := [72, 1, 1, 97, 1, 3, 1, 4, 0, 0, 0, 0, 0, 0, 0, 0, 0, 0, 0, 0, 0, 0, 0, 0, 0, 0, 0, 0, 0, 0, 0, 0, 0, 0, 0, 0, 0, 0, 0, 0, 6, 42, 8, 140, 251, 91, 124, 64, 45, 135, 23, 48, 171, 198, 50, 83, 6, 143, 224, 191, 80, 205, 63, 101, 68, 82, 26, 114, 181, 102, 136, 230, 0, 0, 0, 0, 0, 0, 0, 0, 0, 0, 0, 0, 0, 0, 0, 0, 0, 0, 0, 0, 0, 0, 0, 0, 0, 0, 0, 0, 0, 0, 0, 0, 0, 0, 0, 0, 0, 0, 0, 0, 0, 0, 0, 0, 0, 0, 0, 0, 0, 0, 0, 0, 0, 0, 0, 0, 0, 0, 0, 0, 0, 0, 0, 0]
def out_2 : List UInt8 := [7, 218, 153, 245, 22, 243, 57, 53, 12, 62, 187, 40, 219, 60, 114, 108, 145, 194, 110, 193, 43, 222, 143, 29, 210, 188, 35, 66, 31, 219, 29, 161]
theorem sum_2b : (K.sumS in_2 == out_2) = true := by kernel_rfl
theorem sum_2 : K.sumS in_2 = out_2 := eq_of_beq sum_2b
def in_3 : List UInt8 := [72, 1, 1, 97, 1, 3, 1, 5, 0, 0, 0, 0, 0, 0, 0, 0, 0, 0, 0, 0, 0, 0, 0, 0, 0, 0, 0, 0, 0, 0, 0, 0, 0, 0, 0, 0, 0, 0, 0, 0, 6, 42, 8, 140, 251, 91, 124, 64, 45, 135, 23, 48, 171, 198, 50, 83, 6, 143, 224, 191, 80, 205, 63, 101, 68, 82, 26, 114, 181, 102, 136, 230, 0, 0, 0, 0, 0, 0, 0, 0, 0, 0, 0, 0, 0, 0, 0, 0, 0, 0, 0, 0, 0, 0, 0, 0, 0, 0, 0, 0, 0, 0, 0, 0, 0, 0, 0, 0, 0, 0, 0, 0, 0, 0, 0, 0, 0, 0, 0, 0, 0, 0, 0, 0, 0, 0, 0, 0, 0, 0, 0, 0, 0, 0, 0, 0]
def out_3 : List UInt8 := [60, 175, 96, 44, 219, 254, 31, 67, 151, 232, 111, 226, 236, 25, 26, 12, 237, 96, 64, 101, 209, 234, 115, 7, 68, 135, 205, 143, 214, 177, 195, 195]
theorem sum_3b : (K.sumS in_3 == out_3) = true := by kernel_rfl
theorem sum_3 : K.sumS in_3 = out_3 := eq_of_beq sum_3b
def in_4 : List UInt8 := [1, 1, 0, 0, 0, 1, 1, 5]
def out_4 : List UInt8 := [160, 49, 140, 4, 146, 167, 99, 95, 83, 51, 21, 177, 137, 40, 105, 250, 67, 83, 235, 218, 75, 34, 147, 171, 49, 39, 145, 28, 70, 19, 174, 14]
theorem sum_4b : (K.sumS in_4 == out_4) = true := by kernel_rfl
theorem sum_4 : K.sumS in_4 = out_4 := eq_of_beq sum_4b
def sumT (l : List UInt8) : List Value := if l == in_1 then bcells out_1 else if l == in_2 then bcells out_2 else if l == in_3 then bcells out_3 else if l == in_4 then bcells out_4 else bcells (K.sumS l)
theorem sumT_eq (l : List UInt8) : sumT l = bcells (K.sumS l) := by
  unfold sumT
  split
  · rename_i h
    rw [eq_of_beq h, sum_1]
  split
  · rename_i h
    rw [eq_of_beq h, sum_2]
  split
  · rename_i h
    rw [eq_of_beq h, sum_3]
  split
  · rename_i h
    rw [eq_of_beq h, sum_4]
  rfl
theorem T0_ok : TableOK Tryz.prog K.T0 := holed_ok
noncomputable def tabS : Table := withBytes (tableOf Tryz.prog) 77 sumT
theorem tabS_ok : TableOK Tryz.prog tabS := withBytes_ok (Checked.mixed Tryz.checked) tableOf_ok T0_ok (fun l => by rw [sumT_eq]; exact bcells_ground _) (fnOK_of K.blake_Sum_t0) (fun h v l h1 h2 h3 => (K.Sum_ok h1 h2 h3).mono (fun r h' hr => by rw [sumT_eq]; exact hr.1) (fun _ _ h => h))
end Go.Proofs.YtbmpalbdbcjieaaGreat.R
