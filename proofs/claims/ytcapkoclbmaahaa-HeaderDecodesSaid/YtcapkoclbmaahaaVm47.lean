/- A small machine over an abstract heap: a string's byte. -/
import Derived.Test.YtcapkoclbmaahaaVm46
set_option linter.unusedSimpArgs false
set_option linter.unusedVariables false
namespace Go.Vm
section
variable {P : Program} {ts : List Value} {h : Heap} {x i : Operand} {l : List UInt8} {k : Nat} {K : IntKind} {p : Int} {t ty : TypeId}
theorem pr_indexStr (ht : P.underlying t = some .string) (hk : k < l.length) : pr P (Instr.index t (.string ⟨⟨l⟩⟩) (.int K k)) = some (.ok (.int .u8 (l.getD k 0).toNat)) := by
  have hg : (ByteArray.mk ⟨l⟩)[((k : Nat) : Int).toNat]? = some (l.getD k 0) := by
    rw [Int.toNat_natCast]
    have h2 : k < (ByteArray.mk ⟨l⟩).size := hk
    rw [getElem?_pos _ k h2]
    congr 1
    show l[k] = _
    simp [List.getD_eq_getElem?_getD, hk]
  unfold Instr.index
  rw [pr_bindE]
  show pr P (underlying t >>= _) = _
  rw [pr_bindE, pr_underlying ht]
  simp only [hg, if_pos (show (0 : Int) ≤ (k : Nat) by omega)]
  rfl
theorem XOp.mkIndexStr (ht : P.underlying t = some .string) (hp : p = k) (hk : k < l.length) [e : Ev ts x (.string ⟨⟨l⟩⟩)] [f : Ev ts i (.int K p)] :
    XOp P ts h (.raw (so (.index t x i) ty)) (.int .u8 (l.getD k 0).toNat) h := ⟨rfl, by
  subst hp
  refine raw_ok (by simp [so, Op.operands, e.eq, f.eq, ground]) ?_ rfl
  simp only [execOp, so, e.eq, f.eq]
  show pr P (Instr.index t (.string ⟨⟨l⟩⟩) (.int K k) >>= _) = _
  rw [pr_bindE, pr_indexStr ht hk]
  rfl⟩
end
end Go.Vm
