/- Contracts of the program's reader of bytes (wire), 7: bytes, texts, hashes. -/
import Derived.Test.YtcapkoclbmaahaaW6k
import Derived.Test.YtcapkoclbmaahaaVJ
namespace Go.Proofs.Ytcapkoclbmaahaa.A
open Go Go.Vm
set_option maxRecDepth 10000
set_option linter.unusedVariables false

theorem numS_err {bs : List UInt8} {pl : Nat} {e : Int} (h : numS bs pl = .error e) : e = 5 ∨ e = 6 := by
  unfold numS at h
  split at h
  · cases h; exact .inr rfl
  · split at h
    · cases h; exact .inl rfl
    · split at h
      · cases h; exact .inr rfl
      · split at h
        · cases h; exact .inl rfl
        · cases h
theorem numS_ok {bs : List UInt8} {pl n pl' : Nat} (h : numS bs pl = .ok (n, pl')) : n ≤ 9223372036854775807 ∧ pl' ≤ bs.length ∧ pl < pl' := by
  unfold numS at h
  split at h
  · cases h
  · split at h
    · cases h
    · split at h
      · cases h
      · split at h
        · cases h
        · cases h
          refine ⟨?_, by omega, by omega⟩
          omega

/-- what bytes with their length ahead come to -/
def bytesS (bs : List UInt8) (most pl : Nat) : Except Int (List UInt8 × Nat) :=
  match numS bs pl with
  | .error e => .error e
  | .ok (n, pl1) => if most < n then .error 4 else if bs.length < pl1 + n then .error 6 else .ok ((bs.drop pl1).take n, pl1 + n)
/-- so many bytes -/
def partS (k : Nat) (bs : List UInt8) (pl : Nat) : Except Int (List UInt8 × Nat) :=
  if bs.length < pl + k then .error 6 else .ok ((bs.drop pl).take k, pl + k)

/-! ### Readings -/

end Go.Proofs.Ytcapkoclbmaahaa.A
