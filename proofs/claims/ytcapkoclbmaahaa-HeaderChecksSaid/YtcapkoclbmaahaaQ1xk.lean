/- Contracts: bytes side by side, copies, picks; the law HeaderOne. -/
import Derived.Test.YtcapkoclbmaahaaHC2k
namespace Go.Proofs.Ytcapkoclbmaahaa.A
open Go Go.Vm
set_option maxRecDepth 10000
set_option linter.unusedVariables false

theorem fits_bytes {h : Heap} {m : Nat} {te : TypeId} {c : List Value} {len : Nat} (hu : Try.prog.underlying te = some (.int .u8)) (hs : Try.prog.cellsOf te = 1) (hl : c.length = len * Try.prog.cellsOf te) (hall : ∀ i, i < len → Fits Try.prog h (m + 1) te ((c.drop (i * Try.prog.cellsOf te)).take (Try.prog.cellsOf te))) : ∃ bs : List UInt8, c = bcells bs ∧ bs.length = len := by
  rw [hs, Nat.mul_one] at hl
  induction c generalizing len with
  | nil => exact ⟨[], rfl, by simpa using hl⟩
  | cons v c ih =>
    cases len with
    | zero => simp at hl
    | succ len =>
      have h0 := hall 0 (by omega)
      rw [hs] at h0
      unfold Fits at h0
      rw [hu] at h0
      simp only [Nat.zero_mul, List.drop_zero, List.take_succ_cons, List.take_zero] at h0
      obtain ⟨x, hx, hwf⟩ := h0
      injection hx with hx _
      obtain ⟨bs, rfl, hb⟩ := ih (len := len) (by simpa using hl) fun i hi => by
        have := hall (i + 1) (by omega)
        rw [hs] at this ⊢
        simpa using this
      have hr : 0 ≤ x ∧ x ≤ 255 := by
        simp [Lit.wf, IntKind.min, IntKind.max, IntKind.signed, IntKind.bits] at hwf
        omega
      refine ⟨UInt8.ofNat x.toNat :: bs, ?_, by simp [hb]⟩
      rw [hx]
      show Value.int .u8 x :: bcells bs = Value.int .u8 ((UInt8.ofNat x.toNat).toNat : Nat) :: bcells bs
      rw [u8nat (by omega)]
      congr 2
      omega

end Go.Proofs.Ytcapkoclbmaahaa.A
