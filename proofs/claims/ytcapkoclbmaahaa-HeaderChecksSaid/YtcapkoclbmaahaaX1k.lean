/- Contracts of the program's writer of bytes (wire), 1: numbers, pieces behind each other. -/
import Derived.Test.YtcapkoclbmaahaaW8k
import Derived.Test.YtcapkoclbmaahaaVK
namespace Go.Proofs.Ytcapkoclbmaahaa.A
open Go Go.Vm
set_option maxRecDepth 10000
set_option linter.unusedVariables false

/-- a number's bytes, the highest first, none ahead that is zero -/
def beN (n : Nat) : List UInt8 := if h : n = 0 then [] else beN (n / 256) ++ [UInt8.ofNat (n % 256)]
  termination_by n
  decreasing_by omega
theorem beN_zero : beN 0 = [] := by unfold beN; simp
theorem beN_pos {n : Nat} (h : n ≠ 0) : beN n = beN (n / 256) ++ [UInt8.ofNat (n % 256)] := by rw [beN]; rw [dif_neg h]
/-- a number's form -/
def numF (n : Nat) : List UInt8 := UInt8.ofNat (beN n).length :: beN n
theorem beN_len : ∀ (k n : Nat), n < 256 ^ k → (beN n).length ≤ k
  | 0, n, h => by
    obtain rfl : n = 0 := by simpa using h
    rw [beN_zero]; simp
  | k + 1, n, h => by
    by_cases h0 : n = 0
    · subst h0; rw [beN_zero]; simp
    · rw [beN_pos h0, List.length_append]
      have : n / 256 < 256 ^ k := Nat.div_lt_of_lt_mul (by rw [Nat.pow_succ] at h; omega)
      have := beN_len k _ this
      simp; omega

theorem u8nat {n : Nat} (h : n < 256) : (UInt8.ofNat n).toNat = n := by
  rw [UInt8.toNat_ofNat']
  exact Nat.mod_eq_of_lt h

theorem number_ok {h : Heap} {N : Nat} (hN : N ≤ 9223372036854775807) :
    Runs Try.prog T0 (.fn fn_wire_number) [.int .i64 N] h (fun r h' => Rd h' 1 r (bcells (numF N)) (numF N).length ∧ (∀ i, blockOf r i → h.n ≤ i) ∧ Fr (fun _ => False) h h') (fun _ _ => False) := by
  refine wire_number_runs ?_
  refine stp ?_
  refine wire_number_l0_rule (fun m v0 v4 h' => ∃ (n k : Nat) (c : List Value) (ds : List UInt8), n = m ∧ v0 = .int .i64 n ∧ v4 = .int .i64 k ∧ k ≤ 8 ∧ n < 256 ^ (8 - k) ∧ n ≤ N ∧ h' = h.push (.cells c 0) ∧ c.length = 9 ∧ ds.length = k ∧ c.drop (9 - k) = bcells ds ∧ beN N = beN n ++ ds) ?_ N
    ⟨N, 0, _, [], rfl, rfl, rfl, by omega, by simp; omega, Nat.le_refl _, rfl, rfl, rfl, rfl, by simp⟩
  rintro m v0 v4 h' x5 x6 x7 x8 x9 x10 x11 x12 x13 x14 x15 ⟨n, k, c, ds, hnm, rfl, rfl, hk, hn, hnN, rfl, hc, hds, hd, hbe⟩
  subst hnm
  refine stp ?_
  refine C.if (fun hpos => ?_) (fun hz => ?_)
  · have hk8 : k < 8 := by
      rcases Nat.lt_or_ge k 8 with h | h
      · exact h
      · obtain rfl : k = 8 := by omega
        simp at hn; omega
    have h256 : n % 256 < 256 := Nat.mod_lt _ (by omega)
    have hw : (IntKind.wrap .u8 (n : Int)) = (((UInt8.ofNat (n % 256)).toNat : Nat) : Int) := by
      rw [wrap_u8, u8nat h256]
      omega
    refine stp ?_
    have h8 : ((8 : Int) - (k : Int)).toNat = 8 - k := by omega
    rw [hw, h8]
    simp only [Nat.zero_add, Nat.mul_one]
    refine O.by0 (XOp.mkStore1 (P := Try.prog) (h := h.push (.cells c 0)) (c := c) (r := h.n) (o := 8 - k) (v := .int .u8 (UInt8.ofNat (n % 256)).toNat) (sp := none) (by omega)).eq rfl ?_
    refine stp ?_
    refine O.how XOp.shr8 ?_
    refine stp ?_
    have hdiv : ((n : Int) / 256) = ((n / 256 : Nat) : Int) := by omega
    rw [hdiv, Heap.push_set]
    refine wire_number_l0_again (n / 256) (by omega) ⟨n / 256, k + 1, lset c (8 - k) (.int .u8 (UInt8.ofNat (n % 256)).toNat), UInt8.ofNat (n % 256) :: ds, rfl, rfl, by simp, by omega, ?_, by omega, rfl, by rw [lset_len]; exact hc, by simp [hds], ?_, ?_⟩
    · have : 256 ^ (8 - k) = 256 ^ (8 - (k + 1)) * 256 := by rw [← Nat.pow_succ]; congr 1; omega
      exact Nat.div_lt_of_lt_mul (by omega)
    · rw [show 9 - (k + 1) = 8 - k from by omega, lset_drop _ _ _ (by omega), show 8 - k + 1 = 9 - k from by omega, hd]
      rfl
    · rw [hbe, beN_pos (by omega)]
      simp
  · have hn0 : n = 0 := by omega
    subst hn0
    rw [beN_zero, List.nil_append] at hbe
    have hw : (k : Int) = (((UInt8.ofNat k).toNat : Nat) : Int) := by
      rw [u8nat (by omega)]
    refine stp ?_
    have h8 : ((8 : Int) - (k : Int)).toNat = 8 - k := by omega
    rw [h8]
    simp only [Nat.zero_add, Nat.mul_one]
    refine O.by0 (XOp.mkStore1 (P := Try.prog) (h := h.push (.cells c 0)) (c := c) (r := h.n) (o := 8 - k) (v := .int .u8 k) (sp := none) (by omega)).eq rfl ?_
    refine stp ?_
    rw [Heap.push_set]
    refine O.how (XOp.mkSliceArrLo (8 - k) (by omega) (by omega)) ?_
    refine stp ?_
    rw [show 9 - (8 - k) = k + 1 from by omega, Nat.zero_add, Nat.mul_one]
    have hlen : (numF N).length = k + 1 := by simp [numF, hbe, hds]
    refine ⟨?_, fun i hi => by rw [← hi.1]; exact Nat.le_refl _, Fr.refl.push⟩
    rw [hlen]
    refine Rd.mk (by simp) ?_
    rw [cellsAt_of (c := lset c (8 - k) (.int .u8 k)) (by rw [Heap.get_push, if_pos rfl]; rfl) (by rw [lset_len]; omega), lset_drop _ _ _ (by omega), show 8 - k + 1 = 9 - k from by omega, hd]
    congr 1
    rw [List.take_of_length_le (by simp [bcells, hds])]
    unfold numF
    rw [hbe, hds]
    show _ :: _ = Value.int .u8 ((UInt8.ofNat k).toNat : Nat) :: _
    rw [u8nat (by omega)]
    rfl
end Go.Proofs.Ytcapkoclbmaahaa.A
