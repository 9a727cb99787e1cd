/- What the forms say: what is written is read as it was, and no other bytes are read so. -/
import Derived.Test.YtcapkoclbmaahaaH3h
namespace Go.Proofs.Ytcapkoclbmaahaa.A
open Go Go.Vm
set_option maxRecDepth 10000
set_option linter.unusedVariables false

theorem bigN_beN : ∀ (n : Nat), bigN (beN n) = n := by
  intro n
  induction n using Nat.strongRecOn with
  | _ n ih =>
    by_cases h : n = 0
    · subst h; rw [beN_zero]; rfl
    · rw [beN_pos h, bigN_snoc, ih (n / 256) (by omega), u8nat (Nat.mod_lt _ (by omega))]
      omega
theorem beN_head : ∀ (n : Nat), n ≠ 0 → ((beN n).getD 0 0).toNat ≠ 0 := by
  intro n
  induction n using Nat.strongRecOn with
  | _ n ih =>
    intro h
    rw [beN_pos h]
    by_cases h2 : n / 256 = 0
    · rw [h2, beN_zero]
      simp only [List.nil_append, List.getD_cons_zero]
      rw [u8nat (Nat.mod_lt _ (by omega))]
      omega
    · have h3 := ih (n / 256) (by omega) h2
      have hl : (beN (n / 256)) ≠ [] := by rw [beN_pos h2]; simp
      cases hb : beN (n / 256) with
      | nil => exact absurd hb hl
      | cons a l => rw [hb] at h3; simpa using h3
theorem getD_at {a b : List UInt8} {x : UInt8} : (a ++ x :: b).getD a.length 0 = x := by simp [List.getD_eq_getElem?_getD]

/-- what is written is read as it was -/
theorem numS_back {a b : List UInt8} {n : Nat} (hn : n ≤ 9223372036854775807) : numS (a ++ (numF n ++ b)) a.length = .ok (n, a.length + (numF n).length) := by
  have h8 := beN_len 8 n (by omega)
  unfold numF
  have hg : (a ++ (UInt8.ofNat (beN n).length :: beN n ++ b)).getD a.length 0 = UInt8.ofNat (beN n).length := by rw [List.cons_append]; exact getD_at
  have hk : (UInt8.ofNat (beN n).length).toNat = (beN n).length := u8nat (by omega)
  have hd : ((a ++ (UInt8.ofNat (beN n).length :: beN n ++ b)).drop (a.length + 1)).take (beN n).length = beN n := by
    rw [← List.drop_drop, List.drop_left]
    simp
  unfold numS
  rw [hg, hk, hd, bigN_beN]
  simp only [List.length_append, List.length_cons]
  rw [if_neg (by omega), if_neg (by omega), if_neg (by omega), if_neg]
  · congr 2; omega
  · rintro (⟨h1, h2⟩ | h)
    · refine beN_head n (fun h0 => ?_) h2
      subst h0
      rw [beN_zero] at h1
      simp at h1
    · omega

theorem bytesS_back {a b l : List UInt8} {most : Nat} (hl : l.length ≤ most) (hm : l.length ≤ 9223372036854775807) : bytesS (a ++ (numF l.length ++ (l ++ b))) most a.length = .ok (l, a.length + (numF l.length).length + l.length) := by
  unfold bytesS
  rw [numS_back hm]
  simp only [List.length_append]
  rw [if_neg (by omega), if_neg (by omega)]
  congr 2
  rw [← List.drop_drop, List.drop_left, List.drop_left, List.take_left]

theorem partS_back {a b l : List UInt8} {k : Nat} (hl : l.length = k) : partS k (a ++ (l ++ b)) a.length = .ok (l, a.length + k) := by
  unfold partS
  simp only [List.length_append]
  rw [if_neg (by omega), List.drop_left]
  congr 2
  rw [← hl, List.take_left]

/-! cut off -/
/-! readings in a row -/
end Go.Proofs.Ytcapkoclbmaahaa.A
