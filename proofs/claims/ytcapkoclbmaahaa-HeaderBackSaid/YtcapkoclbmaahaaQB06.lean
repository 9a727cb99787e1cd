/- What the forms say: what is written is read as it was, and no other bytes are read so. -/
import Derived.Test.YtcapkoclbmaahaaHA06
import Derived.Test.YtcapkoclbmaahaaVm44
namespace Go.Proofs.Ytcapkoclbmaahaa.A
open Go Go.Vm
set_option maxRecDepth 10000
set_option linter.unusedVariables false

theorem bigN_beN : ∀ (n : Nat), bigN (beN n) = n := by
  intro n
  induction n using Nat.strongRecOn with
  | _ n ih =>
    by_cases h : n = 0
    · subst h; rw [beN_zero]; rfl
    · rw [beN_pos h, bigN_snoc, ih (n / 256) (by omega), u8nat (Nat.mod_lt _ (by omega))]
      omega
theorem beN_head : ∀ (n : Nat), n ≠ 0 → ((beN n).getD 0 0).toNat ≠ 0 := by
  intro n
  induction n using Nat.strongRecOn with
  | _ n ih =>
    intro h
    rw [beN_pos h]
    by_cases h2 : n / 256 = 0
    · rw [h2, beN_zero]
      simp only [List.nil_append, List.getD_cons_zero]
      rw [u8nat (Nat.mod_lt _ (by omega))]
      omega
    · have h3 := ih (n / 256) (by omega) h2
      have hl : (beN (n / 256)) ≠ [] := by rw [beN_pos h2]; simp
      cases hb : beN (n / 256) with
      | nil => exact absurd hb hl
      | cons a l => rw [hb] at h3; simpa using h3
theorem bigN_pos {d : List UInt8} (h : (d.getD 0 0).toNat ≠ 0) : bigN d ≠ 0 := by
  have key : ∀ (l : List UInt8) (n : Nat), n ≠ 0 → l.foldl (fun n b => n * 256 + b.toNat) n ≠ 0 := by
    intro l
    induction l with
    | nil => intro n h; exact h
    | cons b l ih =>
      intro n h
      show l.foldl (fun n b => n * 256 + b.toNat) (n * 256 + b.toNat) ≠ 0
      exact ih _ (by omega)
  cases d with
  | nil => simp at h
  | cons a l =>
    show (a :: l).foldl (fun n b => n * 256 + b.toNat) 0 ≠ 0
    exact key l _ (by simpa using h)
theorem beN_bigN : ∀ (k : Nat) (d : List UInt8), d.length = k → (0 < d.length → (d.getD 0 0).toNat ≠ 0) → beN (bigN d) = d := by
  intro k
  induction k with
  | zero =>
    intro d hd _
    have : d = [] := List.length_eq_zero_iff.1 hd
    subst this
    exact beN_zero
  | succ k ih =>
    intro d hd h
    obtain ⟨l, b, rfl⟩ : ∃ l b, d = l ++ [b] := ⟨d.dropLast, d.getLast (by intro h; rw [h] at hd; simp at hd), (List.dropLast_concat_getLast _).symm⟩
    have hb := b.toNat_lt
    have hlen : l.length = k := by simpa using hd
    have hl : 0 < l.length → (l.getD 0 0).toNat ≠ 0 := fun hp => by
      cases l with
      | nil => simp at hp
      | cons a l => simpa using h (by simp)
    have h0 := bigN_pos (h (by simp))
    rw [bigN_snoc] at h0 ⊢
    rw [beN_pos h0]
    have e1 : (bigN l * 256 + b.toNat) / 256 = bigN l := by omega
    have e2 : (bigN l * 256 + b.toNat) % 256 = b.toNat := by omega
    rw [e1, e2, ih l hlen hl]
    congr 2
    exact UInt8.toNat_inj.1 (u8nat (by omega))

theorem drop_split {l : List UInt8} {pl k : Nat} (h : pl + k ≤ l.length) : l.drop pl = (l.drop pl).take k ++ l.drop (pl + k) := by
  rw [← List.drop_drop, List.take_append_drop]
theorem drop_one {l : List UInt8} {pl : Nat} (h : pl < l.length) : l.drop pl = l.getD pl 0 :: l.drop (pl + 1) := by
  rw [List.drop_eq_getElem_cons h]
  simp [List.getD_eq_getElem?_getD, List.getElem?_eq_getElem h]

/-- no other bytes are read as this number -/
theorem numS_form {bs : List UInt8} {pl n pl' : Nat} (h : numS bs pl = .ok (n, pl')) : bs.drop pl = numF n ++ bs.drop pl' := by
  have hb := (bs.getD pl 0).toNat_lt
  unfold numS at h
  split at h
  · cases h
  · split at h
    · cases h
    · split at h
      · cases h
      · split at h
        · cases h
        · rename_i h1 h2 h3 h4
          cases h
          have hd : ((bs.drop (pl + 1)).take (bs.getD pl 0).toNat).length = (bs.getD pl 0).toNat := by rw [List.length_take, List.length_drop]; omega
          rw [drop_one (by omega)]
          unfold numF
          rw [beN_bigN _ _ hd fun hp h0 => h4 (.inl ⟨by omega, h0⟩), hd]
          rw [show UInt8.ofNat (bs.getD pl 0).toNat = bs.getD pl 0 from UInt8.toNat_inj.1 (u8nat (by omega))]
          rw [List.cons_append, ← drop_split (by omega)]

theorem getD_at {a b : List UInt8} {x : UInt8} : (a ++ x :: b).getD a.length 0 = x := by simp [List.getD_eq_getElem?_getD]

/-- what is written is read as it was -/
theorem numS_back {a b : List UInt8} {n : Nat} (hn : n ≤ 9223372036854775807) : numS (a ++ (numF n ++ b)) a.length = .ok (n, a.length + (numF n).length) := by
  have h8 := beN_len 8 n (by omega)
  unfold numF
  have hg : (a ++ (UInt8.ofNat (beN n).length :: beN n ++ b)).getD a.length 0 = UInt8.ofNat (beN n).length := by rw [List.cons_append]; exact getD_at
  have hk : (UInt8.ofNat (beN n).length).toNat = (beN n).length := u8nat (by omega)
  have hd : ((a ++ (UInt8.ofNat (beN n).length :: beN n ++ b)).drop (a.length + 1)).take (beN n).length = beN n := by
    rw [← List.drop_drop, List.drop_left]
    simp
  unfold numS
  rw [hg, hk, hd, bigN_beN]
  simp only [List.length_append, List.length_cons]
  rw [if_neg (by omega), if_neg (by omega), if_neg (by omega), if_neg]
  · congr 2; omega
  · rintro (⟨h1, h2⟩ | h)
    · refine beN_head n (fun h0 => ?_) h2
      subst h0
      rw [beN_zero] at h1
      simp at h1
    · omega

theorem bytesS_form {bs l : List UInt8} {most pl pl' : Nat} (h : bytesS bs most pl = .ok (l, pl')) : l.length ≤ most ∧ bs.drop pl = numF l.length ++ (l ++ bs.drop pl') ∧ pl' ≤ bs.length := by
  unfold bytesS at h
  split at h
  · cases h
  · rename_i n pl1 hn
    split at h
    · cases h
    · split at h
      · cases h
      · cases h
        have h2 := numS_ok hn
        have hl : ((bs.drop pl1).take n).length = n := by rw [List.length_take, List.length_drop]; omega
        rw [hl, numS_form hn]
        exact ⟨by omega, by rw [← drop_split (by omega)], by omega⟩
theorem bytesS_back {a b l : List UInt8} {most : Nat} (hl : l.length ≤ most) (hm : l.length ≤ 9223372036854775807) : bytesS (a ++ (numF l.length ++ (l ++ b))) most a.length = .ok (l, a.length + (numF l.length).length + l.length) := by
  unfold bytesS
  rw [numS_back hm]
  simp only [List.length_append]
  rw [if_neg (by omega), if_neg (by omega)]
  congr 2
  rw [← List.drop_drop, List.drop_left, List.drop_left, List.take_left]

theorem partS_form {bs l : List UInt8} {k pl pl' : Nat} (h : partS k bs pl = .ok (l, pl')) : l.length = k ∧ bs.drop pl = l ++ bs.drop pl' ∧ pl' ≤ bs.length := by
  unfold partS at h
  split at h
  · cases h
  · cases h
    exact ⟨by rw [List.length_take, List.length_drop]; omega, drop_split (by omega), by omega⟩
theorem partS_back {a b l : List UInt8} {k : Nat} (hl : l.length = k) : partS k (a ++ (l ++ b)) a.length = .ok (l, a.length + k) := by
  unfold partS
  simp only [List.length_append]
  rw [if_neg (by omega), List.drop_left]
  congr 2
  rw [← hl, List.take_left]

/-! cut off -/
theorem getD_take {l : List UInt8} {c i : Nat} (h : i < c) : (l.take c).getD i 0 = l.getD i 0 := by
  simp [List.getD_eq_getElem?_getD, List.getElem?_take_of_lt h]
theorem numS_cut {bs : List UInt8} {pl n pl' c : Nat} (h : numS bs pl = .ok (n, pl')) (hc : c ≤ bs.length) (hp : pl ≤ c) : numS (bs.take c) pl = if pl' ≤ c then .ok (n, pl') else .error 6 := by
  unfold numS at h
  split at h
  · cases h
  · split at h
    · cases h
    · split at h
      · cases h
      · split at h
        · cases h
        · rename_i h1 h2 h3 h4
          cases h
          unfold numS
          rw [List.length_take, Nat.min_eq_left hc]
          by_cases e1 : c < pl + 1
          · rw [if_pos e1, if_neg (by omega)]
          · rw [if_neg e1, getD_take (by omega), if_neg h2]
            by_cases e2 : c < pl + 1 + (bs.getD pl 0).toNat
            · rw [if_pos e2, if_neg (by omega)]
            · rw [if_neg e2]
              have : ((bs.take c).drop (pl + 1)).take (bs.getD pl 0).toNat = (bs.drop (pl + 1)).take (bs.getD pl 0).toNat := by
                rw [List.drop_take, List.take_take, Nat.min_eq_left (by omega)]
              rw [this, if_neg h4, if_pos (by omega)]
theorem bytesS_cut {bs l : List UInt8} {most pl pl' c : Nat} (h : bytesS bs most pl = .ok (l, pl')) (hc : c ≤ bs.length) (hp : pl ≤ c) : bytesS (bs.take c) most pl = if pl' ≤ c then .ok (l, pl') else .error 6 := by
  unfold bytesS at h
  split at h
  · cases h
  · rename_i n pl1 hn
    split at h
    · cases h
    · split at h
      · cases h
      · rename_i h1 h2
        cases h
        unfold bytesS
        rw [numS_cut hn hc hp]
        by_cases e1 : pl1 ≤ c
        · rw [if_pos e1]
          simp only
          rw [if_neg h1, List.length_take, Nat.min_eq_left hc]
          by_cases e2 : c < pl1 + n
          · rw [if_pos e2, if_neg (by omega)]
          · rw [if_neg e2, if_pos (by omega)]
            congr 2
            rw [List.drop_take, List.take_take, Nat.min_eq_left (by omega)]
        · rw [if_neg e1]
          simp only
          rw [if_neg (by omega)]
theorem partS_cut {bs l : List UInt8} {k pl pl' c : Nat} (h : partS k bs pl = .ok (l, pl')) (hc : c ≤ bs.length) (hp : pl ≤ c) : partS k (bs.take c) pl = if pl' ≤ c then .ok (l, pl') else .error 6 := by
  unfold partS at h
  split at h
  · cases h
  · cases h
    unfold partS
    rw [List.length_take, Nat.min_eq_left hc]
    by_cases e2 : c < pl + k
    · rw [if_pos e2, if_neg (by omega)]
    · rw [if_neg e2, if_pos (by omega)]
      congr 2
      rw [List.drop_take, List.take_take, Nat.min_eq_left (by omega)]

/-! readings in a row -/
/-- a reading whose end is within -/
def Ends (bs : List UInt8) {α : Type} (S : Nat → Except Int (α × Nat)) : Prop := (∀ pl a pl', S pl = .ok (a, pl') → pl' ≤ bs.length) ∧ ∀ pl e, S pl = .error e → e = 4 ∨ e = 5 ∨ e = 6
theorem numS_ends {bs : List UInt8} : Ends bs (numS bs) := ⟨fun pl a pl' h => (numS_ok h).2.1, fun pl e h => .inr (numS_err h)⟩
theorem bytesS_ends {bs : List UInt8} {most : Nat} : Ends bs (bytesS bs most) := ⟨fun pl a pl' h => (bytesS_form h).2.2, fun pl e h => by
  unfold bytesS at h
  split at h
  · rename_i e' hn
    cases h
    exact .inr (numS_err hn)
  · split at h
    · cases h; exact .inl rfl
    · split at h
      · cases h; exact .inr (.inr rfl)
      · cases h⟩
theorem partS_ends {bs : List UInt8} {k : Nat} : Ends bs (partS k bs) := ⟨fun pl a pl' h => (partS_form h).2.2, fun pl e h => by
  unfold partS at h
  split at h
  · cases h; exact .inr (.inr rfl)
  · cases h⟩

/-- a reader's state that can be -/
structure RSt.ok (bs : List UInt8) (st : RSt) : Prop where
  pl : st.e = 0 → st.pl ≤ bs.length ∧ st.fa = 0
  fa : 0 ≤ st.fa ∧ st.fa ≤ bs.length
theorem rd_st {α : Type} {bs : List UInt8} {S : Nat → Except Int (α × Nat)} {zero : α} {st : RSt} (hE : Ends bs S) (hs : st.ok bs) : (rd S zero st).2.ok bs := by
  unfold rd
  split
  · rename_i he
    cases hS : S st.pl with
    | ok x => exact ⟨fun _ => ⟨hE.1 _ _ _ hS, rfl⟩, by simp⟩
    | error e => exact ⟨fun h0 => by have := hE.2 _ _ hS; have h0 : e = 0 := h0; omega, by have := (hs.pl he).1; simp only; omega⟩
  · exact hs
theorem rd_good {α : Type} {bs : List UInt8} {S : Nat → Except Int (α × Nat)} {zero : α} {st : RSt} (hE : Ends bs S) (h : (rd S zero st).2.e = 0) : st.e = 0 ∧ S st.pl = .ok ((rd S zero st).1, (rd S zero st).2.pl) := by
  unfold rd at h ⊢
  split at h
  · rename_i he
    rw [if_pos he]
    cases hS : S st.pl with
    | ok x => exact ⟨he, rfl⟩
    | error e =>
      rw [hS] at h
      have := hE.2 _ _ hS
      have h : e = 0 := h
      omega
  · rename_i he
    exact absurd h he
theorem rd_step {α : Type} {S : Nat → Except Int (α × Nat)} {zero a : α} {pl pl' : Nat} (h : S pl = .ok (a, pl')) : rd S zero ⟨pl, 0, 0⟩ = (a, ⟨pl', 0, 0⟩) := by
  unfold rd
  rw [if_pos rfl]
  simp only [h]
end Go.Proofs.Ytcapkoclbmaahaa.A

/- What the forms say of headers: whatever is read is what is written. -/
namespace Go.Proofs.Ytcapkoclbmaahaa.A
open Go Go.Vm
set_option maxRecDepth 10000
set_option linter.unusedVariables false

theorem st0_ok (bs : List UInt8) : RSt.ok bs ⟨0, 0, 0⟩ := ⟨fun _ => ⟨by simp, rfl⟩, by simp⟩
theorem headD_st (bs : List UInt8) : (headD bs).2.ok bs := rd_st numS_ends (rd_st numS_ends (rd_st bytesS_ends (st0_ok bs)))
theorem stepD_st (bs : List UInt8) {y : Hd × RSt} (hy : y.2.ok bs) : ∀ k, (stepD bs k y).2.ok bs
  | 0 => hy
  | k + 1 => rd_st partS_ends (stepD_st bs hy k)

/-- the fault of a reading, before a look at the header; with it -/
def faultS (bs : List UInt8) : Int × Int := endS bs (stepD bs 4 (headD bs)).2
def gaultS (bs : List UInt8) : Int × Int := if faultS bs = (0, 0) then (checkS (stepD bs 4 (headD bs)).1, 0) else faultS bs
theorem decS_eq (bs : List UInt8) : decS bs = if gaultS bs = (0, 0) then ((stepD bs 4 (headD bs)).1, (0, 0)) else (zeroHd, gaultS bs) := rfl

theorem endS_within {bs : List UInt8} {st : RSt} (h : st.ok bs) : 0 ≤ (endS bs st).2 ∧ (endS bs st).2 ≤ bs.length := by
  unfold endS
  split
  · rename_i hc
    simp only
    omega
  · exact h.fa
theorem endS_zero {bs : List UInt8} {st : RSt} (h : st.ok bs) (h0 : (endS bs st).1 = 0) : endS bs st = (0, 0) := by
  unfold endS at h0 ⊢
  split at h0
  · cases h0
  · rename_i hc
    rw [if_neg hc]
    have h0 : st.e = 0 := h0
    rw [h0, (h.pl h0).2]

theorem gaultS_zero {bs : List UInt8} (h : (gaultS bs).1 = 0) : gaultS bs = (0, 0) := by
  unfold gaultS at h ⊢
  split at h
  · rename_i hc
    rw [if_pos hc]
    have h : checkS (stepD bs 4 (headD bs)).1 = 0 := h
    rw [h]
  · rename_i hc
    exact absurd (endS_zero (stepD_st bs (headD_st bs) 4) h) hc

theorem decS_bad {bs : List UInt8} (h : (decS bs).2.1 ≠ 0) : (decS bs).1 = zeroHd ∧ 0 ≤ (decS bs).2.2 ∧ (decS bs).2.2 ≤ bs.length := by
  rw [decS_eq] at h ⊢
  split at h
  · exact absurd rfl h
  · rename_i hc
    rw [if_neg hc]
    refine ⟨rfl, ?_⟩
    have := endS_within (stepD_st bs (headD_st bs) 4)
    show 0 ≤ (gaultS bs).2 ∧ (gaultS bs).2 ≤ bs.length
    unfold gaultS
    split
    · simp
    · exact this

theorem decS_good {bs : List UInt8} (h : (decS bs).2.1 = 0) : checkS (decS bs).1 = 0 ∧ encS (decS bs).1 = bs ∧ (decS bs).2 = (0, 0) := by
  have hg : gaultS bs = (0, 0) := by
    rw [decS_eq] at h
    split at h
    · rename_i hc; exact hc
    · exact gaultS_zero h
  rw [decS_eq, if_pos hg]
  have hf : faultS bs = (0, 0) := by
    unfold gaultS at hg
    split at hg
    · rename_i hc; exact hc
    · exact hg
  have hc : checkS (stepD bs 4 (headD bs)).1 = 0 := by
    unfold gaultS at hg
    rw [if_pos hf] at hg
    injection hg
  refine ⟨hc, ?_, rfl⟩
  have hst := stepD_st bs (headD_st bs) 4
  have he : (stepD bs 4 (headD bs)).2.e = 0 ∧ (stepD bs 4 (headD bs)).2.pl = bs.length := by
    unfold faultS endS at hf
    split at hf
    · cases hf
    · rename_i hn
      have h0 : (stepD bs 4 (headD bs)).2.e = 0 := by injection hf
      refine ⟨h0, ?_⟩
      have := (hst.pl h0).1
      have h1 : ¬ (stepD bs 4 (headD bs)).2.pl < bs.length := fun hl => hn ⟨h0, hl⟩
      omega
  obtain ⟨e4, hpl⟩ := he
  obtain ⟨e3, s3⟩ := rd_good (S := partS 32 bs) (zero := zb32) (st := (stepD bs 3 (headD bs)).2) partS_ends e4
  obtain ⟨e2, s2⟩ := rd_good (S := partS 32 bs) (zero := zb32) (st := (stepD bs 2 (headD bs)).2) partS_ends e3
  obtain ⟨e1, s1⟩ := rd_good (S := partS 32 bs) (zero := zb32) (st := (stepD bs 1 (headD bs)).2) partS_ends e2
  obtain ⟨e0, s0⟩ := rd_good (S := partS 32 bs) (zero := zb32) (st := (headD bs).2) partS_ends e1
  obtain ⟨f2, t2⟩ := rd_good (S := numS bs) (zero := 0) (st := (rd (numS bs) 0 (rd (bytesS bs 32) [] ⟨0, 0, 0⟩).2).2) numS_ends e0
  obtain ⟨f1, t1⟩ := rd_good (S := numS bs) (zero := 0) (st := (rd (bytesS bs 32) [] ⟨0, 0, 0⟩).2) numS_ends f2
  obtain ⟨f0, t0⟩ := rd_good (S := bytesS bs 32) (zero := []) (st := ⟨0, 0, 0⟩) bytesS_ends f1
  have b0 := (bytesS_form t0).2.1
  have b1 := numS_form t1
  have b2 := numS_form t2
  have c0 := (partS_form s0).2.1
  have c1 := (partS_form s1).2.1
  have c2 := (partS_form s2).2.1
  have c3 := (partS_form s3).2.1
  have hend : bs.drop (rd (partS 32 bs) zb32 (stepD bs 3 (headD bs)).2).2.pl = [] := List.drop_eq_nil_of_le (by
    have : (rd (partS 32 bs) zb32 (stepD bs 3 (headD bs)).2).2.pl = bs.length := hpl
    omega)
  have hall : bs.drop 0 = encS (stepD bs 4 (headD bs)).1 := by
    rw [b0, b1, b2]
    show _ ++ (_ ++ (_ ++ (_ ++ bs.drop (headD bs).2.pl))) = _
    rw [c0]
    show _ ++ (_ ++ (_ ++ (_ ++ (_ ++ bs.drop (stepD bs 1 (headD bs)).2.pl)))) = _
    rw [c1]
    show _ ++ (_ ++ (_ ++ (_ ++ (_ ++ (_ ++ bs.drop (stepD bs 2 (headD bs)).2.pl))))) = _
    rw [c2]
    show _ ++ (_ ++ (_ ++ (_ ++ (_ ++ (_ ++ (_ ++ bs.drop (stepD bs 3 (headD bs)).2.pl)))))) = _
    rw [c3, hend, List.append_nil]
    unfold encS
    simp only [List.append_assoc]
    rfl
  exact hall.symm
end Go.Proofs.Ytcapkoclbmaahaa.A

/- Contracts: bytes side by side, copies, picks; the law HeaderOne. -/
namespace Go.Proofs.Ytcapkoclbmaahaa.A
open Go Go.Vm
set_option maxRecDepth 10000
set_option linter.unusedVariables false

theorem SameBytes_ok {h : Heap} {v w : Value} {a b : List UInt8} (hv : Rd h 1 v (bcells a) a.length) (hw : Rd h 1 w (bcells b) b.length) :
    Runs Try.prog T0 (.fn fn_landfallkit_SameBytes) [v, w] h (fun r h' => r = .bool (decide (a = b)) ∧ h' = h) (fun _ _ => False) := by
  refine landfallkit_SameBytes_runs ?_
  repeat (first | refine O.how (XOp.addI (by omega)) ?_ | refine O.how (XOp.subI (by omega)) ?_ | refine O.how (XOp.convI (by omega)) ?_ | refine O.how (XOp.convU64 (by omega)) ?_ | refine O.how (XOp.convU8 (by omega)) ?_ | refine O.one ?_ | refine O.nil ?_ | refine C.next ?_ | refine RunC.seq ?_ | refine RunC.region ?_ | refine RunC.block ?_ | refine RunC.skip ?_ | refine RunC.exit ?_ | refine RunC.ret ?_ | refine RunC.regionD ?_ | refine D.how (XOp.addI (by omega)) rfl ?_ | refine D.how (XOp.subI (by omega)) rfl ?_ | refine D.how (XOp.convI (by omega)) rfl ?_ | refine D.one rfl ?_ | refine D.nil ?_ | refine O.one0 ?_ | refine D.one0 rfl ?_ | refine D.one0s ?_ | refine C.nextB ?_ | refine C.exit2 ?_ | refine C.exitB ?_ | refine C.retB ?_ | refine C.ret2 ?_ | refine loopQ.exit ?_ | refine loopQ.ret ?_ | refine C.exitN (by decide) ?_ | refine O.oneT ?_ | refine O.skT ?_ | refine O.skF ?_ | refine O.skU ?_ | refine D.oneT rfl ?_ | refine D.skT rfl ?_ | refine D.skF rfl ?_ | refine D.skU rfl ?_ | refine C.ifT ?_ | refine C.ifF ?_ | refine B.ret ?_ | refine B.deferred ?_ | refine B.deferredP ?_ | refine O.defer0 ?_ | refine B.end ?_ | refine O.panic ?_ | refine C.pan2 ?_ | refine C.panB ?_ | refine loopQ.panic ?_ | refine B.panic ?_ | refine O.how (XOp.mkIndexArr (by omega)) ?_ | refine O.how (XOp.mkIndexSl (by omega)) ?_ | refine D.how (XOp.mkIndexArr (by omega)) rfl ?_ | refine D.how (XOp.mkIndexSl (by omega)) rfl ?_)
  refine O.how (XOp.mkStr hv) ?_
  repeat (first | refine O.how (XOp.addI (by omega)) ?_ | refine O.how (XOp.subI (by omega)) ?_ | refine O.how (XOp.convI (by omega)) ?_ | refine O.how (XOp.convU64 (by omega)) ?_ | refine O.how (XOp.convU8 (by omega)) ?_ | refine O.one ?_ | refine O.nil ?_ | refine C.next ?_ | refine RunC.seq ?_ | refine RunC.region ?_ | refine RunC.block ?_ | refine RunC.skip ?_ | refine RunC.exit ?_ | refine RunC.ret ?_ | refine RunC.regionD ?_ | refine D.how (XOp.addI (by omega)) rfl ?_ | refine D.how (XOp.subI (by omega)) rfl ?_ | refine D.how (XOp.convI (by omega)) rfl ?_ | refine D.one rfl ?_ | refine D.nil ?_ | refine O.one0 ?_ | refine D.one0 rfl ?_ | refine D.one0s ?_ | refine C.nextB ?_ | refine C.exit2 ?_ | refine C.exitB ?_ | refine C.retB ?_ | refine C.ret2 ?_ | refine loopQ.exit ?_ | refine loopQ.ret ?_ | refine C.exitN (by decide) ?_ | refine O.oneT ?_ | refine O.skT ?_ | refine O.skF ?_ | refine O.skU ?_ | refine D.oneT rfl ?_ | refine D.skT rfl ?_ | refine D.skF rfl ?_ | refine D.skU rfl ?_ | refine C.ifT ?_ | refine C.ifF ?_ | refine B.ret ?_ | refine B.deferred ?_ | refine B.deferredP ?_ | refine O.defer0 ?_ | refine B.end ?_ | refine O.panic ?_ | refine C.pan2 ?_ | refine C.panB ?_ | refine loopQ.panic ?_ | refine B.panic ?_ | refine O.how (XOp.mkIndexArr (by omega)) ?_ | refine O.how (XOp.mkIndexSl (by omega)) ?_ | refine D.how (XOp.mkIndexArr (by omega)) rfl ?_ | refine D.how (XOp.mkIndexSl (by omega)) rfl ?_)
  refine O.how (XOp.mkStr hw) ?_
  repeat (first | refine O.how (XOp.addI (by omega)) ?_ | refine O.how (XOp.subI (by omega)) ?_ | refine O.how (XOp.convI (by omega)) ?_ | refine O.how (XOp.convU64 (by omega)) ?_ | refine O.how (XOp.convU8 (by omega)) ?_ | refine O.one ?_ | refine O.nil ?_ | refine C.next ?_ | refine RunC.seq ?_ | refine RunC.region ?_ | refine RunC.block ?_ | refine RunC.skip ?_ | refine RunC.exit ?_ | refine RunC.ret ?_ | refine RunC.regionD ?_ | refine D.how (XOp.addI (by omega)) rfl ?_ | refine D.how (XOp.subI (by omega)) rfl ?_ | refine D.how (XOp.convI (by omega)) rfl ?_ | refine D.one rfl ?_ | refine D.nil ?_ | refine O.one0 ?_ | refine D.one0 rfl ?_ | refine D.one0s ?_ | refine C.nextB ?_ | refine C.exit2 ?_ | refine C.exitB ?_ | refine C.retB ?_ | refine C.ret2 ?_ | refine loopQ.exit ?_ | refine loopQ.ret ?_ | refine C.exitN (by decide) ?_ | refine O.oneT ?_ | refine O.skT ?_ | refine O.skF ?_ | refine O.skU ?_ | refine D.oneT rfl ?_ | refine D.skT rfl ?_ | refine D.skF rfl ?_ | refine D.skU rfl ?_ | refine C.ifT ?_ | refine C.ifF ?_ | refine B.ret ?_ | refine B.deferred ?_ | refine B.deferredP ?_ | refine O.defer0 ?_ | refine B.end ?_ | refine O.panic ?_ | refine C.pan2 ?_ | refine C.panB ?_ | refine loopQ.panic ?_ | refine B.panic ?_ | refine O.how (XOp.mkIndexArr (by omega)) ?_ | refine O.how (XOp.mkIndexSl (by omega)) ?_ | refine D.how (XOp.mkIndexArr (by omega)) rfl ?_ | refine D.how (XOp.mkIndexSl (by omega)) rfl ?_)
  refine ⟨?_, rfl⟩
  congr 1
  rw [ByteArray.toList_eq, ByteArray.toList_eq]
  show (a == b) = decide (a = b)
  by_cases e : a = b
  · subst e; simp
  · simp [e]

theorem fits_bytes {h : Heap} {m : Nat} {te : TypeId} {c : List Value} {len : Nat} (hu : Try.prog.underlying te = some (.int .u8)) (hs : Try.prog.cellsOf te = 1) (hl : c.length = len * Try.prog.cellsOf te) (hall : ∀ i, i < len → Fits Try.prog h (m + 1) te ((c.drop (i * Try.prog.cellsOf te)).take (Try.prog.cellsOf te))) : ∃ bs : List UInt8, c = bcells bs ∧ bs.length = len := by
  rw [hs, Nat.mul_one] at hl
  induction c generalizing len with
  | nil => exact ⟨[], rfl, by simpa using hl⟩
  | cons v c ih =>
    cases len with
    | zero => simp at hl
    | succ len =>
      have h0 := hall 0 (by omega)
      rw [hs] at h0
      unfold Fits at h0
      rw [hu] at h0
      simp only [Nat.zero_mul, List.drop_zero, List.take_succ_cons, List.take_zero] at h0
      obtain ⟨x, hx, hwf⟩ := h0
      injection hx with hx _
      obtain ⟨bs, rfl, hb⟩ := ih (len := len) (by simpa using hl) fun i hi => by
        have := hall (i + 1) (by omega)
        rw [hs] at this ⊢
        simpa using this
      have hr : 0 ≤ x ∧ x ≤ 255 := by
        simp [Lit.wf, IntKind.min, IntKind.max, IntKind.signed, IntKind.bits] at hwf
        omega
      refine ⟨UInt8.ofNat x.toNat :: bs, ?_, by simp [hb]⟩
      rw [hx]
      show Value.int .u8 x :: bcells bs = Value.int .u8 ((UInt8.ofNat x.toNat).toNat : Nat) :: bcells bs
      rw [u8nat (by omega)]
      congr 2
      omega

/-- a slice of bytes that was handed in -/
theorem fits_slice {h : Heap} {m : Nat} {t te : TypeId} {v : Value} (ht : Try.prog.underlying t = some (.slice te)) (hu : Try.prog.underlying te = some (.int .u8)) (hs : Try.prog.cellsOf te = 1) (hv : FitsV Try.prog h (m + 2) t v) : ∃ bs : List UInt8, Rd h 1 v (bcells bs) bs.length := by
  unfold FitsV at hv
  rw [ht] at hv
  unfold Fits at hv
  rw [ht] at hv
  rcases hv with hv | ⟨b, len, cap, c, hv, hb, hlc, hcap, hro, hl, hall⟩
  · injection hv with hv
    subst hv
    exact ⟨[], Rd.nil⟩
  · injection hv with hv
    subst hv
    obtain ⟨bs, rfl, hbl⟩ := fits_bytes hu hs hl hall
    refine ⟨bs, _, _, by rw [hbl], by simp [bcells], fun hn => ⟨b, 0, none, rfl, hb, ?_⟩⟩
    rw [cellsAt_of (c := bcells bs) (by rw [hro (by omega)]; rfl) (by simp [bcells]), List.drop_zero, List.take_of_length_le (by simp [bcells])]

theorem decS_ok (bs : List UInt8) : (decS bs).1.ok := by
  rw [decS_eq]
  split
  · exact stepD_ok ⟨rfl, rfl, rfl, rfl⟩ 4
  · exact zeroHd_ok

theorem HeaderOne_true {h : Heap} {v : Value} {bs : List UInt8} (hv : Rd h 1 v (bcells bs) bs.length) : Runs Try.prog T0 (.fn fn_landfalllaw06_HeaderOne) [v] h (fun r h' => r = .bool true) (fun _ _ => False) := by
  have hv' := hv
  obtain ⟨a0, cap0, rfl, hl0, _⟩ := hv
  refine landfalllaw06_HeaderOne_runs ?_
  repeat (first | refine O.how (XOp.addI (by omega)) ?_ | refine O.how (XOp.subI (by omega)) ?_ | refine O.how (XOp.convI (by omega)) ?_ | refine O.how (XOp.convU64 (by omega)) ?_ | refine O.how (XOp.convU8 (by omega)) ?_ | refine O.one ?_ | refine O.nil ?_ | refine C.next ?_ | refine RunC.seq ?_ | refine RunC.region ?_ | refine RunC.block ?_ | refine RunC.skip ?_ | refine RunC.exit ?_ | refine RunC.ret ?_ | refine RunC.regionD ?_ | refine D.how (XOp.addI (by omega)) rfl ?_ | refine D.how (XOp.subI (by omega)) rfl ?_ | refine D.how (XOp.convI (by omega)) rfl ?_ | refine D.one rfl ?_ | refine D.nil ?_ | refine O.one0 ?_ | refine D.one0 rfl ?_ | refine D.one0s ?_ | refine C.nextB ?_ | refine C.exit2 ?_ | refine C.exitB ?_ | refine C.retB ?_ | refine C.ret2 ?_ | refine loopQ.exit ?_ | refine loopQ.ret ?_ | refine C.exitN (by decide) ?_ | refine O.oneT ?_ | refine O.skT ?_ | refine O.skF ?_ | refine O.skU ?_ | refine D.oneT rfl ?_ | refine D.skT rfl ?_ | refine D.skF rfl ?_ | refine D.skU rfl ?_ | refine C.ifT ?_ | refine C.ifF ?_ | refine B.ret ?_ | refine B.deferred ?_ | refine B.deferredP ?_ | refine O.defer0 ?_ | refine B.end ?_ | refine O.panic ?_ | refine C.pan2 ?_ | refine C.panB ?_ | refine loopQ.panic ?_ | refine B.panic ?_ | refine O.how (XOp.mkIndexArr (by omega)) ?_ | refine O.how (XOp.mkIndexSl (by omega)) ?_ | refine D.how (XOp.mkIndexArr (by omega)) rfl ?_ | refine D.how (XOp.mkIndexSl (by omega)) rfl ?_)
  refine O.call' landfalllaw06_HeaderKnown_known (fun r h1 hr => ?_)
  obtain ⟨rfl, rfl⟩ := hr
  repeat (first | refine O.how (XOp.addI (by omega)) ?_ | refine O.how (XOp.subI (by omega)) ?_ | refine O.how (XOp.convI (by omega)) ?_ | refine O.how (XOp.convU64 (by omega)) ?_ | refine O.how (XOp.convU8 (by omega)) ?_ | refine O.one ?_ | refine O.nil ?_ | refine C.next ?_ | refine RunC.seq ?_ | refine RunC.region ?_ | refine RunC.block ?_ | refine RunC.skip ?_ | refine RunC.exit ?_ | refine RunC.ret ?_ | refine RunC.regionD ?_ | refine D.how (XOp.addI (by omega)) rfl ?_ | refine D.how (XOp.subI (by omega)) rfl ?_ | refine D.how (XOp.convI (by omega)) rfl ?_ | refine D.one rfl ?_ | refine D.nil ?_ | refine O.one0 ?_ | refine D.one0 rfl ?_ | refine D.one0s ?_ | refine C.nextB ?_ | refine C.exit2 ?_ | refine C.exitB ?_ | refine C.retB ?_ | refine C.ret2 ?_ | refine loopQ.exit ?_ | refine loopQ.ret ?_ | refine C.exitN (by decide) ?_ | refine O.oneT ?_ | refine O.skT ?_ | refine O.skF ?_ | refine O.skU ?_ | refine D.oneT rfl ?_ | refine D.skT rfl ?_ | refine D.skF rfl ?_ | refine D.skU rfl ?_ | refine C.ifT ?_ | refine C.ifF ?_ | refine B.ret ?_ | refine B.deferred ?_ | refine B.deferredP ?_ | refine O.defer0 ?_ | refine B.end ?_ | refine O.panic ?_ | refine C.pan2 ?_ | refine C.panB ?_ | refine loopQ.panic ?_ | refine B.panic ?_ | refine O.how (XOp.mkIndexArr (by omega)) ?_ | refine O.how (XOp.mkIndexSl (by omega)) ?_ | refine D.how (XOp.mkIndexArr (by omega)) rfl ?_ | refine D.how (XOp.mkIndexSl (by omega)) rfl ?_)
  refine C.if (fun hlong => ?_) (fun hshort => ?_)
  · repeat (first | refine O.how (XOp.addI (by omega)) ?_ | refine O.how (XOp.subI (by omega)) ?_ | refine O.how (XOp.convI (by omega)) ?_ | refine O.how (XOp.convU64 (by omega)) ?_ | refine O.how (XOp.convU8 (by omega)) ?_ | refine O.one ?_ | refine O.nil ?_ | refine C.next ?_ | refine RunC.seq ?_ | refine RunC.region ?_ | refine RunC.block ?_ | refine RunC.skip ?_ | refine RunC.exit ?_ | refine RunC.ret ?_ | refine RunC.regionD ?_ | refine D.how (XOp.addI (by omega)) rfl ?_ | refine D.how (XOp.subI (by omega)) rfl ?_ | refine D.how (XOp.convI (by omega)) rfl ?_ | refine D.one rfl ?_ | refine D.nil ?_ | refine O.one0 ?_ | refine D.one0 rfl ?_ | refine D.one0s ?_ | refine C.nextB ?_ | refine C.exit2 ?_ | refine C.exitB ?_ | refine C.retB ?_ | refine C.ret2 ?_ | refine loopQ.exit ?_ | refine loopQ.ret ?_ | refine C.exitN (by decide) ?_ | refine O.oneT ?_ | refine O.skT ?_ | refine O.skF ?_ | refine O.skU ?_ | refine D.oneT rfl ?_ | refine D.skT rfl ?_ | refine D.skF rfl ?_ | refine D.skU rfl ?_ | refine C.ifT ?_ | refine C.ifF ?_ | refine B.ret ?_ | refine B.deferred ?_ | refine B.deferredP ?_ | refine O.defer0 ?_ | refine B.end ?_ | refine O.panic ?_ | refine C.pan2 ?_ | refine C.panB ?_ | refine loopQ.panic ?_ | refine B.panic ?_ | refine O.how (XOp.mkIndexArr (by omega)) ?_ | refine O.how (XOp.mkIndexSl (by omega)) ?_ | refine D.how (XOp.mkIndexArr (by omega)) rfl ?_ | refine D.how (XOp.mkIndexSl (by omega)) rfl ?_)
    rfl
  · repeat (first | refine O.how (XOp.addI (by omega)) ?_ | refine O.how (XOp.subI (by omega)) ?_ | refine O.how (XOp.convI (by omega)) ?_ | refine O.how (XOp.convU64 (by omega)) ?_ | refine O.how (XOp.convU8 (by omega)) ?_ | refine O.one ?_ | refine O.nil ?_ | refine C.next ?_ | refine RunC.seq ?_ | refine RunC.region ?_ | refine RunC.block ?_ | refine RunC.skip ?_ | refine RunC.exit ?_ | refine RunC.ret ?_ | refine RunC.regionD ?_ | refine D.how (XOp.addI (by omega)) rfl ?_ | refine D.how (XOp.subI (by omega)) rfl ?_ | refine D.how (XOp.convI (by omega)) rfl ?_ | refine D.one rfl ?_ | refine D.nil ?_ | refine O.one0 ?_ | refine D.one0 rfl ?_ | refine D.one0s ?_ | refine C.nextB ?_ | refine C.exit2 ?_ | refine C.exitB ?_ | refine C.retB ?_ | refine C.ret2 ?_ | refine loopQ.exit ?_ | refine loopQ.ret ?_ | refine C.exitN (by decide) ?_ | refine O.oneT ?_ | refine O.skT ?_ | refine O.skF ?_ | refine O.skU ?_ | refine D.oneT rfl ?_ | refine D.skT rfl ?_ | refine D.skF rfl ?_ | refine D.skU rfl ?_ | refine C.ifT ?_ | refine C.ifF ?_ | refine B.ret ?_ | refine B.deferred ?_ | refine B.deferredP ?_ | refine O.defer0 ?_ | refine B.end ?_ | refine O.panic ?_ | refine C.pan2 ?_ | refine C.panB ?_ | refine loopQ.panic ?_ | refine B.panic ?_ | refine O.how (XOp.mkIndexArr (by omega)) ?_ | refine O.how (XOp.mkIndexSl (by omega)) ?_ | refine D.how (XOp.mkIndexArr (by omega)) rfl ?_ | refine D.how (XOp.mkIndexSl (by omega)) rfl ?_)
    refine O.call' (Decode_ok hv' (by omega)) (fun r h2 hr => ?_)
    obtain ⟨rfl, hf2⟩ := hr
    have hok := decS_ok bs
    have hbad := decS_bad (bs := bs)
    have hgood := decS_good (bs := bs)
    generalize hD : decS bs = D at *
    obtain ⟨X, e, a⟩ := D
    simp only at hok hbad hgood
    haveI := l32 hok.prev
    haveI := l32 hok.vals
    haveI := l32 hok.next
    haveI := l32 hok.app
    repeat (first | refine O.how (XOp.addI (by omega)) ?_ | refine O.how (XOp.subI (by omega)) ?_ | refine O.how (XOp.convI (by omega)) ?_ | refine O.how (XOp.convU64 (by omega)) ?_ | refine O.how (XOp.convU8 (by omega)) ?_ | refine O.one ?_ | refine O.nil ?_ | refine C.next ?_ | refine RunC.seq ?_ | refine RunC.region ?_ | refine RunC.block ?_ | refine RunC.skip ?_ | refine RunC.exit ?_ | refine RunC.ret ?_ | refine RunC.regionD ?_ | refine D.how (XOp.addI (by omega)) rfl ?_ | refine D.how (XOp.subI (by omega)) rfl ?_ | refine D.how (XOp.convI (by omega)) rfl ?_ | refine D.one rfl ?_ | refine D.nil ?_ | refine O.one0 ?_ | refine D.one0 rfl ?_ | refine D.one0s ?_ | refine C.nextB ?_ | refine C.exit2 ?_ | refine C.exitB ?_ | refine C.retB ?_ | refine C.ret2 ?_ | refine loopQ.exit ?_ | refine loopQ.ret ?_ | refine C.exitN (by decide) ?_ | refine O.oneT ?_ | refine O.skT ?_ | refine O.skF ?_ | refine O.skU ?_ | refine D.oneT rfl ?_ | refine D.skT rfl ?_ | refine D.skF rfl ?_ | refine D.skU rfl ?_ | refine C.ifT ?_ | refine C.ifF ?_ | refine B.ret ?_ | refine B.deferred ?_ | refine B.deferredP ?_ | refine O.defer0 ?_ | refine B.end ?_ | refine O.panic ?_ | refine C.pan2 ?_ | refine C.panB ?_ | refine loopQ.panic ?_ | refine B.panic ?_ | refine O.how (XOp.mkIndexArr (by omega)) ?_ | refine O.how (XOp.mkIndexSl (by omega)) ?_ | refine D.how (XOp.mkIndexArr (by omega)) rfl ?_ | refine D.how (XOp.mkIndexSl (by omega)) rfl ?_)
    refine C.ifN (fun he => ?_) (fun he => ?_)
    · obtain ⟨rfl, g1, g2⟩ := hbad he
      repeat (first | refine O.how (XOp.addI (by omega)) ?_ | refine O.how (XOp.subI (by omega)) ?_ | refine O.how (XOp.convI (by omega)) ?_ | refine O.how (XOp.convU64 (by omega)) ?_ | refine O.how (XOp.convU8 (by omega)) ?_ | refine O.one ?_ | refine O.nil ?_ | refine C.next ?_ | refine RunC.seq ?_ | refine RunC.region ?_ | refine RunC.block ?_ | refine RunC.skip ?_ | refine RunC.exit ?_ | refine RunC.ret ?_ | refine RunC.regionD ?_ | refine D.how (XOp.addI (by omega)) rfl ?_ | refine D.how (XOp.subI (by omega)) rfl ?_ | refine D.how (XOp.convI (by omega)) rfl ?_ | refine D.one rfl ?_ | refine D.nil ?_ | refine O.one0 ?_ | refine D.one0 rfl ?_ | refine D.one0s ?_ | refine C.nextB ?_ | refine C.exit2 ?_ | refine C.exitB ?_ | refine C.retB ?_ | refine C.ret2 ?_ | refine loopQ.exit ?_ | refine loopQ.ret ?_ | refine C.exitN (by decide) ?_ | refine O.oneT ?_ | refine O.skT ?_ | refine O.skF ?_ | refine O.skU ?_ | refine D.oneT rfl ?_ | refine D.skT rfl ?_ | refine D.skF rfl ?_ | refine D.skU rfl ?_ | refine C.ifT ?_ | refine C.ifF ?_ | refine B.ret ?_ | refine B.deferred ?_ | refine B.deferredP ?_ | refine O.defer0 ?_ | refine B.end ?_ | refine O.panic ?_ | refine C.pan2 ?_ | refine C.panB ?_ | refine loopQ.panic ?_ | refine B.panic ?_ | refine O.how (XOp.mkIndexArr (by omega)) ?_ | refine O.how (XOp.mkIndexSl (by omega)) ?_ | refine D.how (XOp.mkIndexArr (by omega)) rfl ?_ | refine D.how (XOp.mkIndexSl (by omega)) rfl ?_)
      refine O.dec (fun _ => ?_) (fun h => absurd g1 h)
      repeat (first | refine O.how (XOp.addI (by omega)) ?_ | refine O.how (XOp.subI (by omega)) ?_ | refine O.how (XOp.convI (by omega)) ?_ | refine O.how (XOp.convU64 (by omega)) ?_ | refine O.how (XOp.convU8 (by omega)) ?_ | refine O.one ?_ | refine O.nil ?_ | refine C.next ?_ | refine RunC.seq ?_ | refine RunC.region ?_ | refine RunC.block ?_ | refine RunC.skip ?_ | refine RunC.exit ?_ | refine RunC.ret ?_ | refine RunC.regionD ?_ | refine D.how (XOp.addI (by omega)) rfl ?_ | refine D.how (XOp.subI (by omega)) rfl ?_ | refine D.how (XOp.convI (by omega)) rfl ?_ | refine D.one rfl ?_ | refine D.nil ?_ | refine O.one0 ?_ | refine D.one0 rfl ?_ | refine D.one0s ?_ | refine C.nextB ?_ | refine C.exit2 ?_ | refine C.exitB ?_ | refine C.retB ?_ | refine C.ret2 ?_ | refine loopQ.exit ?_ | refine loopQ.ret ?_ | refine C.exitN (by decide) ?_ | refine O.oneT ?_ | refine O.skT ?_ | refine O.skF ?_ | refine O.skU ?_ | refine D.oneT rfl ?_ | refine D.skT rfl ?_ | refine D.skF rfl ?_ | refine D.skU rfl ?_ | refine C.ifT ?_ | refine C.ifF ?_ | refine B.ret ?_ | refine B.deferred ?_ | refine B.deferredP ?_ | refine O.defer0 ?_ | refine B.end ?_ | refine O.panic ?_ | refine C.pan2 ?_ | refine C.panB ?_ | refine loopQ.panic ?_ | refine B.panic ?_ | refine O.how (XOp.mkIndexArr (by omega)) ?_ | refine O.how (XOp.mkIndexSl (by omega)) ?_ | refine D.how (XOp.mkIndexArr (by omega)) rfl ?_ | refine D.how (XOp.mkIndexSl (by omega)) rfl ?_)
      refine O.dec (fun _ => ?_) (fun h => absurd g2 h)
      repeat (first | refine O.how (XOp.addI (by omega)) ?_ | refine O.how (XOp.subI (by omega)) ?_ | refine O.how (XOp.convI (by omega)) ?_ | refine O.how (XOp.convU64 (by omega)) ?_ | refine O.how (XOp.convU8 (by omega)) ?_ | refine O.one ?_ | refine O.nil ?_ | refine C.next ?_ | refine RunC.seq ?_ | refine RunC.region ?_ | refine RunC.block ?_ | refine RunC.skip ?_ | refine RunC.exit ?_ | refine RunC.ret ?_ | refine RunC.regionD ?_ | refine D.how (XOp.addI (by omega)) rfl ?_ | refine D.how (XOp.subI (by omega)) rfl ?_ | refine D.how (XOp.convI (by omega)) rfl ?_ | refine D.one rfl ?_ | refine D.nil ?_ | refine O.one0 ?_ | refine D.one0 rfl ?_ | refine D.one0s ?_ | refine C.nextB ?_ | refine C.exit2 ?_ | refine C.exitB ?_ | refine C.retB ?_ | refine C.ret2 ?_ | refine loopQ.exit ?_ | refine loopQ.ret ?_ | refine C.exitN (by decide) ?_ | refine O.oneT ?_ | refine O.skT ?_ | refine O.skF ?_ | refine O.skU ?_ | refine D.oneT rfl ?_ | refine D.skT rfl ?_ | refine D.skF rfl ?_ | refine D.skU rfl ?_ | refine C.ifT ?_ | refine C.ifF ?_ | refine B.ret ?_ | refine B.deferred ?_ | refine B.deferredP ?_ | refine O.defer0 ?_ | refine B.end ?_ | refine O.panic ?_ | refine C.pan2 ?_ | refine C.panB ?_ | refine loopQ.panic ?_ | refine B.panic ?_ | refine O.how (XOp.mkIndexArr (by omega)) ?_ | refine O.how (XOp.mkIndexSl (by omega)) ?_ | refine D.how (XOp.mkIndexArr (by omega)) rfl ?_ | refine D.how (XOp.mkIndexSl (by omega)) rfl ?_)
      exact congrArg Value.bool (same_self _)
    · obtain ⟨g1, g2, g3⟩ := hgood he
      repeat (first | refine O.how (XOp.addI (by omega)) ?_ | refine O.how (XOp.subI (by omega)) ?_ | refine O.how (XOp.convI (by omega)) ?_ | refine O.how (XOp.convU64 (by omega)) ?_ | refine O.how (XOp.convU8 (by omega)) ?_ | refine O.one ?_ | refine O.nil ?_ | refine C.next ?_ | refine RunC.seq ?_ | refine RunC.region ?_ | refine RunC.block ?_ | refine RunC.skip ?_ | refine RunC.exit ?_ | refine RunC.ret ?_ | refine RunC.regionD ?_ | refine D.how (XOp.addI (by omega)) rfl ?_ | refine D.how (XOp.subI (by omega)) rfl ?_ | refine D.how (XOp.convI (by omega)) rfl ?_ | refine D.one rfl ?_ | refine D.nil ?_ | refine O.one0 ?_ | refine D.one0 rfl ?_ | refine D.one0s ?_ | refine C.nextB ?_ | refine C.exit2 ?_ | refine C.exitB ?_ | refine C.retB ?_ | refine C.ret2 ?_ | refine loopQ.exit ?_ | refine loopQ.ret ?_ | refine C.exitN (by decide) ?_ | refine O.oneT ?_ | refine O.skT ?_ | refine O.skF ?_ | refine O.skU ?_ | refine D.oneT rfl ?_ | refine D.skT rfl ?_ | refine D.skF rfl ?_ | refine D.skU rfl ?_ | refine C.ifT ?_ | refine C.ifF ?_ | refine B.ret ?_ | refine B.deferred ?_ | refine B.deferredP ?_ | refine O.defer0 ?_ | refine B.end ?_ | refine O.panic ?_ | refine C.pan2 ?_ | refine C.panB ?_ | refine loopQ.panic ?_ | refine B.panic ?_ | refine O.how (XOp.mkIndexArr (by omega)) ?_ | refine O.how (XOp.mkIndexSl (by omega)) ?_ | refine D.how (XOp.mkIndexArr (by omega)) rfl ?_ | refine D.how (XOp.mkIndexSl (by omega)) rfl ?_)
      refine O.call' (Encode_ok hok) (fun r h3 hr => ?_)
      obtain ⟨v3, rfl, ho, hnew, hf3⟩ := hr
      rw [if_pos g1, g2] at ho
      rw [g1]
      repeat (first | refine O.how (XOp.addI (by omega)) ?_ | refine O.how (XOp.subI (by omega)) ?_ | refine O.how (XOp.convI (by omega)) ?_ | refine O.how (XOp.convU64 (by omega)) ?_ | refine O.how (XOp.convU8 (by omega)) ?_ | refine O.one ?_ | refine O.nil ?_ | refine C.next ?_ | refine RunC.seq ?_ | refine RunC.region ?_ | refine RunC.block ?_ | refine RunC.skip ?_ | refine RunC.exit ?_ | refine RunC.ret ?_ | refine RunC.regionD ?_ | refine D.how (XOp.addI (by omega)) rfl ?_ | refine D.how (XOp.subI (by omega)) rfl ?_ | refine D.how (XOp.convI (by omega)) rfl ?_ | refine D.one rfl ?_ | refine D.nil ?_ | refine O.one0 ?_ | refine D.one0 rfl ?_ | refine D.one0s ?_ | refine C.nextB ?_ | refine C.exit2 ?_ | refine C.exitB ?_ | refine C.retB ?_ | refine C.ret2 ?_ | refine loopQ.exit ?_ | refine loopQ.ret ?_ | refine C.exitN (by decide) ?_ | refine O.oneT ?_ | refine O.skT ?_ | refine O.skF ?_ | refine O.skU ?_ | refine D.oneT rfl ?_ | refine D.skT rfl ?_ | refine D.skF rfl ?_ | refine D.skU rfl ?_ | refine C.ifT ?_ | refine C.ifF ?_ | refine B.ret ?_ | refine B.deferred ?_ | refine B.deferredP ?_ | refine O.defer0 ?_ | refine B.end ?_ | refine O.panic ?_ | refine C.pan2 ?_ | refine C.panB ?_ | refine loopQ.panic ?_ | refine B.panic ?_ | refine O.how (XOp.mkIndexArr (by omega)) ?_ | refine O.how (XOp.mkIndexSl (by omega)) ?_ | refine D.how (XOp.mkIndexArr (by omega)) rfl ?_ | refine D.how (XOp.mkIndexSl (by omega)) rfl ?_)
      have hf23 : Fr (fun _ => False) h2 h3 := Fr.trans (S := fun _ => False) (Fr.set (Fr.set Fr.refl.push.push fun hlt => absurd hlt (by omega)) fun hlt => absurd hlt (by simp)) hf3 fun _ _ h => h
      refine O.callT (SameBytes_ok (a := bs) (b := bs) ((hv'.keep hf2 fun _ _ => id).keep hf23 fun _ _ => id) ho.rd) (fun r h4 hr => ?_)
      obtain ⟨rfl, rfl⟩ := hr
      repeat (first | refine O.how (XOp.addI (by omega)) ?_ | refine O.how (XOp.subI (by omega)) ?_ | refine O.how (XOp.convI (by omega)) ?_ | refine O.how (XOp.convU64 (by omega)) ?_ | refine O.how (XOp.convU8 (by omega)) ?_ | refine O.one ?_ | refine O.nil ?_ | refine C.next ?_ | refine RunC.seq ?_ | refine RunC.region ?_ | refine RunC.block ?_ | refine RunC.skip ?_ | refine RunC.exit ?_ | refine RunC.ret ?_ | refine RunC.regionD ?_ | refine D.how (XOp.addI (by omega)) rfl ?_ | refine D.how (XOp.subI (by omega)) rfl ?_ | refine D.how (XOp.convI (by omega)) rfl ?_ | refine D.one rfl ?_ | refine D.nil ?_ | refine O.one0 ?_ | refine D.one0 rfl ?_ | refine D.one0s ?_ | refine C.nextB ?_ | refine C.exit2 ?_ | refine C.exitB ?_ | refine C.retB ?_ | refine C.ret2 ?_ | refine loopQ.exit ?_ | refine loopQ.ret ?_ | refine C.exitN (by decide) ?_ | refine O.oneT ?_ | refine O.skT ?_ | refine O.skF ?_ | refine O.skU ?_ | refine D.oneT rfl ?_ | refine D.skT rfl ?_ | refine D.skF rfl ?_ | refine D.skU rfl ?_ | refine C.ifT ?_ | refine C.ifF ?_ | refine B.ret ?_ | refine B.deferred ?_ | refine B.deferredP ?_ | refine O.defer0 ?_ | refine B.end ?_ | refine O.panic ?_ | refine C.pan2 ?_ | refine C.panB ?_ | refine loopQ.panic ?_ | refine B.panic ?_ | refine O.how (XOp.mkIndexArr (by omega)) ?_ | refine O.how (XOp.mkIndexSl (by omega)) ?_ | refine D.how (XOp.mkIndexArr (by omega)) rfl ?_ | refine D.how (XOp.mkIndexSl (by omega)) rfl ?_)
      simp
end Go.Proofs.Ytcapkoclbmaahaa.A

/- What the forms say of headers: whatever is written is read as it was; cut off, or with a byte more, it is not. -/
namespace Go.Proofs.Ytcapkoclbmaahaa.A
open Go Go.Vm
set_option maxRecDepth 10000
set_option linter.unusedVariables false

/-- the places behind the parts of a header's bytes -/
structure Places (bs : List UInt8) (x : Hd) (p0 p1 p2 p3 p4 p5 p6 : Nat) : Prop where
  r0 : bytesS bs 32 0 = .ok (x.chain, p0)
  r1 : numS bs p0 = .ok (x.height.toNat, p1)
  r2 : numS bs p1 = .ok (x.time.toNat, p2)
  r3 : partS 32 bs p2 = .ok (x.prev, p3)
  r4 : partS 32 bs p3 = .ok (x.vals, p4)
  r5 : partS 32 bs p4 = .ok (x.next, p5)
  r6 : partS 32 bs p5 = .ok (x.app, p6)

theorem places {x : Hd} (hx : x.ok) (hc : checkS x = 0) (m : List UInt8) : ∃ p0 p1 p2 p3 p4 p5, Places (encS x ++ m) x p0 p1 p2 p3 p4 p5 (encS x).length := by
  obtain ⟨c1, c2, c3⟩ := checkS_ok hc
  obtain ⟨d1, d2, d3⟩ := nameS_len c1
  refine ⟨(numF x.chain.length ++ x.chain).length, (numF x.chain.length ++ x.chain ++ numF x.height.toNat).length, (numF x.chain.length ++ x.chain ++ numF x.height.toNat ++ numF x.time.toNat).length,
    (numF x.chain.length ++ x.chain ++ numF x.height.toNat ++ numF x.time.toNat ++ x.prev).length, (numF x.chain.length ++ x.chain ++ numF x.height.toNat ++ numF x.time.toNat ++ x.prev ++ x.vals).length,
    (numF x.chain.length ++ x.chain ++ numF x.height.toNat ++ numF x.time.toNat ++ x.prev ++ x.vals ++ x.next).length, ?_, ?_, ?_, ?_, ?_, ?_, ?_⟩
  · have := bytesS_back (a := []) (b := numF x.height.toNat ++ numF x.time.toNat ++ x.prev ++ x.vals ++ x.next ++ x.app ++ m) (l := x.chain) (most := 32) d2 (by omega)
    simp only [encS, List.append_assoc, List.nil_append, List.length_nil, Nat.zero_add, List.length_append] at this ⊢
    exact this
  · have := numS_back (a := numF x.chain.length ++ x.chain) (b := numF x.time.toNat ++ x.prev ++ x.vals ++ x.next ++ x.app ++ m) (n := x.height.toNat) (by omega)
    simp only [encS, List.append_assoc, List.length_append, Nat.add_assoc] at this ⊢
    exact this
  · have := numS_back (a := numF x.chain.length ++ x.chain ++ numF x.height.toNat) (b := x.prev ++ x.vals ++ x.next ++ x.app ++ m) (n := x.time.toNat) (by omega)
    simp only [encS, List.append_assoc, List.length_append, Nat.add_assoc] at this ⊢
    exact this
  · have := partS_back (a := numF x.chain.length ++ x.chain ++ numF x.height.toNat ++ numF x.time.toNat) (b := x.vals ++ x.next ++ x.app ++ m) (l := x.prev) hx.prev
    simp only [encS, List.append_assoc, List.length_append, Nat.add_assoc, hx.prev] at this ⊢
    exact this
  · have := partS_back (a := numF x.chain.length ++ x.chain ++ numF x.height.toNat ++ numF x.time.toNat ++ x.prev) (b := x.next ++ x.app ++ m) (l := x.vals) hx.vals
    simp only [encS, List.append_assoc, List.length_append, Nat.add_assoc, hx.vals] at this ⊢
    exact this
  · have := partS_back (a := numF x.chain.length ++ x.chain ++ numF x.height.toNat ++ numF x.time.toNat ++ x.prev ++ x.vals) (b := x.app ++ m) (l := x.next) hx.next
    simp only [encS, List.append_assoc, List.length_append, Nat.add_assoc, hx.next] at this ⊢
    exact this
  · have := partS_back (a := numF x.chain.length ++ x.chain ++ numF x.height.toNat ++ numF x.time.toNat ++ x.prev ++ x.vals ++ x.next) (b := m) (l := x.app) hx.app
    simp only [encS, List.append_assoc, List.length_append, Nat.add_assoc, hx.app] at this ⊢
    exact this

theorem Places.read {bs : List UInt8} {x : Hd} {p0 p1 p2 p3 p4 p5 p6 : Nat} (hp : Places bs x p0 p1 p2 p3 p4 p5 p6) (h1 : 0 ≤ x.height) (h2 : 0 ≤ x.time) : stepD bs 4 (headD bs) = (x, ⟨p6, 0, 0⟩) := by
  have e0 : rd (bytesS bs 32) [] ⟨0, 0, 0⟩ = (x.chain, ⟨p0, 0, 0⟩) := rd_step hp.r0
  have e1 : rd (numS bs) 0 ⟨p0, 0, 0⟩ = (x.height.toNat, ⟨p1, 0, 0⟩) := rd_step hp.r1
  have e2 : rd (numS bs) 0 ⟨p1, 0, 0⟩ = (x.time.toNat, ⟨p2, 0, 0⟩) := rd_step hp.r2
  have e3 : rd (partS 32 bs) zb32 ⟨p2, 0, 0⟩ = (x.prev, ⟨p3, 0, 0⟩) := rd_step hp.r3
  have e4 : rd (partS 32 bs) zb32 ⟨p3, 0, 0⟩ = (x.vals, ⟨p4, 0, 0⟩) := rd_step hp.r4
  have e5 : rd (partS 32 bs) zb32 ⟨p4, 0, 0⟩ = (x.next, ⟨p5, 0, 0⟩) := rd_step hp.r5
  have e6 : rd (partS 32 bs) zb32 ⟨p5, 0, 0⟩ = (x.app, ⟨p6, 0, 0⟩) := rd_step hp.r6
  have hh : headD bs = (⟨x.chain, x.height, x.time, zb32, zb32, zb32, zb32⟩, ⟨p2, 0, 0⟩) := by
    unfold headD
    simp only [e0, e1, e2]
    rw [Int.toNat_of_nonneg h1, Int.toNat_of_nonneg h2]
  rw [hh]
  simp only [stepD, e3, e4, e5, e6, setH]

theorem decS_back {x : Hd} (hx : x.ok) (hc : checkS x = 0) : decS (encS x) = (x, (0, 0)) := by
  obtain ⟨c1, c2, c3⟩ := checkS_ok hc
  obtain ⟨p0, p1, p2, p3, p4, p5, hp⟩ := places hx hc []
  rw [List.append_nil] at hp
  have hr := hp.read (by omega) (by omega)
  have hf : faultS (encS x) = (0, 0) := by
    unfold faultS endS
    rw [hr, if_neg (by simp)]
  have hg : gaultS (encS x) = (0, 0) := by
    unfold gaultS
    rw [if_pos hf, hr, hc]
  rw [decS_eq, if_pos hg, hr]

theorem decS_more {x : Hd} (hx : x.ok) (hc : checkS x = 0) (b : UInt8) : (decS (encS x ++ [b])).2 = (4, ((encS x).length : Int)) := by
  obtain ⟨c1, c2, c3⟩ := checkS_ok hc
  obtain ⟨p0, p1, p2, p3, p4, p5, hp⟩ := places hx hc [b]
  have hr := hp.read (by omega) (by omega)
  have hf : faultS (encS x ++ [b]) = (4, ((encS x).length : Int)) := by
    unfold faultS endS
    rw [hr, if_pos (by simp)]
  have hg : gaultS (encS x ++ [b]) = (4, ((encS x).length : Int)) := by
    unfold gaultS
    rw [if_neg (by rw [hf]; simp), hf]
  rw [decS_eq, if_neg (by rw [hg]; simp), hg]

/-- a state of a reading that is cut off -/
def CutSt (c pl : Nat) (t : RSt) : Prop := (t.e = 0 ∧ t.pl = pl ∧ pl ≤ c) ∨ t.e = 6
theorem rd_cut {α : Type} {S : Nat → Except Int (α × Nat)} {zero a : α} {c pl pl' : Nat} {t : RSt} (hS : pl ≤ c → S pl = if pl' ≤ c then .ok (a, pl') else .error 6) (ht : CutSt c pl t) : CutSt c pl' (rd S zero t).2 := by
  unfold rd
  rcases ht with ⟨h1, h2, h3⟩ | h
  · rw [if_pos h1, h2, hS h3]
    by_cases h4 : pl' ≤ c
    · rw [if_pos h4]; exact .inl ⟨rfl, rfl, h4⟩
    · rw [if_neg h4]; exact .inr rfl
  · rw [if_neg (by omega)]; exact .inr h

theorem decS_cut {x : Hd} (hx : x.ok) (hc : checkS x = 0) {c : Nat} (hl : c < (encS x).length) : (decS ((encS x).take c)).2.1 = 6 := by
  obtain ⟨p0, p1, p2, p3, p4, p5, hp⟩ := places hx hc []
  rw [List.append_nil] at hp
  have s0 : CutSt c 0 ⟨0, 0, 0⟩ := .inl ⟨rfl, rfl, Nat.zero_le _⟩
  have s1 := rd_cut (zero := []) (fun h => bytesS_cut hp.r0 (Nat.le_of_lt hl) h) s0
  have s2 := rd_cut (zero := 0) (fun h => numS_cut hp.r1 (Nat.le_of_lt hl) h) s1
  have s3 := rd_cut (zero := 0) (fun h => numS_cut hp.r2 (Nat.le_of_lt hl) h) s2
  have s4 := rd_cut (zero := zb32) (fun h => partS_cut hp.r3 (Nat.le_of_lt hl) h) s3
  have s5 := rd_cut (zero := zb32) (fun h => partS_cut hp.r4 (Nat.le_of_lt hl) h) s4
  have s6 := rd_cut (zero := zb32) (fun h => partS_cut hp.r5 (Nat.le_of_lt hl) h) s5
  have s7 : CutSt c (encS x).length (stepD ((encS x).take c) 4 (headD ((encS x).take c))).2 := rd_cut (zero := zb32) (fun h => partS_cut hp.r6 (Nat.le_of_lt hl) h) s6
  have he : (stepD ((encS x).take c) 4 (headD ((encS x).take c))).2.e = 6 := by
    rcases s7 with ⟨_, _, h3⟩ | h
    · omega
    · exact h
  have hf : (faultS ((encS x).take c)).1 = 6 := by
    unfold faultS endS
    rw [if_neg (by rw [he]; simp)]
    exact he
  have hf0 : faultS ((encS x).take c) ≠ (0, 0) := fun h => by rw [h] at hf; simp at hf
  have hg : (gaultS ((encS x).take c)).1 = 6 := by
    unfold gaultS
    rw [if_neg hf0]
    exact hf
  have hg0 : gaultS ((encS x).take c) ≠ (0, 0) := fun h => by rw [h] at hg; simp at hg
  rw [decS_eq, if_neg hg0]
  exact hg
end Go.Proofs.Ytcapkoclbmaahaa.A

/- Contracts: copies, picks; the law HeaderBack. -/
namespace Go.Proofs.Ytcapkoclbmaahaa.A
open Go Go.Vm
set_option maxRecDepth 10000
set_option linter.unusedVariables false

theorem CopyBytes_ok {h : Heap} {v : Value} {l : List UInt8} (hr : Rd h 1 v (bcells l) l.length) (hs : l.length < 1048576) :
    Runs Try.prog T0 (.fn fn_landfallkit_CopyBytes) [v] h (fun r h' => Own h' 1 r (bcells l) l.length ∧ (∀ i, ownedBy r i → h.n ≤ i) ∧ Fr (fun _ => False) h h') (fun _ _ => False) := by
  refine landfallkit_CopyBytes_runs ?_
  repeat (first | refine O.how (XOp.addI (by omega)) ?_ | refine O.how (XOp.subI (by omega)) ?_ | refine O.how (XOp.convI (by omega)) ?_ | refine O.how (XOp.convU64 (by omega)) ?_ | refine O.how (XOp.convU8 (by omega)) ?_ | refine O.one ?_ | refine O.nil ?_ | refine C.next ?_ | refine RunC.seq ?_ | refine RunC.region ?_ | refine RunC.block ?_ | refine RunC.skip ?_ | refine RunC.exit ?_ | refine RunC.ret ?_ | refine RunC.regionD ?_ | refine D.how (XOp.addI (by omega)) rfl ?_ | refine D.how (XOp.subI (by omega)) rfl ?_ | refine D.how (XOp.convI (by omega)) rfl ?_ | refine D.one rfl ?_ | refine D.nil ?_ | refine O.one0 ?_ | refine D.one0 rfl ?_ | refine D.one0s ?_ | refine C.nextB ?_ | refine C.exit2 ?_ | refine C.exitB ?_ | refine C.retB ?_ | refine C.ret2 ?_ | refine loopQ.exit ?_ | refine loopQ.ret ?_ | refine C.exitN (by decide) ?_ | refine O.oneT ?_ | refine O.skT ?_ | refine O.skF ?_ | refine O.skU ?_ | refine D.oneT rfl ?_ | refine D.skT rfl ?_ | refine D.skF rfl ?_ | refine D.skU rfl ?_ | refine C.ifT ?_ | refine C.ifF ?_ | refine B.ret ?_ | refine B.deferred ?_ | refine B.deferredP ?_ | refine O.defer0 ?_ | refine B.end ?_ | refine O.panic ?_ | refine C.pan2 ?_ | refine C.panB ?_ | refine loopQ.panic ?_ | refine B.panic ?_ | refine O.how (XOp.mkIndexArr (by omega)) ?_ | refine O.how (XOp.mkIndexSl (by omega)) ?_ | refine D.how (XOp.mkIndexArr (by omega)) rfl ?_ | refine D.how (XOp.mkIndexSl (by omega)) rfl ?_)
  have hz : Own (h.push (.cells [] 0)) 1 (.slice (some ⟨h.n, 0, none⟩) 0 0) [] 0 := .lit (by simp) (by rw [Heap.get_push, if_pos rfl])
  refine O.append hz ((hr.keep (S := fun _ => False) Fr.refl.push fun _ _ => id).new [.int .u8 0]) (by rw [bcells_len]; omega) (bcells_one l) (by omega) (by omega) (by omega) (fun v' h' h1 h2 h3 => ?_)
  repeat (first | refine O.how (XOp.addI (by omega)) ?_ | refine O.how (XOp.subI (by omega)) ?_ | refine O.how (XOp.convI (by omega)) ?_ | refine O.how (XOp.convU64 (by omega)) ?_ | refine O.how (XOp.convU8 (by omega)) ?_ | refine O.one ?_ | refine O.nil ?_ | refine C.next ?_ | refine RunC.seq ?_ | refine RunC.region ?_ | refine RunC.block ?_ | refine RunC.skip ?_ | refine RunC.exit ?_ | refine RunC.ret ?_ | refine RunC.regionD ?_ | refine D.how (XOp.addI (by omega)) rfl ?_ | refine D.how (XOp.subI (by omega)) rfl ?_ | refine D.how (XOp.convI (by omega)) rfl ?_ | refine D.one rfl ?_ | refine D.nil ?_ | refine O.one0 ?_ | refine D.one0 rfl ?_ | refine D.one0s ?_ | refine C.nextB ?_ | refine C.exit2 ?_ | refine C.exitB ?_ | refine C.retB ?_ | refine C.ret2 ?_ | refine loopQ.exit ?_ | refine loopQ.ret ?_ | refine C.exitN (by decide) ?_ | refine O.oneT ?_ | refine O.skT ?_ | refine O.skF ?_ | refine O.skU ?_ | refine D.oneT rfl ?_ | refine D.skT rfl ?_ | refine D.skF rfl ?_ | refine D.skU rfl ?_ | refine C.ifT ?_ | refine C.ifF ?_ | refine B.ret ?_ | refine B.deferred ?_ | refine B.deferredP ?_ | refine O.defer0 ?_ | refine B.end ?_ | refine O.panic ?_ | refine C.pan2 ?_ | refine C.panB ?_ | refine loopQ.panic ?_ | refine B.panic ?_ | refine O.how (XOp.mkIndexArr (by omega)) ?_ | refine O.how (XOp.mkIndexSl (by omega)) ?_ | refine D.how (XOp.mkIndexArr (by omega)) rfl ?_ | refine D.how (XOp.mkIndexSl (by omega)) rfl ?_)
  rw [Nat.zero_add, List.nil_append] at h1
  refine ⟨h1, fun i hi => ?_, Fr.trans (S := fun _ => False) Fr.refl.push h2 fun i hi ho => ?_⟩
  · rcases h3 i hi with h4 | h4
    · rw [← h4]; exact Nat.le_refl _
    · simp at h4; omega
  · have : h.n = i := ho
    omega

/-- one of the numbers below another one -/
def pickS (x n : Int) : Int := if n ≤ 0 then 0 else x % n
theorem Pick_ok {h : Heap} {x n : Int} (hn : n ≤ 9223372036854775807) : Runs Try.prog T0 (.fn fn_landfallkit_Pick) [.int .i64 x, .int .i64 n] h (fun r h' => r = .int .i64 (pickS x n) ∧ h' = h) (fun _ _ => False) := by
  refine landfallkit_Pick_runs ?_
  repeat (first | refine O.how (XOp.addI (by omega)) ?_ | refine O.how (XOp.subI (by omega)) ?_ | refine O.how (XOp.convI (by omega)) ?_ | refine O.how (XOp.convU64 (by omega)) ?_ | refine O.how (XOp.convU8 (by omega)) ?_ | refine O.one ?_ | refine O.nil ?_ | refine C.next ?_ | refine RunC.seq ?_ | refine RunC.region ?_ | refine RunC.block ?_ | refine RunC.skip ?_ | refine RunC.exit ?_ | refine RunC.ret ?_ | refine RunC.regionD ?_ | refine D.how (XOp.addI (by omega)) rfl ?_ | refine D.how (XOp.subI (by omega)) rfl ?_ | refine D.how (XOp.convI (by omega)) rfl ?_ | refine D.one rfl ?_ | refine D.nil ?_ | refine O.one0 ?_ | refine D.one0 rfl ?_ | refine D.one0s ?_ | refine C.nextB ?_ | refine C.exit2 ?_ | refine C.exitB ?_ | refine C.retB ?_ | refine C.ret2 ?_ | refine loopQ.exit ?_ | refine loopQ.ret ?_ | refine C.exitN (by decide) ?_ | refine O.oneT ?_ | refine O.skT ?_ | refine O.skF ?_ | refine O.skU ?_ | refine D.oneT rfl ?_ | refine D.skT rfl ?_ | refine D.skF rfl ?_ | refine D.skU rfl ?_ | refine C.ifT ?_ | refine C.ifF ?_ | refine B.ret ?_ | refine B.deferred ?_ | refine B.deferredP ?_ | refine O.defer0 ?_ | refine B.end ?_ | refine O.panic ?_ | refine C.pan2 ?_ | refine C.panB ?_ | refine loopQ.panic ?_ | refine B.panic ?_ | refine O.how (XOp.mkIndexArr (by omega)) ?_ | refine O.how (XOp.mkIndexSl (by omega)) ?_ | refine D.how (XOp.mkIndexArr (by omega)) rfl ?_ | refine D.how (XOp.mkIndexSl (by omega)) rfl ?_)
  unfold pickS
  refine C.if (fun h0 => ?_) (fun h0 => ?_)
  · repeat (first | refine O.how (XOp.addI (by omega)) ?_ | refine O.how (XOp.subI (by omega)) ?_ | refine O.how (XOp.convI (by omega)) ?_ | refine O.how (XOp.convU64 (by omega)) ?_ | refine O.how (XOp.convU8 (by omega)) ?_ | refine O.one ?_ | refine O.nil ?_ | refine C.next ?_ | refine RunC.seq ?_ | refine RunC.region ?_ | refine RunC.block ?_ | refine RunC.skip ?_ | refine RunC.exit ?_ | refine RunC.ret ?_ | refine RunC.regionD ?_ | refine D.how (XOp.addI (by omega)) rfl ?_ | refine D.how (XOp.subI (by omega)) rfl ?_ | refine D.how (XOp.convI (by omega)) rfl ?_ | refine D.one rfl ?_ | refine D.nil ?_ | refine O.one0 ?_ | refine D.one0 rfl ?_ | refine D.one0s ?_ | refine C.nextB ?_ | refine C.exit2 ?_ | refine C.exitB ?_ | refine C.retB ?_ | refine C.ret2 ?_ | refine loopQ.exit ?_ | refine loopQ.ret ?_ | refine C.exitN (by decide) ?_ | refine O.oneT ?_ | refine O.skT ?_ | refine O.skF ?_ | refine O.skU ?_ | refine D.oneT rfl ?_ | refine D.skT rfl ?_ | refine D.skF rfl ?_ | refine D.skU rfl ?_ | refine C.ifT ?_ | refine C.ifF ?_ | refine B.ret ?_ | refine B.deferred ?_ | refine B.deferredP ?_ | refine O.defer0 ?_ | refine B.end ?_ | refine O.panic ?_ | refine C.pan2 ?_ | refine C.panB ?_ | refine loopQ.panic ?_ | refine B.panic ?_ | refine O.how (XOp.mkIndexArr (by omega)) ?_ | refine O.how (XOp.mkIndexSl (by omega)) ?_ | refine D.how (XOp.mkIndexArr (by omega)) rfl ?_ | refine D.how (XOp.mkIndexSl (by omega)) rfl ?_)
    rw [if_pos h0]
    exact ⟨rfl, rfl⟩
  · repeat (first | refine O.how (XOp.addI (by omega)) ?_ | refine O.how (XOp.subI (by omega)) ?_ | refine O.how (XOp.convI (by omega)) ?_ | refine O.how (XOp.convU64 (by omega)) ?_ | refine O.how (XOp.convU8 (by omega)) ?_ | refine O.one ?_ | refine O.nil ?_ | refine C.next ?_ | refine RunC.seq ?_ | refine RunC.region ?_ | refine RunC.block ?_ | refine RunC.skip ?_ | refine RunC.exit ?_ | refine RunC.ret ?_ | refine RunC.regionD ?_ | refine D.how (XOp.addI (by omega)) rfl ?_ | refine D.how (XOp.subI (by omega)) rfl ?_ | refine D.how (XOp.convI (by omega)) rfl ?_ | refine D.one rfl ?_ | refine D.nil ?_ | refine O.one0 ?_ | refine D.one0 rfl ?_ | refine D.one0s ?_ | refine C.nextB ?_ | refine C.exit2 ?_ | refine C.exitB ?_ | refine C.retB ?_ | refine C.ret2 ?_ | refine loopQ.exit ?_ | refine loopQ.ret ?_ | refine C.exitN (by decide) ?_ | refine O.oneT ?_ | refine O.skT ?_ | refine O.skF ?_ | refine O.skU ?_ | refine D.oneT rfl ?_ | refine D.skT rfl ?_ | refine D.skF rfl ?_ | refine D.skU rfl ?_ | refine C.ifT ?_ | refine C.ifF ?_ | refine B.ret ?_ | refine B.deferred ?_ | refine B.deferredP ?_ | refine O.defer0 ?_ | refine B.end ?_ | refine O.panic ?_ | refine C.pan2 ?_ | refine C.panB ?_ | refine loopQ.panic ?_ | refine B.panic ?_ | refine O.how (XOp.mkIndexArr (by omega)) ?_ | refine O.how (XOp.mkIndexSl (by omega)) ?_ | refine D.how (XOp.mkIndexArr (by omega)) rfl ?_ | refine D.how (XOp.mkIndexSl (by omega)) rfl ?_)
    refine O.how (XOp.remI (by omega)) ?_
    have h1 := Int.tmod_lt_of_pos x (show 0 < n by omega)
    have h2 : -n < x.tmod n := by
      have := Int.lt_tmod_of_pos x (show 0 < n by omega)
      omega
    have e := Int.tmod_eq_emod (a := x) (b := n)
    have p1 := Int.emod_nonneg x (show n ≠ 0 by omega)
    have p2 := Int.emod_lt_of_pos x (show 0 < n by omega)
    have p3 : (n.natAbs : Int) = n := Int.natAbs_of_nonneg (by omega)
    repeat (first | refine O.how (XOp.addI (by omega)) ?_ | refine O.how (XOp.subI (by omega)) ?_ | refine O.how (XOp.convI (by omega)) ?_ | refine O.how (XOp.convU64 (by omega)) ?_ | refine O.how (XOp.convU8 (by omega)) ?_ | refine O.one ?_ | refine O.nil ?_ | refine C.next ?_ | refine RunC.seq ?_ | refine RunC.region ?_ | refine RunC.block ?_ | refine RunC.skip ?_ | refine RunC.exit ?_ | refine RunC.ret ?_ | refine RunC.regionD ?_ | refine D.how (XOp.addI (by omega)) rfl ?_ | refine D.how (XOp.subI (by omega)) rfl ?_ | refine D.how (XOp.convI (by omega)) rfl ?_ | refine D.one rfl ?_ | refine D.nil ?_ | refine O.one0 ?_ | refine D.one0 rfl ?_ | refine D.one0s ?_ | refine C.nextB ?_ | refine C.exit2 ?_ | refine C.exitB ?_ | refine C.retB ?_ | refine C.ret2 ?_ | refine loopQ.exit ?_ | refine loopQ.ret ?_ | refine C.exitN (by decide) ?_ | refine O.oneT ?_ | refine O.skT ?_ | refine O.skF ?_ | refine O.skU ?_ | refine D.oneT rfl ?_ | refine D.skT rfl ?_ | refine D.skF rfl ?_ | refine D.skU rfl ?_ | refine C.ifT ?_ | refine C.ifF ?_ | refine B.ret ?_ | refine B.deferred ?_ | refine B.deferredP ?_ | refine O.defer0 ?_ | refine B.end ?_ | refine O.panic ?_ | refine C.pan2 ?_ | refine C.panB ?_ | refine loopQ.panic ?_ | refine B.panic ?_ | refine O.how (XOp.mkIndexArr (by omega)) ?_ | refine O.how (XOp.mkIndexSl (by omega)) ?_ | refine D.how (XOp.mkIndexArr (by omega)) rfl ?_ | refine D.how (XOp.mkIndexSl (by omega)) rfl ?_)
    rw [if_neg h0]
    refine C.if (fun h3 => ?_) (fun h3 => ?_)
    · repeat (first | refine O.how (XOp.addI (by omega)) ?_ | refine O.how (XOp.subI (by omega)) ?_ | refine O.how (XOp.convI (by omega)) ?_ | refine O.how (XOp.convU64 (by omega)) ?_ | refine O.how (XOp.convU8 (by omega)) ?_ | refine O.one ?_ | refine O.nil ?_ | refine C.next ?_ | refine RunC.seq ?_ | refine RunC.region ?_ | refine RunC.block ?_ | refine RunC.skip ?_ | refine RunC.exit ?_ | refine RunC.ret ?_ | refine RunC.regionD ?_ | refine D.how (XOp.addI (by omega)) rfl ?_ | refine D.how (XOp.subI (by omega)) rfl ?_ | refine D.how (XOp.convI (by omega)) rfl ?_ | refine D.one rfl ?_ | refine D.nil ?_ | refine O.one0 ?_ | refine D.one0 rfl ?_ | refine D.one0s ?_ | refine C.nextB ?_ | refine C.exit2 ?_ | refine C.exitB ?_ | refine C.retB ?_ | refine C.ret2 ?_ | refine loopQ.exit ?_ | refine loopQ.ret ?_ | refine C.exitN (by decide) ?_ | refine O.oneT ?_ | refine O.skT ?_ | refine O.skF ?_ | refine O.skU ?_ | refine D.oneT rfl ?_ | refine D.skT rfl ?_ | refine D.skF rfl ?_ | refine D.skU rfl ?_ | refine C.ifT ?_ | refine C.ifF ?_ | refine B.ret ?_ | refine B.deferred ?_ | refine B.deferredP ?_ | refine O.defer0 ?_ | refine B.end ?_ | refine O.panic ?_ | refine C.pan2 ?_ | refine C.panB ?_ | refine loopQ.panic ?_ | refine B.panic ?_ | refine O.how (XOp.mkIndexArr (by omega)) ?_ | refine O.how (XOp.mkIndexSl (by omega)) ?_ | refine D.how (XOp.mkIndexArr (by omega)) rfl ?_ | refine D.how (XOp.mkIndexSl (by omega)) rfl ?_)
      refine ⟨?_, rfl⟩
      congr 1
      split at e <;> omega
    · repeat (first | refine O.how (XOp.addI (by omega)) ?_ | refine O.how (XOp.subI (by omega)) ?_ | refine O.how (XOp.convI (by omega)) ?_ | refine O.how (XOp.convU64 (by omega)) ?_ | refine O.how (XOp.convU8 (by omega)) ?_ | refine O.one ?_ | refine O.nil ?_ | refine C.next ?_ | refine RunC.seq ?_ | refine RunC.region ?_ | refine RunC.block ?_ | refine RunC.skip ?_ | refine RunC.exit ?_ | refine RunC.ret ?_ | refine RunC.regionD ?_ | refine D.how (XOp.addI (by omega)) rfl ?_ | refine D.how (XOp.subI (by omega)) rfl ?_ | refine D.how (XOp.convI (by omega)) rfl ?_ | refine D.one rfl ?_ | refine D.nil ?_ | refine O.one0 ?_ | refine D.one0 rfl ?_ | refine D.one0s ?_ | refine C.nextB ?_ | refine C.exit2 ?_ | refine C.exitB ?_ | refine C.retB ?_ | refine C.ret2 ?_ | refine loopQ.exit ?_ | refine loopQ.ret ?_ | refine C.exitN (by decide) ?_ | refine O.oneT ?_ | refine O.skT ?_ | refine O.skF ?_ | refine O.skU ?_ | refine D.oneT rfl ?_ | refine D.skT rfl ?_ | refine D.skF rfl ?_ | refine D.skU rfl ?_ | refine C.ifT ?_ | refine C.ifF ?_ | refine B.ret ?_ | refine B.deferred ?_ | refine B.deferredP ?_ | refine O.defer0 ?_ | refine B.end ?_ | refine O.panic ?_ | refine C.pan2 ?_ | refine C.panB ?_ | refine loopQ.panic ?_ | refine B.panic ?_ | refine O.how (XOp.mkIndexArr (by omega)) ?_ | refine O.how (XOp.mkIndexSl (by omega)) ?_ | refine D.how (XOp.mkIndexArr (by omega)) rfl ?_ | refine D.how (XOp.mkIndexSl (by omega)) rfl ?_)
      refine ⟨?_, rfl⟩
      congr 1
      split at e <;> omega

theorem encS_len {x : Hd} (hx : x.ok) (hc : checkS x = 0) : 1 ≤ (encS x).length ∧ (encS x).length ≤ 200 := by
  obtain ⟨c1, c2, c3⟩ := checkS_ok hc
  obtain ⟨d1, d2, d3⟩ := nameS_len c1
  have l1 := numF_len (n := x.chain.length) (by omega)
  have l2 := numF_len (n := x.height.toNat) (by omega)
  have l3 := numF_len (n := x.time.toNat) (by omega)
  have l4 := hx.prev
  have l5 := hx.vals
  have l6 := hx.next
  have l7 := hx.app
  simp only [encS, List.length_append]
  omega

theorem HeaderBack_true {h : Heap} {x : Hd} (hx : x.ok) {cut : Int} {b : UInt8} : Runs Try.prog T0 (.fn fn_landfalllaw06_HeaderBack) [.agg ⟨x.cells⟩, .int .i64 cut, .int .u8 b.toNat] h (fun r h' => r = .bool true) (fun _ _ => False) := by
  haveI := l32 hx.prev
  haveI := l32 hx.vals
  haveI := l32 hx.next
  haveI := l32 hx.app
  refine landfalllaw06_HeaderBack_runs ?_
  repeat (first | refine O.how (XOp.addI (by omega)) ?_ | refine O.how (XOp.subI (by omega)) ?_ | refine O.how (XOp.convI (by omega)) ?_ | refine O.how (XOp.convU64 (by omega)) ?_ | refine O.how (XOp.convU8 (by omega)) ?_ | refine O.one ?_ | refine O.nil ?_ | refine C.next ?_ | refine RunC.seq ?_ | refine RunC.region ?_ | refine RunC.block ?_ | refine RunC.skip ?_ | refine RunC.exit ?_ | refine RunC.ret ?_ | refine RunC.regionD ?_ | refine D.how (XOp.addI (by omega)) rfl ?_ | refine D.how (XOp.subI (by omega)) rfl ?_ | refine D.how (XOp.convI (by omega)) rfl ?_ | refine D.one rfl ?_ | refine D.nil ?_ | refine O.one0 ?_ | refine D.one0 rfl ?_ | refine D.one0s ?_ | refine C.nextB ?_ | refine C.exit2 ?_ | refine C.exitB ?_ | refine C.retB ?_ | refine C.ret2 ?_ | refine loopQ.exit ?_ | refine loopQ.ret ?_ | refine C.exitN (by decide) ?_ | refine O.oneT ?_ | refine O.skT ?_ | refine O.skF ?_ | refine O.skU ?_ | refine D.oneT rfl ?_ | refine D.skT rfl ?_ | refine D.skF rfl ?_ | refine D.skU rfl ?_ | refine C.ifT ?_ | refine C.ifF ?_ | refine B.ret ?_ | refine B.deferred ?_ | refine B.deferredP ?_ | refine O.defer0 ?_ | refine B.end ?_ | refine O.panic ?_ | refine C.pan2 ?_ | refine C.panB ?_ | refine loopQ.panic ?_ | refine B.panic ?_ | refine O.how (XOp.mkIndexArr (by omega)) ?_ | refine O.how (XOp.mkIndexSl (by omega)) ?_ | refine D.how (XOp.mkIndexArr (by omega)) rfl ?_ | refine D.how (XOp.mkIndexSl (by omega)) rfl ?_)
  refine O.call' landfalllaw06_HeaderKnown_known (fun r h1 hr => ?_)
  obtain ⟨rfl, hh1⟩ := hr
  subst hh1
  repeat (first | refine O.how (XOp.addI (by omega)) ?_ | refine O.how (XOp.subI (by omega)) ?_ | refine O.how (XOp.convI (by omega)) ?_ | refine O.how (XOp.convU64 (by omega)) ?_ | refine O.how (XOp.convU8 (by omega)) ?_ | refine O.one ?_ | refine O.nil ?_ | refine C.next ?_ | refine RunC.seq ?_ | refine RunC.region ?_ | refine RunC.block ?_ | refine RunC.skip ?_ | refine RunC.exit ?_ | refine RunC.ret ?_ | refine RunC.regionD ?_ | refine D.how (XOp.addI (by omega)) rfl ?_ | refine D.how (XOp.subI (by omega)) rfl ?_ | refine D.how (XOp.convI (by omega)) rfl ?_ | refine D.one rfl ?_ | refine D.nil ?_ | refine O.one0 ?_ | refine D.one0 rfl ?_ | refine D.one0s ?_ | refine C.nextB ?_ | refine C.exit2 ?_ | refine C.exitB ?_ | refine C.retB ?_ | refine C.ret2 ?_ | refine loopQ.exit ?_ | refine loopQ.ret ?_ | refine C.exitN (by decide) ?_ | refine O.oneT ?_ | refine O.skT ?_ | refine O.skF ?_ | refine O.skU ?_ | refine D.oneT rfl ?_ | refine D.skT rfl ?_ | refine D.skF rfl ?_ | refine D.skU rfl ?_ | refine C.ifT ?_ | refine C.ifF ?_ | refine B.ret ?_ | refine B.deferred ?_ | refine B.deferredP ?_ | refine O.defer0 ?_ | refine B.end ?_ | refine O.panic ?_ | refine C.pan2 ?_ | refine C.panB ?_ | refine loopQ.panic ?_ | refine B.panic ?_ | refine O.how (XOp.mkIndexArr (by omega)) ?_ | refine O.how (XOp.mkIndexSl (by omega)) ?_ | refine D.how (XOp.mkIndexArr (by omega)) rfl ?_ | refine D.how (XOp.mkIndexSl (by omega)) rfl ?_)
  refine C.if (fun hlong => ?_) (fun hshort => ?_)
  · repeat (first | refine O.how (XOp.addI (by omega)) ?_ | refine O.how (XOp.subI (by omega)) ?_ | refine O.how (XOp.convI (by omega)) ?_ | refine O.how (XOp.convU64 (by omega)) ?_ | refine O.how (XOp.convU8 (by omega)) ?_ | refine O.one ?_ | refine O.nil ?_ | refine C.next ?_ | refine RunC.seq ?_ | refine RunC.region ?_ | refine RunC.block ?_ | refine RunC.skip ?_ | refine RunC.exit ?_ | refine RunC.ret ?_ | refine RunC.regionD ?_ | refine D.how (XOp.addI (by omega)) rfl ?_ | refine D.how (XOp.subI (by omega)) rfl ?_ | refine D.how (XOp.convI (by omega)) rfl ?_ | refine D.one rfl ?_ | refine D.nil ?_ | refine O.one0 ?_ | refine D.one0 rfl ?_ | refine D.one0s ?_ | refine C.nextB ?_ | refine C.exit2 ?_ | refine C.exitB ?_ | refine C.retB ?_ | refine C.ret2 ?_ | refine loopQ.exit ?_ | refine loopQ.ret ?_ | refine C.exitN (by decide) ?_ | refine O.oneT ?_ | refine O.skT ?_ | refine O.skF ?_ | refine O.skU ?_ | refine D.oneT rfl ?_ | refine D.skT rfl ?_ | refine D.skF rfl ?_ | refine D.skU rfl ?_ | refine C.ifT ?_ | refine C.ifF ?_ | refine B.ret ?_ | refine B.deferred ?_ | refine B.deferredP ?_ | refine O.defer0 ?_ | refine B.end ?_ | refine O.panic ?_ | refine C.pan2 ?_ | refine C.panB ?_ | refine loopQ.panic ?_ | refine B.panic ?_ | refine O.how (XOp.mkIndexArr (by omega)) ?_ | refine O.how (XOp.mkIndexSl (by omega)) ?_ | refine D.how (XOp.mkIndexArr (by omega)) rfl ?_ | refine D.how (XOp.mkIndexSl (by omega)) rfl ?_)
    rfl
  · repeat (first | refine O.how (XOp.addI (by omega)) ?_ | refine O.how (XOp.subI (by omega)) ?_ | refine O.how (XOp.convI (by omega)) ?_ | refine O.how (XOp.convU64 (by omega)) ?_ | refine O.how (XOp.convU8 (by omega)) ?_ | refine O.one ?_ | refine O.nil ?_ | refine C.next ?_ | refine RunC.seq ?_ | refine RunC.region ?_ | refine RunC.block ?_ | refine RunC.skip ?_ | refine RunC.exit ?_ | refine RunC.ret ?_ | refine RunC.regionD ?_ | refine D.how (XOp.addI (by omega)) rfl ?_ | refine D.how (XOp.subI (by omega)) rfl ?_ | refine D.how (XOp.convI (by omega)) rfl ?_ | refine D.one rfl ?_ | refine D.nil ?_ | refine O.one0 ?_ | refine D.one0 rfl ?_ | refine D.one0s ?_ | refine C.nextB ?_ | refine C.exit2 ?_ | refine C.exitB ?_ | refine C.retB ?_ | refine C.ret2 ?_ | refine loopQ.exit ?_ | refine loopQ.ret ?_ | refine C.exitN (by decide) ?_ | refine O.oneT ?_ | refine O.skT ?_ | refine O.skF ?_ | refine O.skU ?_ | refine D.oneT rfl ?_ | refine D.skT rfl ?_ | refine D.skF rfl ?_ | refine D.skU rfl ?_ | refine C.ifT ?_ | refine C.ifF ?_ | refine B.ret ?_ | refine B.deferred ?_ | refine B.deferredP ?_ | refine O.defer0 ?_ | refine B.end ?_ | refine O.panic ?_ | refine C.pan2 ?_ | refine C.panB ?_ | refine loopQ.panic ?_ | refine B.panic ?_ | refine O.how (XOp.mkIndexArr (by omega)) ?_ | refine O.how (XOp.mkIndexSl (by omega)) ?_ | refine D.how (XOp.mkIndexArr (by omega)) rfl ?_ | refine D.how (XOp.mkIndexSl (by omega)) rfl ?_)
    refine O.call' (Encode_ok hx) (fun r h2 hr => ?_)
    obtain ⟨v2, rfl, ho, hnew, hf2⟩ := hr
    by_cases hc : checkS x = 0
    · rw [if_pos hc] at ho
      obtain ⟨a2, cap2, rfl, hl2, _⟩ := ho.rd
      haveI : HGet h2 h.n _ := hf2.keep (b := h.n) HGet.new (by simp) id
      repeat (first | refine O.how (XOp.addI (by omega)) ?_ | refine O.how (XOp.subI (by omega)) ?_ | refine O.how (XOp.convI (by omega)) ?_ | refine O.how (XOp.convU64 (by omega)) ?_ | refine O.how (XOp.convU8 (by omega)) ?_ | refine O.one ?_ | refine O.nil ?_ | refine C.next ?_ | refine RunC.seq ?_ | refine RunC.region ?_ | refine RunC.block ?_ | refine RunC.skip ?_ | refine RunC.exit ?_ | refine RunC.ret ?_ | refine RunC.regionD ?_ | refine D.how (XOp.addI (by omega)) rfl ?_ | refine D.how (XOp.subI (by omega)) rfl ?_ | refine D.how (XOp.convI (by omega)) rfl ?_ | refine D.one rfl ?_ | refine D.nil ?_ | refine O.one0 ?_ | refine D.one0 rfl ?_ | refine D.one0s ?_ | refine C.nextB ?_ | refine C.exit2 ?_ | refine C.exitB ?_ | refine C.retB ?_ | refine C.ret2 ?_ | refine loopQ.exit ?_ | refine loopQ.ret ?_ | refine C.exitN (by decide) ?_ | refine O.oneT ?_ | refine O.skT ?_ | refine O.skF ?_ | refine O.skU ?_ | refine D.oneT rfl ?_ | refine D.skT rfl ?_ | refine D.skF rfl ?_ | refine D.skU rfl ?_ | refine C.ifT ?_ | refine C.ifF ?_ | refine B.ret ?_ | refine B.deferred ?_ | refine B.deferredP ?_ | refine O.defer0 ?_ | refine B.end ?_ | refine O.panic ?_ | refine C.pan2 ?_ | refine C.panB ?_ | refine loopQ.panic ?_ | refine B.panic ?_ | refine O.how (XOp.mkIndexArr (by omega)) ?_ | refine O.how (XOp.mkIndexSl (by omega)) ?_ | refine D.how (XOp.mkIndexArr (by omega)) rfl ?_ | refine D.how (XOp.mkIndexSl (by omega)) rfl ?_)
      refine O.call' (Check_ok hx) (fun r h3 hr => ?_)
      obtain ⟨rfl, hf3⟩ := hr
      rw [hc]
      obtain ⟨z1, z2⟩ := encS_len hx hc
      have hlt : ∀ {i : Nat}, ownedBy (.slice a2 (encS x).length cap2) i → i < h2.n := fun hi => ho.lt hi
      have hn2 := hf2.n
      simp only [Heap.n_push] at hn2
      have hc3 : Fr (fun i => h2.n ≤ i) h2 h3 := hf3.mono fun _ _ h => h.elim
      have hn3 := hf3.n
      repeat (first | refine O.how (XOp.addI (by omega)) ?_ | refine O.how (XOp.subI (by omega)) ?_ | refine O.how (XOp.convI (by omega)) ?_ | refine O.how (XOp.convU64 (by omega)) ?_ | refine O.how (XOp.convU8 (by omega)) ?_ | refine O.one ?_ | refine O.nil ?_ | refine C.next ?_ | refine RunC.seq ?_ | refine RunC.region ?_ | refine RunC.block ?_ | refine RunC.skip ?_ | refine RunC.exit ?_ | refine RunC.ret ?_ | refine RunC.regionD ?_ | refine D.how (XOp.addI (by omega)) rfl ?_ | refine D.how (XOp.subI (by omega)) rfl ?_ | refine D.how (XOp.convI (by omega)) rfl ?_ | refine D.one rfl ?_ | refine D.nil ?_ | refine O.one0 ?_ | refine D.one0 rfl ?_ | refine D.one0s ?_ | refine C.nextB ?_ | refine C.exit2 ?_ | refine C.exitB ?_ | refine C.retB ?_ | refine C.ret2 ?_ | refine loopQ.exit ?_ | refine loopQ.ret ?_ | refine C.exitN (by decide) ?_ | refine O.oneT ?_ | refine O.skT ?_ | refine O.skF ?_ | refine O.skU ?_ | refine D.oneT rfl ?_ | refine D.skT rfl ?_ | refine D.skF rfl ?_ | refine D.skU rfl ?_ | refine C.ifT ?_ | refine C.ifF ?_ | refine B.ret ?_ | refine B.deferred ?_ | refine B.deferredP ?_ | refine O.defer0 ?_ | refine B.end ?_ | refine O.panic ?_ | refine C.pan2 ?_ | refine C.panB ?_ | refine loopQ.panic ?_ | refine B.panic ?_ | refine O.how (XOp.mkIndexArr (by omega)) ?_ | refine O.how (XOp.mkIndexSl (by omega)) ?_ | refine D.how (XOp.mkIndexArr (by omega)) rfl ?_ | refine D.how (XOp.mkIndexSl (by omega)) rfl ?_)
      refine O.call' (Decode_ok (bs := encS x) (ho.rd.keep hf3 fun _ _ => id) (by omega)) (fun r h4 hr => ?_)
      obtain ⟨rfl, hf4⟩ := hr
      rw [decS_back hx hc]
      have hn4 := hf4.n
      haveI : HGet h3 h.n _ := hf3.keep (b := h.n) inferInstance (by omega) id
      haveI : HGet h4 h.n _ := hf4.keep (b := h.n) inferInstance (by omega) id
      haveI : BLt h.n h4 := ⟨by omega⟩
      repeat (first | refine O.how (XOp.addI (by omega)) ?_ | refine O.how (XOp.subI (by omega)) ?_ | refine O.how (XOp.convI (by omega)) ?_ | refine O.how (XOp.convU64 (by omega)) ?_ | refine O.how (XOp.convU8 (by omega)) ?_ | refine O.one ?_ | refine O.nil ?_ | refine C.next ?_ | refine RunC.seq ?_ | refine RunC.region ?_ | refine RunC.block ?_ | refine RunC.skip ?_ | refine RunC.exit ?_ | refine RunC.ret ?_ | refine RunC.regionD ?_ | refine D.how (XOp.addI (by omega)) rfl ?_ | refine D.how (XOp.subI (by omega)) rfl ?_ | refine D.how (XOp.convI (by omega)) rfl ?_ | refine D.one rfl ?_ | refine D.nil ?_ | refine O.one0 ?_ | refine D.one0 rfl ?_ | refine D.one0s ?_ | refine C.nextB ?_ | refine C.exit2 ?_ | refine C.exitB ?_ | refine C.retB ?_ | refine C.ret2 ?_ | refine loopQ.exit ?_ | refine loopQ.ret ?_ | refine C.exitN (by decide) ?_ | refine O.oneT ?_ | refine O.skT ?_ | refine O.skF ?_ | refine O.skU ?_ | refine D.oneT rfl ?_ | refine D.skT rfl ?_ | refine D.skF rfl ?_ | refine D.skU rfl ?_ | refine C.ifT ?_ | refine C.ifF ?_ | refine B.ret ?_ | refine B.deferred ?_ | refine B.deferredP ?_ | refine O.defer0 ?_ | refine B.end ?_ | refine O.panic ?_ | refine C.pan2 ?_ | refine C.panB ?_ | refine loopQ.panic ?_ | refine B.panic ?_ | refine O.how (XOp.mkIndexArr (by omega)) ?_ | refine O.how (XOp.mkIndexSl (by omega)) ?_ | refine D.how (XOp.mkIndexArr (by omega)) rfl ?_ | refine D.how (XOp.mkIndexSl (by omega)) rfl ?_)
      rw [same_self]
      simp only [Bool.not_true]
      repeat (first | refine O.how (XOp.addI (by omega)) ?_ | refine O.how (XOp.subI (by omega)) ?_ | refine O.how (XOp.convI (by omega)) ?_ | refine O.how (XOp.convU64 (by omega)) ?_ | refine O.how (XOp.convU8 (by omega)) ?_ | refine O.one ?_ | refine O.nil ?_ | refine C.next ?_ | refine RunC.seq ?_ | refine RunC.region ?_ | refine RunC.block ?_ | refine RunC.skip ?_ | refine RunC.exit ?_ | refine RunC.ret ?_ | refine RunC.regionD ?_ | refine D.how (XOp.addI (by omega)) rfl ?_ | refine D.how (XOp.subI (by omega)) rfl ?_ | refine D.how (XOp.convI (by omega)) rfl ?_ | refine D.one rfl ?_ | refine D.nil ?_ | refine O.one0 ?_ | refine D.one0 rfl ?_ | refine D.one0s ?_ | refine C.nextB ?_ | refine C.exit2 ?_ | refine C.exitB ?_ | refine C.retB ?_ | refine C.ret2 ?_ | refine loopQ.exit ?_ | refine loopQ.ret ?_ | refine C.exitN (by decide) ?_ | refine O.oneT ?_ | refine O.skT ?_ | refine O.skF ?_ | refine O.skU ?_ | refine D.oneT rfl ?_ | refine D.skT rfl ?_ | refine D.skF rfl ?_ | refine D.skU rfl ?_ | refine C.ifT ?_ | refine C.ifF ?_ | refine B.ret ?_ | refine B.deferred ?_ | refine B.deferredP ?_ | refine O.defer0 ?_ | refine B.end ?_ | refine O.panic ?_ | refine C.pan2 ?_ | refine C.panB ?_ | refine loopQ.panic ?_ | refine B.panic ?_ | refine O.how (XOp.mkIndexArr (by omega)) ?_ | refine O.how (XOp.mkIndexSl (by omega)) ?_ | refine D.how (XOp.mkIndexArr (by omega)) rfl ?_ | refine D.how (XOp.mkIndexSl (by omega)) rfl ?_)
      rw [same_self]
      simp only [Bool.not_true]
      repeat (first | refine O.how (XOp.addI (by omega)) ?_ | refine O.how (XOp.subI (by omega)) ?_ | refine O.how (XOp.convI (by omega)) ?_ | refine O.how (XOp.convU64 (by omega)) ?_ | refine O.how (XOp.convU8 (by omega)) ?_ | refine O.one ?_ | refine O.nil ?_ | refine C.next ?_ | refine RunC.seq ?_ | refine RunC.region ?_ | refine RunC.block ?_ | refine RunC.skip ?_ | refine RunC.exit ?_ | refine RunC.ret ?_ | refine RunC.regionD ?_ | refine D.how (XOp.addI (by omega)) rfl ?_ | refine D.how (XOp.subI (by omega)) rfl ?_ | refine D.how (XOp.convI (by omega)) rfl ?_ | refine D.one rfl ?_ | refine D.nil ?_ | refine O.one0 ?_ | refine D.one0 rfl ?_ | refine D.one0s ?_ | refine C.nextB ?_ | refine C.exit2 ?_ | refine C.exitB ?_ | refine C.retB ?_ | refine C.ret2 ?_ | refine loopQ.exit ?_ | refine loopQ.ret ?_ | refine C.exitN (by decide) ?_ | refine O.oneT ?_ | refine O.skT ?_ | refine O.skF ?_ | refine O.skU ?_ | refine D.oneT rfl ?_ | refine D.skT rfl ?_ | refine D.skF rfl ?_ | refine D.skU rfl ?_ | refine C.ifT ?_ | refine C.ifF ?_ | refine B.ret ?_ | refine B.deferred ?_ | refine B.deferredP ?_ | refine O.defer0 ?_ | refine B.end ?_ | refine O.panic ?_ | refine C.pan2 ?_ | refine C.panB ?_ | refine loopQ.panic ?_ | refine B.panic ?_ | refine O.how (XOp.mkIndexArr (by omega)) ?_ | refine O.how (XOp.mkIndexSl (by omega)) ?_ | refine D.how (XOp.mkIndexArr (by omega)) rfl ?_ | refine D.how (XOp.mkIndexSl (by omega)) rfl ?_)
      have hk5 : Fr (fun i => h2.n ≤ i) h2 h4 := hc3.trans' (hf4.mono fun _ _ h => h.elim)
      refine O.call' (Pick_ok (x := cut) (n := ((encS x).length : Int)) (by omega)) (fun r h6 hr => ?_)
      obtain ⟨rfl, hh6⟩ := hr
      have hp0 : 0 ≤ pickS cut (encS x).length ∧ pickS cut (encS x).length < (encS x).length := by
        unfold pickS
        rw [if_neg (by omega)]
        exact ⟨Int.emod_nonneg _ (by omega), Int.emod_lt_of_pos _ (by omega)⟩
      generalize pickS cut (encS x).length = j at hp0
      have hk6 : Fr (fun i => h2.n ≤ i) h2 h6 := by
        rw [hh6]
        exact Fr.set (Fr.set hk5.push.push fun _ => by omega) fun _ => by simp only [Heap.n_push]; omega
      have hn6 := hk6.n
      clear hh6
      refine O.sliceTo j.toNat (ho.keep hk6 fun i hi hge => by have := hlt hi; omega) (by omega) (by omega) (fun v' hbl hrd => ?_)
      rw [Nat.mul_one, bcells_take] at hrd
      have htl : ((encS x).take j.toNat).length = j.toNat := by rw [List.length_take]; omega
      refine O.call' (Decode_ok (bs := (encS x).take j.toNat) (by rw [htl]; exact hrd) (by omega)) (fun r h7 hr => ?_)
      obtain ⟨rfl, hf7⟩ := hr
      have hcut := decS_cut hx hc (c := j.toNat) (by omega)
      have hcok := decS_ok ((encS x).take j.toNat)
      generalize decS ((encS x).take j.toNat) = D at hcut hcok
      obtain ⟨Y, e, a⟩ := D
      simp only at hcut hcok
      subst hcut
      haveI := l32 hcok.prev
      haveI := l32 hcok.vals
      haveI := l32 hcok.next
      haveI := l32 hcok.app
      have hk7 : Fr (fun i => h2.n ≤ i) h2 h7 := hk6.trans' (hf7.mono fun _ _ h => h.elim)
      have hn7 := hk7.n
      repeat (first | refine O.how (XOp.addI (by omega)) ?_ | refine O.how (XOp.subI (by omega)) ?_ | refine O.how (XOp.convI (by omega)) ?_ | refine O.how (XOp.convU64 (by omega)) ?_ | refine O.how (XOp.convU8 (by omega)) ?_ | refine O.one ?_ | refine O.nil ?_ | refine C.next ?_ | refine RunC.seq ?_ | refine RunC.region ?_ | refine RunC.block ?_ | refine RunC.skip ?_ | refine RunC.exit ?_ | refine RunC.ret ?_ | refine RunC.regionD ?_ | refine D.how (XOp.addI (by omega)) rfl ?_ | refine D.how (XOp.subI (by omega)) rfl ?_ | refine D.how (XOp.convI (by omega)) rfl ?_ | refine D.one rfl ?_ | refine D.nil ?_ | refine O.one0 ?_ | refine D.one0 rfl ?_ | refine D.one0s ?_ | refine C.nextB ?_ | refine C.exit2 ?_ | refine C.exitB ?_ | refine C.retB ?_ | refine C.ret2 ?_ | refine loopQ.exit ?_ | refine loopQ.ret ?_ | refine C.exitN (by decide) ?_ | refine O.oneT ?_ | refine O.skT ?_ | refine O.skF ?_ | refine O.skU ?_ | refine D.oneT rfl ?_ | refine D.skT rfl ?_ | refine D.skF rfl ?_ | refine D.skU rfl ?_ | refine C.ifT ?_ | refine C.ifF ?_ | refine B.ret ?_ | refine B.deferred ?_ | refine B.deferredP ?_ | refine O.defer0 ?_ | refine B.end ?_ | refine O.panic ?_ | refine C.pan2 ?_ | refine C.panB ?_ | refine loopQ.panic ?_ | refine B.panic ?_ | refine O.how (XOp.mkIndexArr (by omega)) ?_ | refine O.how (XOp.mkIndexSl (by omega)) ?_ | refine D.how (XOp.mkIndexArr (by omega)) rfl ?_ | refine D.how (XOp.mkIndexSl (by omega)) rfl ?_)
      have hok8 := ho.keep (h' := ((h7.push (.cells (.string ⟨⟨[]⟩⟩ :: .int .i64 0 :: .int .i64 0 :: (z32 ++ (z32 ++ (z32 ++ z32)))) 0)).push (.cells [.int .i64 0, .int .i64 0] 0)).set h7.n (.cells Y.cells 0) |>.set (h7.push (.cells (.string ⟨⟨[]⟩⟩ :: .int .i64 0 :: .int .i64 0 :: (z32 ++ (z32 ++ (z32 ++ z32)))) 0)).n (.cells [.int .i64 6, .int .i64 a] 0))
        (Fr.set (Fr.set hk7.push.push fun _ => by omega) fun _ => by simp only [Heap.n_push]; omega) (fun i hi hge => by have := hlt hi; omega)
      refine O.call' (CopyBytes_ok hok8.rd (by omega)) (fun r h9 hr => ?_)
      obtain ⟨ho9, hnew9, hf9⟩ := hr
      have hn9 := hf9.n
      simp only [Heap.n_set, Heap.n_push] at hn9
      haveI : HGet h9 (h7.push (.cells (.string ⟨⟨[]⟩⟩ :: .int .i64 0 :: .int .i64 0 :: (z32 ++ (z32 ++ (z32 ++ z32)))) 0)).n _ := hf9.keep (b := (h7.push (.cells (.string ⟨⟨[]⟩⟩ :: .int .i64 0 :: .int .i64 0 :: (z32 ++ (z32 ++ (z32 ++ z32)))) 0)).n) HGet.same (by simp) id
      repeat (first | refine O.how (XOp.addI (by omega)) ?_ | refine O.how (XOp.subI (by omega)) ?_ | refine O.how (XOp.convI (by omega)) ?_ | refine O.how (XOp.convU64 (by omega)) ?_ | refine O.how (XOp.convU8 (by omega)) ?_ | refine O.one ?_ | refine O.nil ?_ | refine C.next ?_ | refine RunC.seq ?_ | refine RunC.region ?_ | refine RunC.block ?_ | refine RunC.skip ?_ | refine RunC.exit ?_ | refine RunC.ret ?_ | refine RunC.regionD ?_ | refine D.how (XOp.addI (by omega)) rfl ?_ | refine D.how (XOp.subI (by omega)) rfl ?_ | refine D.how (XOp.convI (by omega)) rfl ?_ | refine D.one rfl ?_ | refine D.nil ?_ | refine O.one0 ?_ | refine D.one0 rfl ?_ | refine D.one0s ?_ | refine C.nextB ?_ | refine C.exit2 ?_ | refine C.exitB ?_ | refine C.retB ?_ | refine C.ret2 ?_ | refine loopQ.exit ?_ | refine loopQ.ret ?_ | refine C.exitN (by decide) ?_ | refine O.oneT ?_ | refine O.skT ?_ | refine O.skF ?_ | refine O.skU ?_ | refine D.oneT rfl ?_ | refine D.skT rfl ?_ | refine D.skF rfl ?_ | refine D.skU rfl ?_ | refine C.ifT ?_ | refine C.ifF ?_ | refine B.ret ?_ | refine B.deferred ?_ | refine B.deferredP ?_ | refine O.defer0 ?_ | refine B.end ?_ | refine O.panic ?_ | refine C.pan2 ?_ | refine C.panB ?_ | refine loopQ.panic ?_ | refine B.panic ?_ | refine O.how (XOp.mkIndexArr (by omega)) ?_ | refine O.how (XOp.mkIndexSl (by omega)) ?_ | refine D.how (XOp.mkIndexArr (by omega)) rfl ?_ | refine D.how (XOp.mkIndexSl (by omega)) rfl ?_)
      have hlit : newCells (h9.push (.cells [.int .u8 b.toNat] 0)) 1 [.int .u8 0] false (.slice (some ⟨h9.n, 0, none⟩) 1 1) = some (1, [.int .u8 b.toNat]) := (rd_lit rfl).new [.int .u8 0]
      refine O.append (ho9.keep (S := fun _ => False) Fr.refl.push fun _ _ => id) hlit rfl rfl (by omega) (by omega) (by omega) (fun v10 h10 ho10 hf10 hnew10 => ?_)
      have hb1 : bcells (encS x) ++ [.int .u8 b.toNat] = bcells (encS x ++ [b]) := by rw [bcells_append]; rfl
      rw [hb1] at ho10
      have hl1 : (encS x ++ [b]).length = (encS x).length + 1 := by simp
      have hn10 := hf10.n
      simp only [Heap.n_push] at hn10
      haveI : HGet h10 (h7.push (.cells (.string ⟨⟨[]⟩⟩ :: .int .i64 0 :: .int .i64 0 :: (z32 ++ (z32 ++ (z32 ++ z32)))) 0)).n (.cells [.int .i64 6, .int .i64 a] 0) := hf10.keep (b := (h7.push (.cells (.string ⟨⟨[]⟩⟩ :: .int .i64 0 :: .int .i64 0 :: (z32 ++ (z32 ++ (z32 ++ z32)))) 0)).n) (HGet.push (k := ⟨by simp only [Heap.n_push]; omega⟩)) (by simp only [Heap.n_push]; omega) (fun hi => by have := hnew9 _ hi; simp only [Heap.n_set, Heap.n_push] at this; omega)
      refine O.call' (Decode_ok (bs := encS x ++ [b]) (by rw [hl1]; exact ho10.rd) (by omega)) (fun r h11 hr => ?_)
      obtain ⟨rfl, hf11⟩ := hr
      have hmore := decS_more hx hc b
      have hmok := decS_ok (encS x ++ [b])
      generalize decS (encS x ++ [b]) = D at hmore hmok
      obtain ⟨Z, f⟩ := D
      simp only at hmore hmok
      subst hmore
      haveI := l32 hmok.prev
      haveI := l32 hmok.vals
      haveI := l32 hmok.next
      haveI := l32 hmok.app
      have hn11 := hf11.n
      haveI : HGet h11 (h7.push (.cells (.string ⟨⟨[]⟩⟩ :: .int .i64 0 :: .int .i64 0 :: (z32 ++ (z32 ++ (z32 ++ z32)))) 0)).n (.cells [.int .i64 6, .int .i64 a] 0) := hf11.keep (b := (h7.push (.cells (.string ⟨⟨[]⟩⟩ :: .int .i64 0 :: .int .i64 0 :: (z32 ++ (z32 ++ (z32 ++ z32)))) 0)).n) inferInstance (by simp only [Heap.n_push]; omega) id
      haveI : BLt (h7.push (.cells (.string ⟨⟨[]⟩⟩ :: .int .i64 0 :: .int .i64 0 :: (z32 ++ (z32 ++ (z32 ++ z32)))) 0)).n h11 := ⟨by simp only [Heap.n_push]; omega⟩
      repeat (first | refine O.how (XOp.addI (by omega)) ?_ | refine O.how (XOp.subI (by omega)) ?_ | refine O.how (XOp.convI (by omega)) ?_ | refine O.how (XOp.convU64 (by omega)) ?_ | refine O.how (XOp.convU8 (by omega)) ?_ | refine O.one ?_ | refine O.nil ?_ | refine C.next ?_ | refine RunC.seq ?_ | refine RunC.region ?_ | refine RunC.block ?_ | refine RunC.skip ?_ | refine RunC.exit ?_ | refine RunC.ret ?_ | refine RunC.regionD ?_ | refine D.how (XOp.addI (by omega)) rfl ?_ | refine D.how (XOp.subI (by omega)) rfl ?_ | refine D.how (XOp.convI (by omega)) rfl ?_ | refine D.one rfl ?_ | refine D.nil ?_ | refine O.one0 ?_ | refine D.one0 rfl ?_ | refine D.one0s ?_ | refine C.nextB ?_ | refine C.exit2 ?_ | refine C.exitB ?_ | refine C.retB ?_ | refine C.ret2 ?_ | refine loopQ.exit ?_ | refine loopQ.ret ?_ | refine C.exitN (by decide) ?_ | refine O.oneT ?_ | refine O.skT ?_ | refine O.skF ?_ | refine O.skU ?_ | refine D.oneT rfl ?_ | refine D.skT rfl ?_ | refine D.skF rfl ?_ | refine D.skU rfl ?_ | refine C.ifT ?_ | refine C.ifF ?_ | refine B.ret ?_ | refine B.deferred ?_ | refine B.deferredP ?_ | refine O.defer0 ?_ | refine B.end ?_ | refine O.panic ?_ | refine C.pan2 ?_ | refine C.panB ?_ | refine loopQ.panic ?_ | refine B.panic ?_ | refine O.how (XOp.mkIndexArr (by omega)) ?_ | refine O.how (XOp.mkIndexSl (by omega)) ?_ | refine D.how (XOp.mkIndexArr (by omega)) rfl ?_ | refine D.how (XOp.mkIndexSl (by omega)) rfl ?_)
      rw [if_pos (by decide)]
      exact congrArg Value.bool (same_self _)
    · rw [if_neg hc] at ho
      obtain ⟨a2, cap2, rfl, hl2, _⟩ := ho.rd
      haveI : HGet h2 h.n _ := hf2.keep (b := h.n) HGet.new (by simp) id
      repeat (first | refine O.how (XOp.addI (by omega)) ?_ | refine O.how (XOp.subI (by omega)) ?_ | refine O.how (XOp.convI (by omega)) ?_ | refine O.how (XOp.convU64 (by omega)) ?_ | refine O.how (XOp.convU8 (by omega)) ?_ | refine O.one ?_ | refine O.nil ?_ | refine C.next ?_ | refine RunC.seq ?_ | refine RunC.region ?_ | refine RunC.block ?_ | refine RunC.skip ?_ | refine RunC.exit ?_ | refine RunC.ret ?_ | refine RunC.regionD ?_ | refine D.how (XOp.addI (by omega)) rfl ?_ | refine D.how (XOp.subI (by omega)) rfl ?_ | refine D.how (XOp.convI (by omega)) rfl ?_ | refine D.one rfl ?_ | refine D.nil ?_ | refine O.one0 ?_ | refine D.one0 rfl ?_ | refine D.one0s ?_ | refine C.nextB ?_ | refine C.exit2 ?_ | refine C.exitB ?_ | refine C.retB ?_ | refine C.ret2 ?_ | refine loopQ.exit ?_ | refine loopQ.ret ?_ | refine C.exitN (by decide) ?_ | refine O.oneT ?_ | refine O.skT ?_ | refine O.skF ?_ | refine O.skU ?_ | refine D.oneT rfl ?_ | refine D.skT rfl ?_ | refine D.skF rfl ?_ | refine D.skU rfl ?_ | refine C.ifT ?_ | refine C.ifF ?_ | refine B.ret ?_ | refine B.deferred ?_ | refine B.deferredP ?_ | refine O.defer0 ?_ | refine B.end ?_ | refine O.panic ?_ | refine C.pan2 ?_ | refine C.panB ?_ | refine loopQ.panic ?_ | refine B.panic ?_ | refine O.how (XOp.mkIndexArr (by omega)) ?_ | refine O.how (XOp.mkIndexSl (by omega)) ?_ | refine D.how (XOp.mkIndexArr (by omega)) rfl ?_ | refine D.how (XOp.mkIndexSl (by omega)) rfl ?_)
      refine O.call' (Check_ok hx) (fun r h3 hr => ?_)
      obtain ⟨rfl, hf3⟩ := hr
      repeat (first | refine O.how (XOp.addI (by omega)) ?_ | refine O.how (XOp.subI (by omega)) ?_ | refine O.how (XOp.convI (by omega)) ?_ | refine O.how (XOp.convU64 (by omega)) ?_ | refine O.how (XOp.convU8 (by omega)) ?_ | refine O.one ?_ | refine O.nil ?_ | refine C.next ?_ | refine RunC.seq ?_ | refine RunC.region ?_ | refine RunC.block ?_ | refine RunC.skip ?_ | refine RunC.exit ?_ | refine RunC.ret ?_ | refine RunC.regionD ?_ | refine D.how (XOp.addI (by omega)) rfl ?_ | refine D.how (XOp.subI (by omega)) rfl ?_ | refine D.how (XOp.convI (by omega)) rfl ?_ | refine D.one rfl ?_ | refine D.nil ?_ | refine O.one0 ?_ | refine D.one0 rfl ?_ | refine D.one0s ?_ | refine C.nextB ?_ | refine C.exit2 ?_ | refine C.exitB ?_ | refine C.retB ?_ | refine C.ret2 ?_ | refine loopQ.exit ?_ | refine loopQ.ret ?_ | refine C.exitN (by decide) ?_ | refine O.oneT ?_ | refine O.skT ?_ | refine O.skF ?_ | refine O.skU ?_ | refine D.oneT rfl ?_ | refine D.skT rfl ?_ | refine D.skF rfl ?_ | refine D.skU rfl ?_ | refine C.ifT ?_ | refine C.ifF ?_ | refine B.ret ?_ | refine B.deferred ?_ | refine B.deferredP ?_ | refine O.defer0 ?_ | refine B.end ?_ | refine O.panic ?_ | refine C.pan2 ?_ | refine C.panB ?_ | refine loopQ.panic ?_ | refine B.panic ?_ | refine O.how (XOp.mkIndexArr (by omega)) ?_ | refine O.how (XOp.mkIndexSl (by omega)) ?_ | refine D.how (XOp.mkIndexArr (by omega)) rfl ?_ | refine D.how (XOp.mkIndexSl (by omega)) rfl ?_)
      refine O.decN (fun h => absurd rfl h) (fun _ => ?_)
      repeat (first | refine O.how (XOp.addI (by omega)) ?_ | refine O.how (XOp.subI (by omega)) ?_ | refine O.how (XOp.convI (by omega)) ?_ | refine O.how (XOp.convU64 (by omega)) ?_ | refine O.how (XOp.convU8 (by omega)) ?_ | refine O.one ?_ | refine O.nil ?_ | refine C.next ?_ | refine RunC.seq ?_ | refine RunC.region ?_ | refine RunC.block ?_ | refine RunC.skip ?_ | refine RunC.exit ?_ | refine RunC.ret ?_ | refine RunC.regionD ?_ | refine D.how (XOp.addI (by omega)) rfl ?_ | refine D.how (XOp.subI (by omega)) rfl ?_ | refine D.how (XOp.convI (by omega)) rfl ?_ | refine D.one rfl ?_ | refine D.nil ?_ | refine O.one0 ?_ | refine D.one0 rfl ?_ | refine D.one0s ?_ | refine C.nextB ?_ | refine C.exit2 ?_ | refine C.exitB ?_ | refine C.retB ?_ | refine C.ret2 ?_ | refine loopQ.exit ?_ | refine loopQ.ret ?_ | refine C.exitN (by decide) ?_ | refine O.oneT ?_ | refine O.skT ?_ | refine O.skF ?_ | refine O.skU ?_ | refine D.oneT rfl ?_ | refine D.skT rfl ?_ | refine D.skF rfl ?_ | refine D.skU rfl ?_ | refine C.ifT ?_ | refine C.ifF ?_ | refine B.ret ?_ | refine B.deferred ?_ | refine B.deferredP ?_ | refine O.defer0 ?_ | refine B.end ?_ | refine O.panic ?_ | refine C.pan2 ?_ | refine C.panB ?_ | refine loopQ.panic ?_ | refine B.panic ?_ | refine O.how (XOp.mkIndexArr (by omega)) ?_ | refine O.how (XOp.mkIndexSl (by omega)) ?_ | refine D.how (XOp.mkIndexArr (by omega)) rfl ?_ | refine D.how (XOp.mkIndexSl (by omega)) rfl ?_)
      refine O.decN (fun _ => ?_) (fun h => absurd h hc)
      repeat (first | refine O.how (XOp.addI (by omega)) ?_ | refine O.how (XOp.subI (by omega)) ?_ | refine O.how (XOp.convI (by omega)) ?_ | refine O.how (XOp.convU64 (by omega)) ?_ | refine O.how (XOp.convU8 (by omega)) ?_ | refine O.one ?_ | refine O.nil ?_ | refine C.next ?_ | refine RunC.seq ?_ | refine RunC.region ?_ | refine RunC.block ?_ | refine RunC.skip ?_ | refine RunC.exit ?_ | refine RunC.ret ?_ | refine RunC.regionD ?_ | refine D.how (XOp.addI (by omega)) rfl ?_ | refine D.how (XOp.subI (by omega)) rfl ?_ | refine D.how (XOp.convI (by omega)) rfl ?_ | refine D.one rfl ?_ | refine D.nil ?_ | refine O.one0 ?_ | refine D.one0 rfl ?_ | refine D.one0s ?_ | refine C.nextB ?_ | refine C.exit2 ?_ | refine C.exitB ?_ | refine C.retB ?_ | refine C.ret2 ?_ | refine loopQ.exit ?_ | refine loopQ.ret ?_ | refine C.exitN (by decide) ?_ | refine O.oneT ?_ | refine O.skT ?_ | refine O.skF ?_ | refine O.skU ?_ | refine D.oneT rfl ?_ | refine D.skT rfl ?_ | refine D.skF rfl ?_ | refine D.skU rfl ?_ | refine C.ifT ?_ | refine C.ifF ?_ | refine B.ret ?_ | refine B.deferred ?_ | refine B.deferredP ?_ | refine O.defer0 ?_ | refine B.end ?_ | refine O.panic ?_ | refine C.pan2 ?_ | refine C.panB ?_ | refine loopQ.panic ?_ | refine B.panic ?_ | refine O.how (XOp.mkIndexArr (by omega)) ?_ | refine O.how (XOp.mkIndexSl (by omega)) ?_ | refine D.how (XOp.mkIndexArr (by omega)) rfl ?_ | refine D.how (XOp.mkIndexSl (by omega)) rfl ?_)
      refine C.ifN (fun _ => ?_) (fun h => absurd h hc)
      repeat (first | refine O.how (XOp.addI (by omega)) ?_ | refine O.how (XOp.subI (by omega)) ?_ | refine O.how (XOp.convI (by omega)) ?_ | refine O.how (XOp.convU64 (by omega)) ?_ | refine O.how (XOp.convU8 (by omega)) ?_ | refine O.one ?_ | refine O.nil ?_ | refine C.next ?_ | refine RunC.seq ?_ | refine RunC.region ?_ | refine RunC.block ?_ | refine RunC.skip ?_ | refine RunC.exit ?_ | refine RunC.ret ?_ | refine RunC.regionD ?_ | refine D.how (XOp.addI (by omega)) rfl ?_ | refine D.how (XOp.subI (by omega)) rfl ?_ | refine D.how (XOp.convI (by omega)) rfl ?_ | refine D.one rfl ?_ | refine D.nil ?_ | refine O.one0 ?_ | refine D.one0 rfl ?_ | refine D.one0s ?_ | refine C.nextB ?_ | refine C.exit2 ?_ | refine C.exitB ?_ | refine C.retB ?_ | refine C.ret2 ?_ | refine loopQ.exit ?_ | refine loopQ.ret ?_ | refine C.exitN (by decide) ?_ | refine O.oneT ?_ | refine O.skT ?_ | refine O.skF ?_ | refine O.skU ?_ | refine D.oneT rfl ?_ | refine D.skT rfl ?_ | refine D.skF rfl ?_ | refine D.skU rfl ?_ | refine C.ifT ?_ | refine C.ifF ?_ | refine B.ret ?_ | refine B.deferred ?_ | refine B.deferredP ?_ | refine O.defer0 ?_ | refine B.end ?_ | refine O.panic ?_ | refine C.pan2 ?_ | refine C.panB ?_ | refine loopQ.panic ?_ | refine B.panic ?_ | refine O.how (XOp.mkIndexArr (by omega)) ?_ | refine O.how (XOp.mkIndexSl (by omega)) ?_ | refine D.how (XOp.mkIndexArr (by omega)) rfl ?_ | refine D.how (XOp.mkIndexSl (by omega)) rfl ?_)
      rfl

/-- a header that was handed in -/
theorem fits_flat32 {h : Heap} {m : Nat} {t te : TypeId} {c : List Value} (ht : Try.prog.underlying t = some (.array 32 te)) (hu : Try.prog.underlying te = some (.int .u8)) (hs : Try.prog.cellsOf te = 1) (hs32 : Try.prog.cellsOf t = 32) (hv : Fits Try.prog h (m + 2) t c) : ∃ bs : List UInt8, c = bcells bs ∧ bs.length = 32 := by
  unfold Fits at hv
  rw [ht] at hv
  exact fits_bytes hu hs (by rw [hv.1, hs32, hs]) hv.2

theorem fits_header {h : Heap} {m : Nat} {t ts ti th tb : TypeId} {c : List Value} (f0 : fieldAt Try.prog t 0 = some (0, ts)) (f1 : fieldAt Try.prog t 1 = some (1, ti)) (f2 : fieldAt Try.prog t 2 = some (2, ti)) (f3 : fieldAt Try.prog t 3 = some (3, th)) (f4 : fieldAt Try.prog t 4 = some (35, th)) (f5 : fieldAt Try.prog t 5 = some (67, th)) (f6 : fieldAt Try.prog t 6 = some (99, th))
    (us : Try.prog.underlying ts = some .string) (ui : Try.prog.underlying ti = some (.int .i64)) (uh : Try.prog.underlying th = some (.array 32 tb)) (ub : Try.prog.underlying tb = some (.int .u8)) (c0 : Try.prog.cellsOf ts = 1) (c1 : Try.prog.cellsOf ti = 1) (c3 : Try.prog.cellsOf th = 32) (cb : Try.prog.cellsOf tb = 1) (ct : Try.prog.cellsOf t = 131)
    (hv : Fits Try.prog h (m + 3) t c) : ∃ x : Hd, x.ok ∧ (-9223372036854775808 ≤ x.height ∧ x.height ≤ 9223372036854775807) ∧ (-9223372036854775808 ≤ x.time ∧ x.time ≤ 9223372036854775807) ∧ c = x.cells := by
  have hl := hv.len f0
  rw [ct] at hl
  obtain ⟨s, g0, _⟩ := (hv.field f0).str us
  obtain ⟨a, g1, w1⟩ := (hv.field f1).int ui
  obtain ⟨b, g2, w2⟩ := (hv.field f2).int ui
  obtain ⟨l3, g3, n3⟩ := fits_flat32 uh ub cb c3 (hv.field f3)
  obtain ⟨l4, g4, n4⟩ := fits_flat32 uh ub cb c3 (hv.field f4)
  obtain ⟨l5, g5, n5⟩ := fits_flat32 uh ub cb c3 (hv.field f5)
  obtain ⟨l6, g6, n6⟩ := fits_flat32 uh ub cb c3 (hv.field f6)
  rw [c0] at g0
  rw [c1] at g1 g2
  rw [c3] at g3 g4 g5 g6
  refine ⟨⟨s.data.toList, a, b, l3, l4, l5, l6⟩, ⟨n3, n4, n5, n6⟩, wf_i64 w1, wf_i64 w2, ?_⟩
  rw [← List.drop_zero (l := c), vsplit c 0 1, g0, vsplit c (0 + 1) 1, g1, vsplit c (0 + 1 + 1) 1, g2, vsplit c (0 + 1 + 1 + 1) 32, g3, vsplit c (0 + 1 + 1 + 1 + 32) 32, g4, vsplit c (0 + 1 + 1 + 1 + 32 + 32) 32, g5, vsplit c (0 + 1 + 1 + 1 + 32 + 32 + 32) 32, g6,
    show c.drop (0 + 1 + 1 + 1 + 32 + 32 + 32 + 32) = [] from List.drop_eq_nil_of_le (by omega), List.append_nil]
  rfl
end Go.Proofs.Ytcapkoclbmaahaa.A

/- The laws of headers over what is handed in. -/
namespace Go.Proofs.Ytcapkoclbmaahaa.A
open Go Go.Vm
set_option maxRecDepth 100000
set_option linter.unusedVariables false

theorem hd_fits {h : Heap} {v : Value} (hv : FitsV Try.prog h 8 28 v) : ∃ x : Hd, x.ok ∧ v = .agg ⟨x.cells⟩ := by
  have g0 : fieldAt Try.prog 28 0 = some (0, 9) := by kernel_rfl
  obtain ⟨cs, rfl, hc⟩ := FitsV.agg hv g0
  have g1 : fieldAt Try.prog 28 1 = some (1, 3) := by kernel_rfl
  have g2 : fieldAt Try.prog 28 2 = some (2, 3) := by kernel_rfl
  have g3 : fieldAt Try.prog 28 3 = some (3, 26) := by kernel_rfl
  have g4 : fieldAt Try.prog 28 4 = some (35, 26) := by kernel_rfl
  have g5 : fieldAt Try.prog 28 5 = some (67, 26) := by kernel_rfl
  have g6 : fieldAt Try.prog 28 6 = some (99, 26) := by kernel_rfl
  have u1 : Try.prog.underlying 9 = some .string := by kernel_rfl
  have u2 : Try.prog.underlying 3 = some (.int .i64) := by kernel_rfl
  have u3 : Try.prog.underlying 26 = some (.array 32 5) := by kernel_rfl
  have u4 : Try.prog.underlying 5 = some (.int .u8) := by kernel_rfl
  have c1 : Try.prog.cellsOf 9 = 1 := by kernel_rfl
  have c2 : Try.prog.cellsOf 3 = 1 := by kernel_rfl
  have c3 : Try.prog.cellsOf 26 = 32 := by kernel_rfl
  have c4 : Try.prog.cellsOf 5 = 1 := by kernel_rfl
  have c5 : Try.prog.cellsOf 28 = 131 := by kernel_rfl
  obtain ⟨x, hx, _, _, hcs⟩ := fits_header (m := 5) g0 g1 g2 g3 g4 g5 g6 u1 u2 u3 u4 c1 c2 c3 c4 c5 hc
  exact ⟨x, hx, by rw [hcs]⟩
theorem i64_fits {h : Heap} {v : Value} (hv : FitsV Try.prog h 8 3 v) : ∃ x : Int, v = .int .i64 x ∧ (-9223372036854775808 ≤ x ∧ x ≤ 9223372036854775807) := by
  have u2 : Try.prog.underlying 3 = some (.int .i64) := by kernel_rfl
  obtain ⟨x, h1, h2⟩ := hv.int u2
  exact ⟨x, h1, wf_i64 h2⟩
theorem u8_fits {h : Heap} {v : Value} (hv : FitsV Try.prog h 8 5 v) : ∃ b : UInt8, v = .int .u8 b.toNat := by
  have u2 : Try.prog.underlying 5 = some (.int .u8) := by kernel_rfl
  obtain ⟨x, h1, h2⟩ := hv.int u2
  have := wf_u8 h2
  exact ⟨UInt8.ofNat x.toNat, by rw [h1, u8nat (by omega), Int.toNat_of_nonneg this.1]⟩

theorem HeaderBack_run (h : Heap) (vs : List Value) (hf : FitsAll Try.prog h 8 [28, 3, 5] vs) : Runs Try.prog T0 (.fn 5) vs h (fun r _ => r = .bool true) (fun _ _ => False) := by
  obtain ⟨v1, _, rfl, h1, hf⟩ := hf.cons
  obtain ⟨v2, _, rfl, h2, hf⟩ := hf.cons
  obtain ⟨v3, _, rfl, h3, hf⟩ := hf.cons
  obtain rfl := hf.nil
  obtain ⟨x, hx, rfl⟩ := hd_fits h1
  obtain ⟨cut, rfl, _⟩ := i64_fits h2
  obtain ⟨b, rfl⟩ := u8_fits h3
  exact HeaderBack_true hx
end Go.Proofs.Ytcapkoclbmaahaa.A
