/- Contracts of the program's reader of bytes (wire), 7: readings, numbers. -/
import Derived.Test.YtmfaepkmiceoeaaW6
import Derived.Test.YtmfaepkmiceoeaaVJ
namespace Go.Proofs.Ytmfaepkmiceoeaa.A
open Go Go.Vm
set_option maxRecDepth 10000
set_option linter.unusedVariables false

theorem numS_err {bs : List UInt8} {pl : Nat} {e : Int} (h : numS bs pl = .error e) : e = 5 ∨ e = 6 := by
  unfold numS at h
  split at h
  · cases h; exact .inr rfl
  · split at h
    · cases h; exact .inl rfl
    · split at h
      · cases h; exact .inr rfl
      · split at h
        · cases h; exact .inl rfl
        · cases h
theorem numS_ok {bs : List UInt8} {pl n pl' : Nat} (h : numS bs pl = .ok (n, pl')) : n ≤ 9223372036854775807 ∧ pl' ≤ bs.length ∧ pl < pl' := by
  unfold numS at h
  split at h
  · cases h
  · split at h
    · cases h
    · split at h
      · cases h
      · split at h
        · cases h
        · cases h
          refine ⟨?_, by omega, by omega⟩
          omega

/-- what bytes with their length ahead come to -/
def bytesS (bs : List UInt8) (most pl : Nat) : Except Int (List UInt8 × Nat) :=
  match numS bs pl with
  | .error e => .error e
  | .ok (n, pl1) => if most < n then .error 4 else if bs.length < pl1 + n then .error 6 else .ok ((bs.drop pl1).take n, pl1 + n)
/-- so many bytes -/
def partS (k : Nat) (bs : List UInt8) (pl : Nat) : Except Int (List UInt8 × Nat) :=
  if bs.length < pl + k then .error 6 else .ok ((bs.drop pl).take k, pl + k)

/-! ### Readings -/

/-- how a reader stands -/
structure RSt where
  pl : Nat
  e : Int
  fa : Int

/-- a reader that stands so -/
structure PRs (h : Heap) (p : Nat) (sv : Value) (bs : List UInt8) (st : RSt) : Prop where
  ex : ∃ pl, (st.e = 0 → pl = st.pl ∧ st.fa = 0) ∧ PR h p sv bs pl st.e st.fa

/-- a reading -/
def rd {α : Type} (S : Nat → Except Int (α × Nat)) (zero : α) (st : RSt) : α × RSt :=
  if st.e = 0 then match S st.pl with
    | .ok (a, pl) => (a, ⟨pl, 0, 0⟩)
    | .error e => (zero, ⟨0, e, st.pl⟩)
  else (zero, st)

theorem PRs.keep {S : Nat → Prop} {h h' : Heap} {p : Nat} {sv : Value} {bs : List UInt8} {st : RSt} (hp : PRs h p sv bs st) (hf : Fr S h h') (hs : ¬ S p) (hb : ∀ i, ownedBy sv i → ¬ S i) : PRs h' p sv bs st :=
  let ⟨pl, h1, h2⟩ := hp.ex
  ⟨pl, h1, h2.keep hf hs hb⟩
theorem PRs.none {h h' : Heap} {p : Nat} {sv : Value} {bs : List UInt8} {st : RSt} (hp : PRs h p sv bs st) (hf : Fr (fun _ => False) h h') : PRs h' p sv bs st := hp.keep hf id fun _ _ => id
theorem PRs.lt {h : Heap} {p : Nat} {sv : Value} {bs : List UInt8} {st : RSt} (hp : PRs h p sv bs st) : p < h.n := let ⟨_, _, h2⟩ := hp.ex; h2.lt
theorem PRs.small {h : Heap} {p : Nat} {sv : Value} {bs : List UInt8} {st : RSt} (hp : PRs h p sv bs st) : bs.length < 1048576 := let ⟨_, _, h2⟩ := hp.ex; h2.small
theorem PRs.le {h : Heap} {p : Nat} {sv : Value} {bs : List UInt8} {st : RSt} (hp : PRs h p sv bs st) (he : st.e = 0) : st.pl ≤ bs.length := let ⟨_, h1, h2⟩ := hp.ex; (h1 he).1 ▸ h2.at_le
theorem PRs.mk' {h : Heap} {p : Nat} {sv : Value} {bs : List UInt8} {pl : Nat} (hp : PR h p sv bs pl 0 0) : PRs h p sv bs ⟨pl, 0, 0⟩ := ⟨pl, fun _ => ⟨rfl, rfl⟩, hp⟩

/-- what a reading owes -/
def Reads {α : Type} (h : Heap) (p : Nat) (sv : Value) (bs : List UInt8) (x : α × RSt) (V : α → Value → Heap → Prop) (r : Value) (h' : Heap) : Prop :=
  Fr (fun i => i = p) h h' ∧ V x.1 r h' ∧ PRs h' p sv bs x.2

theorem rd_ok {α : Type} {h h' : Heap} {p : Nat} {sv : Value} {bs : List UInt8} {pl pl' : Nat} {S : Nat → Except Int (α × Nat)} {zero a : α} {V : α → Value → Heap → Prop} {r : Value} (hS : S pl = .ok (a, pl')) (hf : Fr (fun i => i = p) h h') (hV : V a r h') (hp : PR h' p sv bs pl' 0 0) :
    Reads h p sv bs (rd S zero ⟨pl, 0, 0⟩) V r h' := by
  unfold rd
  rw [if_pos rfl]
  simp only [hS]
  exact ⟨hf, hV, .mk' hp⟩
theorem rd_err {α : Type} {h h' : Heap} {p : Nat} {sv : Value} {bs : List UInt8} {pl pl' : Nat} {e : Int} {S : Nat → Except Int (α × Nat)} {zero : α} {V : α → Value → Heap → Prop} {r : Value} (hS : S pl = .error e) (he : e ≠ 0) (hf : Fr (fun i => i = p) h h') (hV : V zero r h') (hp : PR h' p sv bs pl' e pl) :
    Reads h p sv bs (rd S zero ⟨pl, 0, 0⟩) V r h' := by
  unfold rd
  rw [if_pos rfl]
  simp only [hS]
  exact ⟨hf, hV, ⟨pl', fun h0 => absurd h0 he, hp⟩⟩
theorem rd_bad {α : Type} {h h' : Heap} {p : Nat} {sv : Value} {bs : List UInt8} {st : RSt} {S : Nat → Except Int (α × Nat)} {zero : α} {V : α → Value → Heap → Prop} {r : Value} (he : st.e ≠ 0) (hf : Fr (fun i => i = p) h h') (hV : V zero r h') (hp : PRs h' p sv bs st) :
    Reads h p sv bs (rd S zero st) V r h' := by
  unfold rd
  rw [if_neg he]
  exact ⟨hf, hV, hp⟩

/-- (Reader).Num -/
theorem Num_run {h : Heap} {p : Nat} {sv : Value} {bs : List UInt8} {st : RSt} (hp : PRs h p sv bs st) :
    Runs Try.prog T0 (.fn fn_wire_Reader_Num) [.pointer (some ⟨p, 0, none⟩)] h (Reads h p sv bs (rd (numS bs) 0 st) fun a r _ => r = .int .i64 (a : Nat)) (fun _ _ => False) := by
  obtain ⟨st1, e, fa⟩ := st
  obtain ⟨pl, h1, h2⟩ := hp.ex
  by_cases he : e = 0
  · subst he
    obtain ⟨rfl, h3⟩ := h1 rfl
    have h3 : fa = 0 := h3
    subst h3
    refine (Num_ok h2).imp fun r h' ⟨hf, hq⟩ => ?_
    cases hS : numS bs pl with
    | ok x =>
      rw [hS] at hq
      exact rd_ok hS hf hq.1 hq.2
    | error e =>
      rw [hS] at hq
      obtain ⟨hz, pl', hp'⟩ := hq
      exact rd_err hS (by rcases numS_err hS with rfl | rfl <;> omega) hf hz hp'
  · refine (Num_bad h2 he).imp fun r h' ⟨hz, hh⟩ => ?_
    subst hh
    exact rd_bad he Fr.refl hz hp

end Go.Proofs.Ytmfaepkmiceoeaa.A
