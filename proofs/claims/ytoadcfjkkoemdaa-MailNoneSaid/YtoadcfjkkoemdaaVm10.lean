/- A small machine over an abstract heap: append answers as the model's does. -/
import Derived.Test.YtoadcfjkkoemdaaVm9
import Derived.IntWalk
namespace Go.Vm
open Go.RowKit

section
variable {P : Program} {o : Oper} {op : AOp}

theorem wrap_small {n : Nat} (h : n < 1048576) : IntKind.i64.wrap (n : Int) = (n : Int) := IntWalk.i64_in _ (by omega)

def zerosOf : TypeDesc → Bool
  | .int _ => true
  | _ => false

structure Appended (P : Program) (w : World) (size n : Nat) (zero : List Value) (zeros : Bool) (x' : Value) (new' : List Value) : Prop where
  len : new'.length = n * size
  no : zeros = false → (∀ w, (Builtin.lenOf x').run P w = .ok n w) ∧ ∀ w', w'.heap = w.heap → (Builtin.firstCells size n x').run P w' = .ok ⟨new'⟩ w'
  yes : zeros = true → x' = .int .i64 n ∧ new' = repeatL zero n

theorem zeroCells_eq (z : Array Value) (n : Nat) : Builtin.zeroCells z n = ⟨repeatL z.toList n⟩ := range_zero z n

theorem small_mul {n b : Nat} (hn : n < 1048576) (hb : b < 1048576) : ¬ (281474976710656 < (n : Int) * (b : Int)) := by
  have : n * b ≤ 1048576 * 1048576 := Nat.mul_le_mul (by omega) (by omega)
  have h6 : ((n * b : Nat) : Int) ≤ ((1048576 * 1048576 : Nat) : Int) := Int.ofNat_le.2 this
  rw [Int.natCast_mul] at h6
  omega

set_option maxRecDepth 10000 in
theorem append_room {w : World} {ts tx ty el : TypeId} {d : TypeDesc} {i : TypeInfo} {v : Value} {zero : List Value} {n : Nat} {x' : Value} {new' : List Value} {base' : Option Addr} {len c' : Nat}
    (hts : P.underlying ts = some (.slice el)) (htx : P.underlying tx = some d) (hi : P.info? el = some i) (hv : zeroT P el = some v) (hvz : v.cells.toList = zero)
    (hd : (∃ k, d = .int k) ∨ (∃ e, d = .slice e) ∨ d = .string) (ha : Appended P w i.size n zero (zerosOf d) x' new') (hn : n < 1048576) (hb : i.bytes < 1048576) (hroom : len + n ≤ c') :
    (Builtin.append_ #[ts, tx] ty #[.slice base' len c', x']).run P w =
      ((match base' with | some a => storeCells (a.add (len * i.size)) new' | none => pure ()).run P w).andThen fun _ w' => .ok (.slice base' (len + n) c') w' := by
  have hs := run_size (show sizeT P el = some i.size by simp [sizeT, hi])
  have hno : zerosOf d = false → (∃ e, d = .slice e) ∨ d = .string → (Builtin.append_ #[ts, tx] ty #[.slice base' len c', x']).run P w =
      ((match base' with | some a => storeCells (a.add (len * i.size)) new' | none => pure ()).run P w).andThen fun _ w' => .ok (.slice base' (len + n) c') w' := by
    intro hz hd
    obtain ⟨h1, h2⟩ := ha.no hz
    have h3 := h2 w rfl
    clear h2 ha
    rcases hd with ⟨k, rfl⟩ | rfl <;> cases base' <;> simp [Builtin.append_, run_under hts, run_under htx, hs, h1, h3, hroom]
  rcases hd with ⟨k, rfl⟩ | ⟨k, rfl⟩ | rfl
  · obtain ⟨rfl, h2⟩ := ha.yes rfl
    have h5 := small_mul hn hb
    have h6 : ¬ ((n : Int) < 0) := by omega
    have hlen := ha.len
    clear ha hno
    by_cases h0 : n * i.size = 0
    · have : new' = [] := List.length_eq_zero_iff.1 (by rw [hlen, h0])
      subst this
      cases base' <;> simp [Builtin.append_, run_under hts, run_under htx, hs, asInt, asIntOf, wrap_small hn, run_info hi, h5, h6, hroom, h0]
    · have hz := run_zero hv
      cases base' <;> simp [Builtin.append_, run_under hts, run_under htx, hs, asInt, asIntOf, wrap_small hn, run_info hi, h5, h6, hroom, h0, hz, zeroCells_eq, hvz, h2]
  · exact hno rfl (.inl ⟨k, rfl⟩)
  · exact hno rfl (.inr rfl)

set_option maxRecDepth 10000 in
theorem append_grow {w : World} {ts tx ty el : TypeId} {d : TypeDesc} {i : TypeInfo} {v : Value} {zero : List Value} {n : Nat} {x' : Value} {old' new' : List Value} {base' : Option Addr} {len c' : Nat}
    (hts : P.underlying ts = some (.slice el)) (htx : P.underlying tx = some d) (hi : P.info? el = some i) (hv : zeroT P el = some v) (hvz : v.cells.toList = zero) (hzl : zero.length = i.size)
    (hd : (∃ k, d = .int k) ∨ (∃ e, d = .slice e) ∨ d = .string) (ha : Appended P w i.size n zero (zerosOf d) x' new') (hn : len + n < 1048576) (hb : i.bytes < 1048576) (hroom : ¬ len + n ≤ c')
    (hold : ∀ w', w'.heap = w.heap → (Builtin.firstCells i.size len (.slice base' len c')).run P w' = .ok ⟨old'⟩ w') :
    ∃ cap extra, len + n ≤ cap ∧ extra.length = (cap - (len + n)) * i.size ∧ (Builtin.append_ #[ts, tx] ty #[.slice base' len c', x']).run P w =
      .ok (.slice (some ⟨w.heap.size, 0, none⟩) (len + n) cap) (w.drew.alloc (.cells ⟨old' ++ new' ++ extra⟩ el)) := by
  have hcap := grown_ge w (len + n) c' el
  refine ⟨_, repeatL zero ((Question.appendCap (len + n) c' el).cut (w.tape w.drawn (.appendCap (len + n) c' el)) - (len + n)), hcap, by rw [repeatL_length, hzl], ?_⟩
  have hnc := nextcap_le (show c' < len + n by omega)
  have h48 : ¬ (281474976710656 < Builtin.nextslicecap (len + n) c' * i.bytes) := by
    have : Builtin.nextslicecap (len + n) c' * i.bytes ≤ 2098152 * 1048576 := Nat.mul_le_mul (by omega) (by omega)
    omega
  have hmx : IntKind.i64.max = 9223372036854775807 := by decide
  have h63 : ¬ (9223372036854775807 < (len : Int) + (n : Int)) := by omega
  have hs := run_size (show sizeT P el = some i.size by simp [sizeT, hi])
  have hz := run_zero hv
  have h3' := hold w.drew rfl
  have hno : zerosOf d = false → (∃ e, d = .slice e) ∨ d = .string → (Builtin.append_ #[ts, tx] ty #[.slice base' len c', x']).run P w =
      .ok (.slice (some ⟨w.heap.size, 0, none⟩) (len + n) ((Question.appendCap (len + n) c' el).cut (w.tape w.drawn (.appendCap (len + n) c' el))))
        (w.drew.alloc (.cells ⟨old' ++ new' ++ repeatL zero ((Question.appendCap (len + n) c' el).cut (w.tape w.drawn (.appendCap (len + n) c' el)) - (len + n))⟩ el)) := by
    intro hz0 hd
    obtain ⟨h1, h2⟩ := ha.no hz0
    have h3 := h2 w.drew rfl
    clear h2 ha hold
    rcases hd with ⟨k, rfl⟩ | rfl <;> simp [Builtin.append_, run_under hts, run_under htx, hs, h1, hroom, run_info hi, hmx, h63, h48, Question.forced, h3, h3', hz, zeroCells_eq, hvz, newRow]
  rcases hd with ⟨k, rfl⟩ | ⟨k, rfl⟩ | rfl
  · obtain ⟨rfl, h2⟩ := ha.yes rfl
    have h5 := small_mul (show n < 1048576 by omega) hb
    have h6 : ¬ ((n : Int) < 0) := by omega
    have hlen := ha.len
    clear ha hno hold
    by_cases h0 : n * i.size = 0
    · have : new' = [] := List.length_eq_zero_iff.1 (by rw [hlen, h0])
      subst this
      simp [Builtin.append_, run_under hts, run_under htx, hs, asInt, asIntOf, wrap_small (show n < 1048576 by omega), run_info hi, h5, h6, hroom, hmx, h63, h48, Question.forced, h0, h3', hz, zeroCells_eq, hvz, newRow]
    · simp [Builtin.append_, run_under hts, run_under htx, hs, asInt, asIntOf, wrap_small (show n < 1048576 by omega), run_info hi, h5, h6, hroom, hmx, h63, h48, Question.forced, h0, h3', hz, zeroCells_eq, hvz, newRow, h2]
  · exact hno rfl (.inl ⟨k, rfl⟩)
  · exact hno rfl (.inr rfl)

end
end Go.Vm
