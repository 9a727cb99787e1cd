/- A small machine over an abstract heap: append. -/
import Derived.Test.YtoadcfjkkoemdaaVm8
import Derived.Deep.AppendSrc
namespace Go.Vm
open Go.RowKit

section
variable {P : Program} {o : Oper} {op : AOp}

theorem repeatL_length (z : List Value) : ∀ n, (repeatL z n).length = n * z.length
  | 0 => by simp [repeatL]
  | n + 1 => by simp [repeatL, repeatL_length z n, Nat.add_mul]; omega

theorem repeatL_ground {z : List Value} (hz : groundL z = true) : ∀ n, groundL (repeatL z n) = true
  | 0 => rfl
  | n + 1 => by
    have key : ∀ (a b : List Value), groundL a = true → groundL b = true → groundL (a ++ b) = true := by
      intro a b ha hb
      induction a with
      | nil => simpa using hb
      | cons x a ih =>
        simp only [groundL, Bool.and_eq_true, List.cons_append] at ha ⊢
        exact ⟨ha.1, ih ha.2⟩
    exact key _ _ hz (repeatL_ground hz n)

theorem repeatL_get (z : List Value) : ∀ (n i : Nat), i < n * z.length → (repeatL z n)[i]? = z[i % z.length]?
  | 0, i, h => by simp at h
  | n + 1, i, h => by
    simp only [repeatL, List.getElem?_append]
    split
    · rename_i hi; rw [Nat.mod_eq_of_lt hi]
    · rename_i hi
      rw [repeatL_get z n (i - z.length) (by rw [Nat.add_mul] at h; omega)]
      congr 1
      have : i = i - z.length + z.length := by omega
      conv => rhs; rw [this, Nat.add_mod_right]

theorem range_zero (z : Array Value) (n : Nat) : (Array.range (n * z.size)).map (fun i => z[i % z.size]!) = ⟨repeatL z.toList n⟩ := by
  apply Array.ext'
  apply List.ext_getElem?
  intro i
  simp only [Array.toList_map, List.getElem?_map, Array.toList_range]
  by_cases hi : i < n * z.size
  · rw [List.getElem?_eq_getElem (by simpa using hi), repeatL_get _ _ _ (by simpa using hi)]
    simp only [Option.map_some, List.getElem_range, Array.length_toList]
    have hz : 0 < z.size := by
      rcases Nat.eq_zero_or_pos z.size with h | h
      · rw [h] at hi; simp at hi
      · exact h
    have hm := Nat.mod_lt i hz
    rw [List.getElem?_eq_getElem (by simpa using hm)]
    simp [getElem!_pos, hm]
  · rw [List.getElem?_eq_none (by simpa using hi), List.getElem?_eq_none (by rw [repeatL_length]; simpa using hi)]
    rfl

theorem cellsAt_length {h : Heap} {b off n : Nat} {c : List Value} (hc : cellsAt h b off n = some c) : c.length = n := by
  unfold cellsAt at hc
  by_cases hn0 : n = 0
  · rw [if_pos hn0] at hc; cases hc; simp [hn0]
  rw [if_neg hn0] at hc
  split at hc
  · split at hc
    · cases hc; simp; omega
    · cases hc
  · cases hc

theorem oneCell_of {g : Gh} {h : Heap} {B : Nat} {w0 w : World} (_ : HR g h B w0 w) {l l' : List Value} (hv : VRL g l l') (h1 : l.all Value.oneCell' = true) : ∀ v ∈ l', v.oneCell' = true := by
  induction l generalizing l' with
  | nil => cases hv; intro _ v; simp at v
  | cons u l ih =>
    cases hv with
    | cons hu hl =>
      intro v hv
      simp only [List.all_cons, Bool.and_eq_true] at h1
      rcases List.mem_cons.1 hv with rfl | hv
      · rw [oneCell_vr hu]; exact h1.1
      · exact ih hl h1.2 v hv

/-- what is appended -/
theorem new_run {g : Gh} {h : Heap} {B : Nat} {w0 w : World} (hr : HR g h B w0 w) {size : Nat} {zero : List Value} {zeros : Bool} {x x' : Value} {n : Nat} {new : List Value}
    (hn : newCells h size zero zeros x = some (n, new)) (hx : VR g x x') (hz : groundL zero = true) (hzl : zero.length = size) :
    ∃ new', VRL g new new' ∧ new'.length = n * size ∧
      (zeros = false → (∀ w, (Builtin.lenOf x').run P w = .ok n w) ∧ ∀ w', w'.heap = w.heap → (Builtin.firstCells size n x').run P w' = .ok ⟨new'⟩ w') ∧
      (zeros = true → x' = .int .i64 n ∧ new' = repeatL zero n) := by
  unfold newCells at hn
  split at hn
  · rename_i m c
    split at hn
    · cases hn
    · rename_i hc
      cases hn
      simp only [Bool.or_eq_true, bne_iff_ne, ne_eq, not_or, Bool.not_eq_true, Decidable.not_not] at hc
      obtain ⟨rfl, rfl⟩ := hc
      have := hx.eq_ground rfl
      subst this
      exact ⟨[], .nil, by simp, fun _ => ⟨fun w => by simp [Builtin.lenOf], fun w' _ => by simp [Builtin.firstCells]⟩, fun h => by cases h⟩
  · rename_i a m c
    split at hn
    · cases hn
    · rename_i hzs
      obtain ⟨cs, hc, hcs⟩ := Option.map_eq_some_iff.1 hn
      cases hcs
      obtain ⟨a', c', rfl, har, _⟩ := hx.slice
      obtain ⟨new', hrun, hvr⟩ := loadCells_sound' (P := P) hr hc har rfl rfl
      exact ⟨new', hvr, by rw [hvr.length, cellsAt_length hc], fun _ => ⟨fun w => by simp [Builtin.lenOf], fun w' hw' => by simpa [Builtin.firstCells] using hrun w' hw'⟩, fun h => by simp [h] at hzs⟩
  · rename_i s
    split at hn
    · cases hn
    · rename_i hc
      cases hn
      have hs1 : size = 1 := by
        rcases Nat.decEq size 1 with h1 | h1
        · simp [h1] at hc
        · exact h1
      have hzf : zeros = false := by cases zeros <;> simp_all
      have := hx.string
      subst this
      have hg : ∀ l : List UInt8, groundL (l.map fun b => Value.int .u8 b.toNat) = true := by
        intro l; induction l with
        | nil => rfl
        | cons a l ih => simp [groundL, ground, ih]
      refine ⟨ofBytes s, VRL.of_ground (hg _), by (rw [hs1, Nat.mul_one]; unfold ofBytes; rw [List.length_map, Array.length_toList]; rfl), fun _ => ⟨fun w => by simp [Builtin.lenOf], fun w' _ => ?_⟩, fun h => by rw [hzf] at h; cases h⟩
      rw [hs1]
      exact firstCells_string s w'
  · rename_i m
    split at hn
    · rename_i hc
      cases hn
      simp only [Bool.and_eq_true, decide_eq_true_eq] at hc
      have := hx.int
      subst this
      refine ⟨repeatL zero m.toNat, VRL.of_ground (repeatL_ground hz _), by rw [repeatL_length, hzl], (fun h => by rw [hc.1] at h; cases h), fun _ => ⟨by rw [Int.toNat_of_nonneg hc.2], rfl⟩⟩
    · cases hn
  · cases hn

theorem growBy_le (n : Nat) : ∀ (r c : Nat), c ≤ 2 * n + 1000 → Builtin.growBy n r c ≤ 2 * n + 1000
  | 0, c, h => by simpa [Builtin.growBy] using h
  | r + 1, c, h => by
    simp only [Builtin.growBy]
    split
    · exact h
    · exact growBy_le n r _ (by omega)

theorem nextcap_le {n c : Nat} (h : c < n) : Builtin.nextslicecap n c ≤ 2 * n + 1000 := by
  unfold Builtin.nextslicecap
  split
  · omega
  · split
    · omega
    · exact growBy_le n 4 c (by omega)

theorem grown_ge (w : World) (need old : Nat) (e : TypeId) : need ≤ (Question.appendCap need old e).cut (w.tape w.drawn (.appendCap need old e)) := by
  simp [Question.cut]

/-- a block that stands for nobody stands for a new one -/
theorem HR.adopt {g : Gh} {h : Heap} {B : Nat} {w0 w w' : World} (hr : HR g h B w0 w) {x : GB} {ob : AObj} {o' : Obj} (hB : B ≤ x.b) (hlt : x.b < w.heap.size)
    (hno : ∀ (i : Nat) (y : GB), g[i]? = some (some y) → y.b ≠ x.b)
    (hw : w'.heap = w.heap.setIfInBounds x.b o') (hw1 : w'.os = w.os) (hw2 : w'.tape = w.tape) (hw3 : w'.output = w.output)
    (ho : OR (g ++ [some x]) w' x ob) : HR (g ++ [some x]) (h.push ob) B w0 w' where
  len := by simp [hr.len]
  alive := fun i y hy => by
    rw [Heap.get_push]
    by_cases hi : i < g.length
    · rw [List.getElem?_append_left hi] at hy
      obtain ⟨a, b, c⟩ := hr.alive i y hy
      have hn : i ≠ h.n := by rw [← hr.len]; omega
      rw [if_neg hn]
      exact ⟨a, by rw [hw]; simpa using b, (c.mono (Le.push _ _)).heap (by rw [hw, Array.getElem?_setIfInBounds_ne (Ne.symm (hno i y hy))])⟩
    · have hil : i = g.length := by
        have := (List.getElem?_eq_some_iff.1 hy).1
        simp at this; omega
      subst hil
      simp at hy
      subst hy
      rw [if_pos hr.len]
      exact ⟨.inl hB, by rw [hw]; simpa using hlt, ho⟩
  inj := fun i j y z hBy hy hz hb => by
    have sp : ∀ (i : Nat) (y : GB), (g ++ [some x])[i]? = some (some y) → (i < g.length ∧ g[i]? = some (some y) ∧ y.b ≠ x.b) ∨ (i = g.length ∧ y.b = x.b) := fun i y hy => by
      by_cases hi : i < g.length
      · rw [List.getElem?_append_left hi] at hy
        exact .inl ⟨hi, hy, hno i y hy⟩
      · have hil : i = g.length := by
          have := (List.getElem?_eq_some_iff.1 hy).1
          simp at this; omega
        subst hil
        simp at hy
        subst hy
        exact .inr ⟨rfl, rfl⟩
    rcases sp i y hy with ⟨h1, h2, h3⟩ | ⟨h1, h3⟩ <;> rcases sp j z hz with ⟨k1, k2, k3⟩ | ⟨k1, k3⟩
    · exact hr.inj i j y z hBy h2 k2 hb
    · rw [hb, k3] at h3; exact absurd rfl h3
    · rw [← hb, h3] at k3; exact absurd rfl k3
    · omega
  dead := fun i hi => by
    rw [Heap.get_push]
    by_cases e : i = h.n
    · exact absurd (show (g ++ [some x])[i]? = some (some x) by rw [e, ← hr.len]; simp) (hi x)
    · rw [if_neg e]
      refine hr.dead i fun y hy => ?_
      have hl := (List.getElem?_eq_some_iff.1 hy).1
      exact hi y (by rw [List.getElem?_append_left hl]; exact hy)
  below := hr.below.trans ⟨hw1, hw2, hw3, by rw [hw]; simp, fun k hk => by
    rw [hw, Array.getElem?_setIfInBounds_ne (by omega)]⟩
  base := hr.base
  zero := by
    have h0 := hr.zero
    have hl := (List.getElem?_eq_some_iff.1 h0).1
    rw [List.getElem?_append_left hl]; exact h0

end
end Go.Vm
