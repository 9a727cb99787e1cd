/- A small machine over an abstract heap: slices of bytes, and other lists that are read or grow. -/
import Derived.Test.YtoadcfjkkoemdaaVm35
set_option linter.unusedSimpArgs false
set_option linter.unusedVariables false
namespace Go.Vm

theorem bcells_len (l : List UInt8) : (bcells l).length = l.length := by simp [bcells]
theorem bcells_append (l m : List UInt8) : bcells (l ++ m) = bcells l ++ bcells m := by simp [bcells]
theorem bcells_drop (l : List UInt8) (n : Nat) : (bcells l).drop n = bcells (l.drop n) := by simp [bcells]
theorem bcells_take (l : List UInt8) (n : Nat) : (bcells l).take n = bcells (l.take n) := by simp [bcells]
theorem bcells_ground (l : List UInt8) : groundL (bcells l) = true := by
  induction l with
  | nil => rfl
  | cons a l ih => show (ground (.int .u8 a.toNat) && groundL (bcells l)) = true; rw [ih]; rfl
instance {l : List UInt8} : GrL (bcells l) := ⟨bcells_ground l⟩
theorem bcells_one (l : List UInt8) : (bcells l).all Value.oneCell' = true := by
  simp [bcells, Value.oneCell']
instance {l : List UInt8} : One (bcells l) := ⟨bcells_one l⟩

theorem cellsAt_zero (h : Heap) (b off : Nat) : cellsAt h b off 0 = some [] := by simp [cellsAt]
theorem cellsAt_of {h : Heap} {b off n : Nat} {c : List Value} (hc : (h.get b).cellsOf = some c) (hl : off + n ≤ c.length) : cellsAt h b off n = some ((c.drop off).take n) := by
  unfold cellsAt
  by_cases hn : n = 0
  · subst hn; simp
  · rw [if_neg hn, hc]
    show (if off + n ≤ c.length then some ((c.drop off).take n) else none) = _
    rw [if_pos hl]
theorem cellsAt_sub {h : Heap} {b off n k m : Nat} {c : List Value} (hc : cellsAt h b off n = some c) (hl : k + m ≤ n) : cellsAt h b (off + k) m = some ((c.drop k).take m) := by
  by_cases hm : m = 0
  · subst hm; simp [cellsAt_zero]
  unfold cellsAt at hc
  rw [if_neg (by omega)] at hc
  split at hc
  · rename_i d hd
    split at hc
    · rename_i hle
      cases hc
      rw [cellsAt_of hd (by omega)]
      rw [List.drop_take, List.drop_drop, List.take_take]
      congr 2
      omega
    · cases hc
  · cases hc
theorem cellsAt_keep {S : Nat → Prop} {h h' : Heap} {b off n : Nat} (hf : Fr S h h') (hb : b < h.n) (hn : ¬ S b) : cellsAt h' b off n = cellsAt h b off n := by
  unfold cellsAt; rw [hf.get b hb hn]

/-! ### Cells that a slice shows -/

/-- a slice whose elements, of so many cells each, are these cells -/
def Rd (h : Heap) (size : Nat) (v : Value) (c : List Value) (n : Nat) : Prop :=
  ∃ a cap, v = .slice a n cap ∧ c.length = n * size ∧ (n ≠ 0 → ∃ b o sp, a = some ⟨b, o, sp⟩ ∧ b < h.n ∧ cellsAt h b o (n * size) = some c)

/-- the blocks at which a slice looks -/
def blockOf : Value → Nat → Prop
  | .slice (some a) n _, i => a.block = i ∧ n ≠ 0
  | _, _ => False

theorem Rd.nil {h : Heap} {size : Nat} {a : Option Addr} {cap : Nat} : Rd h size (.slice a 0 cap) [] 0 := ⟨a, cap, rfl, by simp, fun h => absurd rfl h⟩
theorem Rd.keep {S : Nat → Prop} {h h' : Heap} {size : Nat} {v : Value} {c : List Value} {n : Nat} (hr : Rd h size v c n) (hf : Fr S h h') (hs : ∀ b, blockOf v b → ¬ S b) : Rd h' size v c n := by
  obtain ⟨a, cap, rfl, hl, hc⟩ := hr
  refine ⟨a, cap, rfl, hl, fun hn => ?_⟩
  obtain ⟨b, o, sp, rfl, hb, hcc⟩ := hc hn
  exact ⟨b, o, sp, rfl, hf.lt hb, by rw [cellsAt_keep hf hb (hs b ⟨rfl, hn⟩)]; exact hcc⟩
theorem Rd.mk {h : Heap} {size b o n cap : Nat} {sp : Option Nat} {c : List Value} (hb : b < h.n) (hc : cellsAt h b o (n * size) = some c) : Rd h size (.slice (some ⟨b, o, sp⟩) n cap) c n :=
  ⟨_, cap, rfl, cellsAt_length hc, fun _ => ⟨b, o, sp, rfl, hb, hc⟩⟩

theorem Rd.new {h : Heap} {size : Nat} {v : Value} {c : List Value} {n : Nat} (hr : Rd h size v c n) (zero : List Value) : newCells h size zero false v = some (n, c) := by
  obtain ⟨a, cap, rfl, hl, hc⟩ := hr
  cases a with
  | none =>
    by_cases hn : n = 0
    · subst hn
      have : c = [] := by simpa using hl
      subst this
      simp [newCells]
    · obtain ⟨_, _, _, h1, _⟩ := hc hn; cases h1
  | some a =>
    simp only [newCells, Bool.false_eq_true, if_false]
    by_cases hn : n = 0
    · subst hn
      have : c = [] := by simpa using hl
      subst this
      simp [cellsAt_zero]
    · obtain ⟨b, o, sp, h1, hb, h2⟩ := hc hn
      cases h1
      simp [h2]

/-! ### Slices that grow -/

/-- a slice that nobody else has: empty, or at the head of a block of its own -/
inductive Own (h : Heap) (size : Nat) : Value → List Value → Nat → Prop
  | none : Own h size (.slice none 0 0) [] 0
  | lit {q es : Nat} : q < h.n → h.get q = .cells [] es → Own h size (.slice (some ⟨q, 0, none⟩) 0 0) [] 0
  | grown {q k n cap : Nat} {c j : List Value} : q < h.n → cap ≠ 0 → n ≤ cap → c.length = n * size → (c ++ j).length = cap * size → h.get q = .cells (c ++ j) size → Own h size (.slice (some ⟨q, 0, some k⟩) n cap) c n

/-- the block that it has -/
def ownedBy : Value → Nat → Prop
  | .slice (some a) _ _, i => a.block = i
  | _, _ => False

theorem Own.rd {h : Heap} {size : Nat} {v : Value} {c : List Value} {n : Nat} (ho : Own h size v c n) : Rd h size v c n := by
  cases ho with
  | none => exact Rd.nil
  | lit _ _ => exact Rd.nil
  | grown hq hn hle hl hl2 hg => exact Rd.mk hq (by
      rw [cellsAt_of (by rw [hg]; rfl) (by rw [List.length_append]; omega), List.drop_zero, ← hl, List.take_left])

theorem Own.keep {S : Nat → Prop} {h h' : Heap} {size : Nat} {v : Value} {c : List Value} {n : Nat} (ho : Own h size v c n) (hf : Fr S h h') (hs : ∀ b, ownedBy v b → ¬ S b) : Own h' size v c n := by
  cases ho with
  | none => exact .none
  | lit hq hg => exact .lit (hf.lt hq) (by rw [hf.get _ hq (hs _ rfl), hg])
  | grown hq hn hle hl hl2 hg => exact .grown (hf.lt hq) hn hle hl hl2 (by rw [hf.get _ hq (hs _ rfl), hg])
theorem Own.lt {h : Heap} {size : Nat} {v : Value} {c : List Value} {n : Nat} (ho : Own h size v c n) {b : Nat} (hb : ownedBy v b) : b < h.n := by
  cases ho with
  | none => cases hb
  | lit hq _ => cases hb; exact hq
  | grown hq _ _ _ _ _ => cases hb; exact hq
theorem Own.len {h : Heap} {size : Nat} {v : Value} {c : List Value} {n : Nat} (ho : Own h size v c n) : c.length = n * size := by
  cases ho <;> simp_all

theorem over_front : ∀ (j d : List Value), d.length ≤ j.length → over j 0 d = d ++ j.drop d.length
  | j, [], _ => by simp [over_nil]
  | [], _ :: _, h => by simp at h
  | v :: j, w :: d, h => by
    show w :: over j 0 d = _
    rw [over_front j d (by simpa using h)]; rfl
theorem over_end (c j d : List Value) (h : d.length ≤ j.length) : over (c ++ j) c.length d = c ++ d ++ j.drop d.length := by
  have := over_app c j d 0
  rw [Nat.add_zero] at this
  rw [this, over_front j d h, List.append_assoc]

theorem over_all (c d : List Value) : over (c ++ []) 0 [] = c := by simp [over_nil]

theorem append_own {h : Heap} {size bytes : Nat} {zero : List Value} {zeros : Bool} {v x : Value} {c d : List Value} {n m : Nat} (hs : size ≠ 0) (hb : bytes < 1048576) (hsm : n + m < 1048576) (ho : Own h size v c n) (hx : newCells h size zero zeros x = some (m, d))
    (hd : d.length = m * size) (h1 : d.all Value.oneCell' = true) :
    ∃ v' h', appendOf size bytes zero zeros v x h = .ok v' h' ∧ Own h' size v' (c ++ d) (n + m) ∧ Fr (ownedBy v) h h' ∧ (∀ i, ownedBy v' i → ownedBy v i ∨ h.n ≤ i) := by
  unfold appendOf
  rw [if_neg hs]
  have hbig : ¬ (n + m ≥ 1048576 ∨ bytes ≥ 1048576) := by omega
  cases ho with
  | none =>
    rw [hx]
    simp only
    rw [if_neg hbig]
    by_cases hm : m = 0
    · subst hm
      have : d = [] := by simpa using hd
      subst this
      exact ⟨_, _, by simp, .none, Fr.refl, fun i hi => by cases hi⟩
    · refine ⟨.slice (some ⟨h.n, 0, some 0⟩) (0 + m) (0 + m), h.push (.cells d size), by simp [hm], .grown (j := []) (by simp) (by omega) (Nat.le_refl _) (by simpa using hd) (by simpa using hd) (by rw [Heap.get_push, if_pos rfl]; simp), Fr.refl.push, fun i hi => ?_⟩
      cases hi; exact .inr (Nat.le_refl _)
  | lit hq hg =>
    rename_i q es
    rw [hx]
    simp only
    rw [if_neg hbig]
    by_cases hm : m = 0
    · subst hm
      have : d = [] := by simpa using hd
      subst this
      have hp : putAt h q (0 + 0 * size) [] = some (h.set q (.cells [] es)) := by simp [putAt, hg, over_nil]
      refine ⟨_, _, by simp only [Nat.add_zero, Nat.le_refl, if_true, hp]; rfl, .lit (by simpa using hq) (by rw [Heap.get_set, if_pos rfl]), Fr.refl.set fun _ => rfl, fun i hi => ?_⟩
      cases hi; exact .inl rfl
    · refine ⟨_, _, by rw [if_neg (by omega)]; simp only [Nat.zero_mul, cellsAt_zero]; rfl, .grown (j := []) (by simp) (by omega) (Nat.le_refl _) (by simpa using hd) (by simpa using hd) (by rw [Heap.get_push, if_pos rfl]; simp), Fr.refl.push, fun i hi => ?_⟩
      cases hi; exact .inr (Nat.le_refl _)
  | grown hq hn hle hl hl2 hg =>
    rename_i q k cap j
    rw [hx]
    simp only
    rw [if_neg hbig]
    rw [List.length_append] at hl2
    by_cases hm : n + m ≤ cap
    · have hdj : d.length ≤ j.length := by
        have := Nat.mul_le_mul_right size hm
        rw [Nat.add_mul] at this
        omega
      have hp : putAt h q (0 + n * size) d = some (h.set q (.cells (c ++ d ++ j.drop d.length) size)) := by
        simp only [putAt, hg]
        rw [if_pos ⟨by rw [List.length_append]; omega, h1⟩, Nat.zero_add, ← hl, over_end c j d hdj]
      refine ⟨_, _, by simp only [hm, if_true, hp]; rfl, ?_, Fr.refl.set fun _ => rfl, fun i hi => ?_⟩
      · exact .grown (j := j.drop d.length) (by simpa using hq) hn hm (by rw [List.length_append, hl, hd, Nat.add_mul]) (by simp only [List.length_append, List.length_drop]; omega) (by rw [Heap.get_set, if_pos rfl])
      · cases hi; exact .inl rfl
    · have hca : cellsAt h q 0 (n * size) = some c := by
        rw [cellsAt_of (by rw [hg]; rfl) (by rw [List.length_append]; omega), List.drop_zero, ← hl, List.take_left]
      refine ⟨_, _, by rw [if_neg hm]; simp only [hca, hg]; rw [if_pos ⟨trivial, h1⟩], ?_, ?_, fun i hi => ?_⟩
      · refine .grown (j := []) (by simp) (by omega) (Nat.le_refl _) (by rw [List.length_append, hl, hd, Nat.add_mul]) (by rw [List.append_nil, List.length_append, hl, hd, Nat.add_mul]) (by rw [Heap.get_push, if_pos (by simp), List.append_nil])
      · exact (Fr.refl.set fun _ => rfl).push
      · cases hi; exact .inr (by simp)

/-- part of a slice -/
theorem slice_own {h : Heap} {size : Nat} {v : Value} {c : List Value} {n : Nat} (hs : size ≠ 0) (ho : Own h size v c n) {e : Operand → Value} {lo hi : Operand} {i j : Nat} {K J : IntKind} (hlo : e lo = .int K i) (hhi : e hi = .int J j) (hij : i ≤ j) (hj : j ≤ n) :
    ∃ v', sliceOf e size v (some lo) (some hi) none h = .ok v' h ∧ (∀ b, blockOf v' b → ownedBy v b) ∧ Rd h size v' ((c.drop (i * size)).take ((j - i) * size)) (j - i) := by
  have ix : ∀ {lim : Nat} {K : IntKind} {i : Nat}, i ≤ lim → idx (lim + 1) (.int K i) = some i := fun hl => by rw [idx_in (by omega)]; simp
  cases ho with
  | none =>
    obtain rfl : j = 0 := by omega
    obtain rfl : i = 0 := by omega
    refine ⟨_, by simp only [sliceOf, bnd, hlo, hhi, ix (Nat.le_refl 0)]; rfl, fun b hb => by first | exact hb.elim | exact absurd rfl hb.2, ?_⟩
    simpa using Rd.nil
  | lit hq hg =>
    obtain rfl : j = 0 := by omega
    obtain rfl : i = 0 := by omega
    refine ⟨_, by simp only [sliceOf, bnd, hlo, hhi, ix (Nat.le_refl 0)]; rfl, fun b hb => by first | exact hb.elim | exact absurd rfl hb.2, ?_⟩
    simpa using Rd.nil
  | grown hq hn hle hl hl2 hg =>
    rename_i q k cap jj
    rw [List.length_append] at hl2
    have hca : cellsAt h q 0 (n * size) = some c := by
      rw [cellsAt_of (by rw [hg]; rfl) (by rw [List.length_append]; omega), List.drop_zero, ← hl, List.take_left]
    have hmul : i * size + (j - i) * size = j * size := by rw [← Nat.add_mul]; congr 1; omega
    have hmul2 : j * size ≤ n * size := Nat.mul_le_mul_right _ hj
    have hj' : j ≤ cap := by omega
    by_cases hi0 : i = 0
    · subst hi0
      refine ⟨.slice (some ⟨q, 0, some k⟩) j cap, by simp only [sliceOf, bnd, hlo, hhi, ix hj', ix (Nat.zero_le j)]; rw [if_neg (by omega)]; simp, fun b hb => hb.1, ?_⟩
      refine Rd.mk hq ?_
      have := cellsAt_sub (k := 0) (m := j * size) hca (by omega)
      simpa using this
    · by_cases hin : i = cap
      · refine ⟨.slice (some ⟨0, 0, some k⟩) 0 0, by simp only [sliceOf, bnd, hlo, hhi, ix hj', ix hij]; rw [if_neg (by omega)]; simp only [hi0, if_false, hin, if_true, hn], fun b hb => absurd rfl hb.2, ?_⟩
        have : j - i = 0 := by omega
        rw [this]
        simpa using Rd.nil
      · refine ⟨.slice (some ⟨q, 0 + i * size, some k⟩) (j - i) (cap - i), by simp only [sliceOf, bnd, hlo, hhi, ix hj', ix hij]; rw [if_neg (by omega)]; simp only [hi0, if_false, if_neg (Ne.symm hin), hg, if_true], fun b hb => hb.1, ?_⟩
        refine Rd.mk hq ?_
        simp only [Nat.zero_add]
        have := cellsAt_sub (k := i * size) (m := (j - i) * size) hca (by omega)
        simpa using this

end Go.Vm
