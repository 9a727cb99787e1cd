/- Contracts of functions, over the machine. -/
import Derived.Test.YtoadcfjkkoemdaaQMailActs1
import Derived.Test.YtoadcfjkkoemdaaVK
import Derived.Test.YtoadcfjkkoemdaaVJ
set_option linter.unusedSimpArgs false
set_option linter.unusedSectionVars false
noncomputable section
namespace Go.Proofs.Ytoadcfjkkoemdaa.A
open Go Go.Vm
set_option maxRecDepth 10000
set_option linter.unusedVariables false
section
variable {α : Type} [Inhabited α] {lt : α → α → Bool}
abbrev at' (l : List α) (i : Nat) : α := l.getD i default
theorem at_set {l : List α} {i k : Nat} {x : α} (hi : i < l.length) : at' (l.set i x) k = if k = i then x else at' l k := by
  simp only [at', List.getD_eq_getElem?_getD, List.getElem?_set]
  by_cases h : i = k
  · subst h; simp [hi]
  · rw [if_neg h, if_neg (fun e => h e.symm)]
theorem at_mem {l : List α} {i : Nat} (hi : i < l.length) : at' l i ∈ l := by
  simp only [at', List.getD_eq_getElem?_getD, List.getElem?_eq_getElem hi, Option.getD_some]
  exact List.getElem_mem hi
theorem at_ext {l m : List α} (hl : l.length = m.length) (h : ∀ k, k < l.length → at' l k = at' m k) : l = m := by
  refine List.ext_getElem hl fun i h1 h2 => ?_
  have := h i h1
  simpa only [at', List.getD_eq_getElem?_getD, List.getElem?_eq_getElem h1, List.getElem?_eq_getElem h2, Option.getD_some] using this
theorem at_take {l : List α} {n k : Nat} (hk : k < n) : at' (l.take n) k = at' l k := by
  simp only [at', List.getD_eq_getElem?_getD, List.getElem?_take, if_pos hk]
theorem at_append {l m : List α} {k : Nat} (hk : k < l.length) : at' (l ++ m) k = at' l k := by
  simp only [at', List.getD_eq_getElem?_getD, List.getElem?_append_left hk]
def swp (l : List α) (i j : Nat) : List α := (l.set i (at' l j)).set j (at' l i)
theorem swp_len {l : List α} {i j : Nat} : (swp l i j).length = l.length := by simp [swp]
theorem swp_at {l : List α} {i j k : Nat} (hi : i < l.length) (hj : j < l.length) : at' (swp l i j) k = if k = j then at' l i else if k = i then at' l j else at' l k := by
  unfold swp
  rw [at_set (by simpa using hj), at_set hi]
theorem swp_perm {l : List α} {i j : Nat} (hi : i < l.length) (hj : j < l.length) : (swp l i j).Perm l := by
  classical
  rw [List.perm_iff_count]
  intro b
  have e1 : at' l i = l[i] := by simp only [at', List.getD_eq_getElem?_getD, List.getElem?_eq_getElem hi, Option.getD_some]
  have e2 : at' l j = l[j] := by simp only [at', List.getD_eq_getElem?_getD, List.getElem?_eq_getElem hj, Option.getD_some]
  unfold swp
  rw [e1, e2, List.count_set (by simpa using hj), List.count_set hi]
  have c1 : l[i] = b → 0 < l.count b := fun e => List.count_pos_iff.2 (by rw [← e]; exact List.getElem_mem hi)
  rw [List.getElem_set]
  by_cases h : i = j
  · subst h
    simp only [if_true]
    by_cases h1 : l[i] = b
    · have := c1 h1; simp only [h1, beq_self_eq_true, if_true]; omega
    · have : (l[i] == b) = false := by simpa using h1
      simp only [this]; simp
  · rw [if_neg h]
    by_cases h1 : l[i] = b <;> by_cases h2 : l[j] = b
    · have := c1 h1; simp only [h1, h2, beq_self_eq_true, if_true]; omega
    · have h2' : (l[j] == b) = false := by simpa using h2
      have := c1 h1
      simp only [h1, h2', beq_self_eq_true, if_true]; simp; omega
    · have h1' : (l[i] == b) = false := by simpa using h1
      simp only [h1', h2, beq_self_eq_true, if_true]; simp
    · have h1' : (l[i] == b) = false := by simpa using h1
      have h2' : (l[j] == b) = false := by simpa using h2
      simp only [h1', h2']; simp
structure Ord (lt : α → α → Bool) : Prop where
  asy : ∀ a b, lt a b = true → lt b a = false
  tr : ∀ a b c, lt b a = false → lt c b = false → lt c a = false
abbrev edge (lt : α → α → Bool) (l : List α) (k : Nat) : Prop := lt (at' l k) (at' l ((k - 1) / 2)) = false
def HeapP (lt : α → α → Bool) (lo n : Nat) (l : List α) : Prop := ∀ k, 0 < k → k < n → lo ≤ (k - 1) / 2 → edge lt l k
def upF (lt : α → α → Bool) : Nat → List α → Nat → List α
  | 0, l, _ => l
  | m + 1, l, j => if (j - 1) / 2 = j then l else if lt (at' l j) (at' l ((j - 1) / 2)) then upF lt m (swp l ((j - 1) / 2) j) ((j - 1) / 2) else l
def kid (lt : α → α → Bool) (l : List α) (i n : Nat) : Nat := if 2 * i + 2 < n ∧ lt (at' l (2 * i + 2)) (at' l (2 * i + 1)) = true then 2 * i + 2 else 2 * i + 1
def downF (lt : α → α → Bool) : Nat → List α → Nat → Nat → List α × Nat
  | 0, l, i, _ => (l, i)
  | m + 1, l, i, n => if n ≤ 2 * i + 1 then (l, i) else if lt (at' l (kid lt l i n)) (at' l i) then downF lt m (swp l i (kid lt l i n)) (kid lt l i n) n else (l, i)
structure DInv (lt : α → α → Bool) (lo n i : Nat) (b : Prop) (l : List α) : Prop where
  a : ∀ k, 0 < k → k < n → lo ≤ (k - 1) / 2 → (k - 1) / 2 ≠ i → (k = i → b) → edge lt l k
  c : ∀ k, 0 < k → k < n → (k - 1) / 2 = i → 0 < i → lo ≤ (i - 1) / 2 → lt (at' l k) (at' l ((i - 1) / 2)) = false
theorem kid_lt {l : List α} {i n : Nat} (h : 2 * i + 1 < n) : kid lt l i n < n ∧ (kid lt l i n - 1) / 2 = i ∧ i < kid lt l i n := by
  unfold kid
  split
  · rename_i h1; exact ⟨h1.1, by omega, by omega⟩
  · exact ⟨h, by omega, by omega⟩
theorem kid_least (O : Ord lt) {l : List α} {i n k : Nat} (hk : k < n) (h0 : 0 < k) (hp : (k - 1) / 2 = i) : lt (at' l k) (at' l (kid lt l i n)) = false := by
  have hirr : ∀ a, lt a a = false := fun a => by
    cases h : lt a a with
    | false => rfl
    | true => rw [← O.asy a a h, h]
  unfold kid
  have : k = 2 * i + 1 ∨ k = 2 * i + 2 := by omega
  split
  · rename_i h1
    rcases this with rfl | rfl
    · exact O.asy _ _ h1.2
    · exact hirr _
  · rename_i h1
    rcases this with rfl | rfl
    · exact hirr _
    · have : ¬ lt (at' l (2 * i + 2)) (at' l (2 * i + 1)) = true := fun h => h1 ⟨hk, h⟩
      simpa using this
theorem DInv.step (O : Ord lt) {lo n i : Nat} {b : Prop} {l : List α} (h : DInv lt lo n i b l) (hl : n ≤ l.length) (hn : 2 * i + 1 < n) (hlo : lo ≤ i) (hlt : lt (at' l (kid lt l i n)) (at' l i) = true) : DInv lt lo n (kid lt l i n) True (swp l i (kid lt l i n)) := by
  obtain ⟨k1, k2, k3⟩ := kid_lt (lt := lt) (l := l) hn
  have hmin := fun {k : Nat} (a : k < n) (b : 0 < k) (c : (k - 1) / 2 = i) => kid_least O (l := l) a b c
  generalize kid lt l i n = j at *
  have ha := fun k => swp_at (l := l) (i := i) (j := j) (k := k) (by omega) (by omega)
  refine ⟨fun k h0 hk hlk hp _ => ?_, fun k h0 hk hp _ hlk => ?_⟩
  · show lt (at' (swp l i j) k) (at' (swp l i j) ((k - 1) / 2)) = false
    rw [ha, ha, if_neg hp]
    by_cases e1 : k = j
    · rw [if_pos e1, if_pos (by rw [e1]; exact k2)]
      exact O.asy _ _ hlt
    · rw [if_neg e1]
      by_cases e2 : k = i
      · rw [if_pos e2, if_neg (by omega), e2]
        exact h.c j (by omega) k1 k2 (by omega) (by rw [← e2]; exact hlk)
      · rw [if_neg e2]
        by_cases e3 : (k - 1) / 2 = i
        · rw [if_pos e3]
          exact hmin hk h0 e3
        · rw [if_neg e3]
          exact h.a k h0 hk hlk e3 fun e => absurd e e2
  · rw [ha, ha, k2, if_neg (by omega), if_neg (by omega), if_neg (by omega), if_pos rfl]
    have := h.a k h0 hk (by omega) (by omega) (fun e => by omega)
    show lt (at' l k) (at' l j) = false
    rw [← hp]
    exact this
theorem down_spec (O : Ord lt) : ∀ (m : Nat) (l : List α) (i n lo : Nat) (b : Prop), DInv lt lo n i b l → n ≤ l.length → lo ≤ i → n - i < m →
    (downF lt m l i n).1.length = l.length ∧ (downF lt m l i n).1.Perm l ∧ (∀ k, n ≤ k → at' (downF lt m l i n).1 k = at' l k) ∧ i ≤ (downF lt m l i n).2 ∧ ((downF lt m l i n).2 = i → (downF lt m l i n).1 = l) ∧
    (∀ k, 0 < k → k < n → lo ≤ (k - 1) / 2 → (k = i → b ∨ i < (downF lt m l i n).2) → edge lt (downF lt m l i n).1 k) := by
  intro m
  induction m with
  | zero => intro l i n lo b h hl hlo hm; omega
  | succ m ih =>
    intro l i n lo b h hl hlo hm
    unfold downF
    split
    · rename_i h1
      refine ⟨rfl, .refl _, fun _ _ => rfl, Nat.le_refl _, fun _ => rfl, fun k h0 hk hlk hb => ?_⟩
      exact h.a k h0 hk hlk (by omega) fun e => (hb e).elim id fun e => absurd e (Nat.lt_irrefl _)
    · rename_i h1
      have h1 : 2 * i + 1 < n := by omega
      obtain ⟨k1, k2, k3⟩ := kid_lt (lt := lt) (l := l) h1
      split
      · rename_i h2
        have h3 := h.step O hl h1 hlo h2
        have hk := ih (swp l i (kid lt l i n)) (kid lt l i n) n lo True h3 (by rw [swp_len]; exact hl) (by omega) (by omega)
        generalize kid lt l i n = j at *
        obtain ⟨a1, a2, a3, a4, a5, a6⟩ := hk
        refine ⟨by rw [a1, swp_len], a2.trans (swp_perm (by omega) (by omega)), fun k hk => ?_, by omega, fun e => by omega, fun k h0 hk hlk _ => a6 k h0 hk hlk fun _ => .inl trivial⟩
        rw [a3 k hk, swp_at (by omega) (by omega), if_neg (by omega), if_neg (by omega)]
      · rename_i h2
        refine ⟨rfl, .refl _, fun _ _ => rfl, Nat.le_refl _, fun _ => rfl, fun k h0 hk hlk hb => ?_⟩
        by_cases e : (k - 1) / 2 = i
        · have h4 : lt (at' l (kid lt l i n)) (at' l i) = false := by simpa using h2
          show lt (at' l k) (at' l ((k - 1) / 2)) = false
          rw [e]
          exact O.tr _ _ _ h4 (kid_least O hk h0 e)
        · exact h.a k h0 hk hlk e fun e => (hb e).elim id fun e => absurd e (Nat.lt_irrefl _)
structure UInv (lt : α → α → Bool) (n j : Nat) (l : List α) : Prop where
  a : ∀ k, 0 < k → k < n → k ≠ j → edge lt l k
  c : ∀ k, 0 < k → k < n → (k - 1) / 2 = j → 0 < j → lt (at' l k) (at' l ((j - 1) / 2)) = false
theorem UInv.step (O : Ord lt) {n j : Nat} {l : List α} (h : UInv lt n j l) (hl : n ≤ l.length) (hj : j < n) (h0 : 0 < j) (hlt : lt (at' l j) (at' l ((j - 1) / 2)) = true) : UInv lt n ((j - 1) / 2) (swp l ((j - 1) / 2) j) := by
  generalize hi : (j - 1) / 2 = i at *
  have ha := fun k => swp_at (l := l) (i := i) (j := j) (k := k) (by omega) (by omega)
  refine ⟨fun k h1 hk hne => ?_, fun k h1 hk hp h2 => ?_⟩
  · show lt (at' (swp l i j) k) (at' (swp l i j) ((k - 1) / 2)) = false
    rw [ha, ha]
    by_cases e1 : k = j
    · rw [if_pos e1, if_neg (by omega), if_pos (by rw [e1]; exact hi)]
      exact O.asy _ _ hlt
    · rw [if_neg e1, if_neg hne]
      by_cases e2 : (k - 1) / 2 = j
      · rw [if_pos e2]
        have := h.c k h1 hk e2 h0
        rw [hi] at this
        exact this
      · rw [if_neg e2]
        by_cases e3 : (k - 1) / 2 = i
        · rw [if_pos e3]
          have := h.a k h1 hk e1
          rw [edge, e3] at this
          exact O.tr _ _ _ (O.asy _ _ hlt) this
        · rw [if_neg e3]
          exact h.a k h1 hk e1
  · have h4 : lt (at' l i) (at' l ((i - 1) / 2)) = false := h.a i h2 (by omega) (by omega)
    rw [ha, ha, if_neg (by omega : (i - 1) / 2 ≠ j), if_neg (by omega : (i - 1) / 2 ≠ i)]
    by_cases e1 : k = j
    · rw [if_pos e1]; exact h4
    · rw [if_neg e1, if_neg (by omega)]
      have := h.a k h1 hk e1
      rw [edge, hp] at this
      exact O.tr _ _ _ h4 this
theorem up_spec (O : Ord lt) : ∀ (m : Nat) (l : List α) (j n : Nat), UInv lt n j l → n ≤ l.length → j < n → j < m →
    (upF lt m l j).length = l.length ∧ (upF lt m l j).Perm l ∧ (∀ k, n ≤ k → at' (upF lt m l j) k = at' l k) ∧ HeapP lt 0 n (upF lt m l j) := by
  intro m
  induction m with
  | zero => intro l j n h hl hj hm; omega
  | succ m ih =>
    intro l j n h hl hj hm
    unfold upF
    split
    · rename_i h1
      obtain rfl : j = 0 := by omega
      exact ⟨rfl, .refl _, fun _ _ => rfl, fun k h0 hk _ => h.a k h0 hk (by omega)⟩
    · rename_i h1
      split
      · rename_i h2
        obtain ⟨a1, a2, a3, a4⟩ := ih (swp l ((j - 1) / 2) j) ((j - 1) / 2) n (h.step O hl hj (by omega) h2) (by rw [swp_len]; exact hl) (by omega) (by omega)
        refine ⟨by rw [a1, swp_len], a2.trans (swp_perm (by omega) (by omega)), fun k hk => ?_, a4⟩
        rw [a3 k hk, swp_at (by omega) (by omega), if_neg (by omega), if_neg (by omega)]
      · rename_i h2
        refine ⟨rfl, .refl _, fun _ _ => rfl, fun k h0 hk _ => ?_⟩
        by_cases e : k = j
        · subst e; exact Bool.eq_false_iff.2 h2
        · exact h.a k h0 hk e
def initG (lt : α → α → Bool) : Nat → List α → List α
  | 0, l => l
  | i + 1, l => initG lt i (downF lt (l.length + 1) l i l.length).1
def pushF (lt : α → α → Bool) (l : List α) (x : α) : List α := upF lt (l.length + 1) (l ++ [x]) l.length
def remF (lt : α → α → Bool) (l : List α) (i : Nat) : List α :=
  if l.length - 1 = i then l else
  if i < (downF lt (l.length + 1) (swp l i (l.length - 1)) i (l.length - 1)).2 then (downF lt (l.length + 1) (swp l i (l.length - 1)) i (l.length - 1)).1
  else upF lt (l.length + 1) (downF lt (l.length + 1) (swp l i (l.length - 1)) i (l.length - 1)).1 i
def fixF (lt : α → α → Bool) (l : List α) (i : Nat) : List α :=
  if i < (downF lt (l.length + 1) l i l.length).2 then (downF lt (l.length + 1) l i l.length).1 else upF lt (l.length + 1) (downF lt (l.length + 1) l i l.length).1 i
theorem initG_spec (O : Ord lt) : ∀ (i : Nat) (l : List α), HeapP lt i l.length l → (initG lt i l).length = l.length ∧ (initG lt i l).Perm l ∧ HeapP lt 0 l.length (initG lt i l) := by
  intro i
  induction i with
  | zero => intro l h; exact ⟨rfl, .refl _, h⟩
  | succ i ih =>
    intro l h
    unfold initG
    have hd : DInv lt i l.length i False l := ⟨fun k h0 hk hlk hp _ => h k h0 hk (by omega), fun k h0 hk hp hi hlo => by omega⟩
    obtain ⟨a1, a2, a3, a4, a5, a6⟩ := down_spec O (l.length + 1) l i l.length i False hd (Nat.le_refl _) (Nat.le_refl _) (by omega)
    generalize (downF lt (l.length + 1) l i l.length).2 = i2 at *
    generalize (downF lt (l.length + 1) l i l.length).1 = l2 at *
    obtain ⟨b1, b2, b3⟩ := ih l2 (fun k h0 hk hlk => a6 k h0 (by omega) hlk fun e => by omega)
    exact ⟨by omega, b2.trans a2, by rw [← a1]; exact b3⟩
theorem push_spec (O : Ord lt) {l : List α} {x : α} (h : HeapP lt 0 l.length l) : (pushF lt l x).length = l.length + 1 ∧ (pushF lt l x).Perm (x :: l) ∧ HeapP lt 0 (l.length + 1) (pushF lt l x) := by
  have hu : UInv lt (l.length + 1) l.length (l ++ [x]) := ⟨fun k h0 hk hne => by
    have := h k h0 (by omega) (Nat.zero_le _)
    show lt (at' (l ++ [x]) k) (at' (l ++ [x]) ((k - 1) / 2)) = false
    rw [at_append (by omega), at_append (by omega)]
    exact this, fun k h0 hk hp h1 => by omega⟩
  obtain ⟨a1, a2, a3, a4⟩ := up_spec O (l.length + 1) (l ++ [x]) l.length (l.length + 1) hu (by simp) (by omega) (by omega)
  exact ⟨by rw [pushF, a1]; simp, a2.trans (List.perm_append_singleton _ _), a4⟩
theorem root_least (O : Ord lt) {l : List α} (h : HeapP lt 0 l.length l) : ∀ (k : Nat), k < l.length → lt (at' l k) (at' l 0) = false := by
  intro k
  induction k using Nat.strongRecOn with
  | _ k ih =>
    intro hk
    by_cases h0 : k = 0
    · subst h0
      cases e : lt (at' l 0) (at' l 0) with
      | false => rfl
      | true => rw [← O.asy _ _ e, e]
    · exact O.tr _ _ _ (ih ((k - 1) / 2) (by omega) (by omega)) (h k (by omega) hk (Nat.zero_le _))
theorem root_le (O : Ord lt) {l : List α} (h : HeapP lt 0 l.length l) {x : α} (hx : x ∈ l) : lt x (at' l 0) = false := by
  obtain ⟨k, hk, rfl⟩ := List.mem_iff_getElem.1 hx
  have := root_least O h k hk
  simpa only [at', List.getD_eq_getElem?_getD, List.getElem?_eq_getElem hk, Option.getD_some] using this
theorem last_perm {l : List α} (h : 0 < l.length) : (at' l (l.length - 1) :: l.take (l.length - 1)).Perm l := by
  have e : l = l.take (l.length - 1) ++ [at' l (l.length - 1)] := by
    refine at_ext (by simp; omega) fun k hk => ?_
    by_cases h1 : k < l.length - 1
    · rw [at_append (by simp; omega), at_take h1]
    · obtain rfl : k = l.length - 1 := by omega
      simp only [at', List.getD_eq_getElem?_getD]
      rw [List.getElem?_append_right (by simp), List.length_take]
      rw [show l.length - 1 - min (l.length - 1) l.length = 0 by omega]
      rfl
  conv => rhs; rw [e]
  exact (List.perm_append_singleton _ _).symm
theorem heap_take {l : List α} {n : Nat} (hn : n ≤ l.length) (h : HeapP lt 0 n l) : HeapP lt 0 (l.take n).length (l.take n) := by
  intro k h0 hk hlo
  rw [List.length_take] at hk
  have := h k h0 (by omega) hlo
  show lt (at' (l.take n) k) (at' (l.take n) ((k - 1) / 2)) = false
  rw [at_take (by omega), at_take (by omega)]
  exact this
theorem fixG_spec (O : Ord lt) {l : List α} {i n m : Nat} (hd : DInv lt 0 n i False l) (hn : n ≤ l.length) (hi : i < n) (hm : n < m) :
    ∀ r, r = (if i < (downF lt m l i n).2 then (downF lt m l i n).1 else upF lt m (downF lt m l i n).1 i) → r.length = l.length ∧ r.Perm l ∧ (∀ k, n ≤ k → at' r k = at' l k) ∧ HeapP lt 0 n r := by
  obtain ⟨a1, a2, a3, a4, a5, a6⟩ := down_spec O m l i n 0 False hd hn (Nat.zero_le _) (by omega)
  intro r hr
  generalize downF lt m l i n = d at *
  by_cases h : i < d.2
  · have e : r = d.1 := hr.trans (if_pos h)
    rw [e]
    exact ⟨a1, a2, a3, fun k h0 hk hlo => a6 k h0 hk hlo fun _ => .inr h⟩
  · have e : r = upF lt m d.1 i := hr.trans (if_neg h)
    have e2 : d.1 = l := a5 (by omega)
    have hu : UInv lt n i d.1 := ⟨fun k h0 hk hne => a6 k h0 hk (Nat.zero_le _) fun e => absurd e hne, fun k h0 hk hp h1 => by rw [e2]; exact hd.c k h0 hk hp h1 (Nat.zero_le _)⟩
    obtain ⟨b1, b2, b3, b4⟩ := up_spec O m d.1 i n hu (by rw [e2]; exact hn) hi (by omega)
    rw [e]
    exact ⟨by omega, b2.trans a2, fun k hk => by rw [b3 k hk, a3 k hk], b4⟩
theorem fix_spec (O : Ord lt) {l : List α} {i : Nat} {y : α} (h : HeapP lt 0 l.length l) (hi : i < l.length) : (fixF lt (l.set i y) i).length = l.length ∧ (fixF lt (l.set i y) i).Perm (l.set i y) ∧ HeapP lt 0 l.length (fixF lt (l.set i y) i) := by
  have ha := fun k => at_set (l := l) (i := i) (k := k) (x := y) hi
  have hd : DInv lt 0 (l.set i y).length i False (l.set i y) := ⟨fun k h0 hk hlk hp hb => by
    have hne : k ≠ i := fun e => hb e
    show lt (at' (l.set i y) k) (at' (l.set i y) ((k - 1) / 2)) = false
    rw [ha, ha, if_neg hne, if_neg hp]
    exact h k h0 (by simpa using hk) hlk, fun k h0 hk hp h1 hlo => by
    rw [ha, ha, if_neg (by omega), if_neg (by omega)]
    have e1 := h k h0 (by simpa using hk) (Nat.zero_le _)
    rw [edge, hp] at e1
    exact O.tr _ _ _ (h i h1 hi (Nat.zero_le _)) e1⟩
  have := fixG_spec O (m := (l.set i y).length + 1) hd (Nat.le_refl _) (by simpa using hi) (by omega) (fixF lt (l.set i y) i) rfl
  obtain ⟨b1, b2, b3, b4⟩ := this
  have e : (l.set i y).length = l.length := by simp
  exact ⟨by rw [b1]; simp, b2, by rw [e] at b4; exact b4⟩
theorem rem_spec (O : Ord lt) {l : List α} {i : Nat} (h : HeapP lt 0 l.length l) (hi : i < l.length) : (remF lt l i).length = l.length ∧ at' (remF lt l i) (l.length - 1) = at' l i ∧ (at' l i :: (remF lt l i).take (l.length - 1)).Perm l ∧ HeapP lt 0 (l.length - 1) ((remF lt l i).take (l.length - 1)) := by
  have key : (remF lt l i).length = l.length ∧ (remF lt l i).Perm l ∧ at' (remF lt l i) (l.length - 1) = at' l i ∧ HeapP lt 0 (l.length - 1) (remF lt l i) := by
    unfold remF
    by_cases e : l.length - 1 = i
    · rw [if_pos e]
      exact ⟨rfl, .refl _, by rw [e], fun k h0 hk hlo => h k h0 (by omega) hlo⟩
    · rw [if_neg e]
      have ha := fun k => swp_at (l := l) (i := i) (j := l.length - 1) (k := k) (by omega) (by omega)
      have hd : DInv lt 0 (l.length - 1) i False (swp l i (l.length - 1)) := ⟨fun k h0 hk hlk hp hb => by
        have hne : k ≠ i := fun e => hb e
        show lt (at' (swp l i (l.length - 1)) k) (at' (swp l i (l.length - 1)) ((k - 1) / 2)) = false
        rw [ha, ha, if_neg (by omega), if_neg hne, if_neg (by omega), if_neg hp]
        exact h k h0 (by omega) hlk, fun k h0 hk hp h1 hlo => by
        rw [ha, ha, if_neg (by omega), if_neg (by omega), if_neg (by omega), if_neg (by omega)]
        have e1 := h k h0 (by omega) (Nat.zero_le _)
        rw [edge, hp] at e1
        exact O.tr _ _ _ (h i h1 hi (Nat.zero_le _)) e1⟩
      obtain ⟨b1, b2, b3, b4⟩ := fixG_spec O (m := l.length + 1) hd (by rw [swp_len]; omega) (by omega) (by omega) _ rfl
      exact ⟨by rw [b1, swp_len], b2.trans (swp_perm (by omega) (by omega)), by rw [b3 _ (Nat.le_refl _), ha, if_pos rfl], b4⟩
  obtain ⟨e1, e3, e2, e4⟩ := key
  refine ⟨e1, e2, ?_, ?_⟩
  · have := last_perm (l := remF lt l i) (by omega)
    rw [e1, e2] at this
    exact this.trans e3
  · have := heap_take (lt := lt) (l := remF lt l i) (n := l.length - 1) (by omega) e4
    rw [List.length_take, e1] at this
    rw [show min (l.length - 1) l.length = l.length - 1 by omega] at this
    exact this
end
end Go.Proofs.Ytoadcfjkkoemdaa.A

namespace Go.Proofs.Ytoadcfjkkoemdaa.A
open Go Go.Vm
set_option maxRecDepth 10000
set_option linter.unusedVariables false
structure HeapI {α : Type} [Inhabited α] (lt : α → α → Bool) (t : TypeId) (v : Value) (St : Heap → List α → Prop) : Prop where
  bd : ∀ {h l}, St h l → l.length < 1000000
  len : ∀ {h l}, St h l → MRuns Try.prog T0 t v "Len" [] h (fun r h' => r = .int .i64 l.length ∧ St h' l)
  less : ∀ {h l} {i k : Nat}, St h l → i < l.length → k < l.length → MRuns Try.prog T0 t v "Less" [.int .i64 i, .int .i64 k] h (fun r h' => r = .bool (lt (at' l i) (at' l k)) ∧ St h' l)
  swap : ∀ {h l} {i k : Nat}, St h l → i < l.length → k < l.length → MRuns Try.prog T0 t v "Swap" [.int .i64 i, .int .i64 k] h (fun r h' => St h' (swp l i k))
section
variable {α : Type} [Inhabited α] {lt : α → α → Bool} {t : TypeId} {v : Value} {St : Heap → List α → Prop}
theorem down_len : ∀ (q : Nat) (l : List α) (i n : Nat), (downF lt q l i n).1.length = l.length
  | 0, _, _, _ => rfl
  | q + 1, l, i, n => by
    unfold downF
    split
    · rfl
    · split
      · rw [down_len q, swp_len]
      · rfl
set_option maxHeartbeats 4000000 in
theorem down_ok (H : HeapI lt t v St) {h : Heap} {l : List α} {i n q : Nat} (hs : St h l) (hn : n ≤ l.length) (hi : i ≤ n) (hq : n - i < q) :
    Runs Try.prog T0 (.fn fn_zgQ) [.iface t v, .int .i64 i, .int .i64 n] h (fun r h' => r = .bool (decide ((i : Int) < ((downF lt q l i n).2 : Nat))) ∧ St h' (downF lt q l i n).1) (fun _ _ => False) := by
  have hb0 := H.bd hs
  refine zgQ_runs ?_
  refine stp ?_
  refine loop1 zgQ_l0_M 7 (fun k v7 hx => ∃ (j : Nat) (l' : List α), v7 = .int .i64 j ∧ St hx l' ∧ l'.length = l.length ∧ downF lt k l' j n = downF lt q l i n ∧ j ≤ n ∧ n - j < k) ?_ q ⟨i, l, rfl, hs, rfl, rfl, hi, hq⟩
  rintro m v7 h' x8 x9 x10 x12 x13 x14 x15 x16 x17 x18 x19 x20 x21 x22 x23 x24 x25 x26 x27 x28 x29 x30 x31 x32 x33 x34 x35 x36 x37 x38 x39 x40 x41 x42 x43 x44 ⟨j, l', rfl, hs', hl', he, hj, hk⟩
  obtain ⟨k, rfl⟩ : ∃ k', m = k' + 1 := ⟨m - 1, by omega⟩
  have ej : ((2 : Int) * (j : Int)) + 1 = ((2 * j + 1 : Nat) : Int) := by omega
  have ej2 : ((2 * j + 1 : Nat) : Int) + 1 = ((2 * j + 2 : Nat) : Int) := by omega
  rw [downF] at he
  haveI : InR .i64 ((2 : Int) * (j : Int)) := inr_i64 (by omega)
  refine stp ?_
  rw [ej]
  refine O.dec (fun h1 => ?_) (fun h1 => ?_)
  · refine stp ?_
    rw [if_pos (by omega)] at he
    rw [← he]
    exact ⟨rfl, hs'⟩
  rw [if_neg (by omega)] at he
  refine stp ?_
  rw [ej2]
  have hkid := kid_lt (lt := lt) (l := l') (i := j) (n := n) (by omega)
  refine O.dec (fun h2 => ?pos) (fun h2 => ?neg)
  case' pos =>
    refine stp ?_
    refine O.methT (H.less hs' (by omega) (by omega)) (fun r h3 hr => ?_)
    obtain ⟨rfl, hs3⟩ := hr
    refine stp ?_
    refine C.ifB (fun h4 => ?two) (fun h4 => ?one)
  case' two =>
    have hkd : kid lt l' j n = 2 * j + 2 := by unfold kid; rw [if_pos ⟨by omega, h4⟩]
  case' one =>
    have hkd : kid lt l' j n = 2 * j + 1 := by unfold kid; rw [if_neg (fun e => by rw [h4] at e; exact absurd e.2 (by decide))]
  case' neg =>
    have hkd : kid lt l' j n = 2 * j + 1 := by unfold kid; rw [if_neg (fun e => h2 (by omega))]
    have hs3 := hs'
  all_goals
    rw [hkd] at he hkid
    refine stp ?_
    refine O.meth (H.less hs3 (by omega) (by omega)) (fun r h5 hr => ?_)
    obtain ⟨rfl, hs5⟩ := hr
    refine stp ?_
    refine C.ifB (fun h6 => ?_) (fun h6 => ?_)
    · refine stp ?_
      rw [if_neg (by intro e; rw [e] at h6; exact absurd h6 (by decide))] at he
      rw [← he]
      exact ⟨rfl, hs5⟩
    · refine stp ?_
      refine O.meth (H.swap hs5 (by omega) (by omega)) (fun r h7 hs7 => ?_)
      refine stp ?_
      rw [if_pos (by simpa using h6)] at he
      exact loop1a 7 k (by omega) ⟨_, _, rfl, hs7, by rw [swp_len]; exact hl', he, by omega, by omega⟩
end
end Go.Proofs.Ytoadcfjkkoemdaa.A

namespace Go.Proofs.Ytoadcfjkkoemdaa.A
open Go Go.Vm
set_option maxRecDepth 10000
set_option linter.unusedVariables false
section
variable {α : Type} [Inhabited α] {lt : α → α → Bool} {t : TypeId} {v : Value} {St : Heap → List α → Prop}
theorem half_nat (j : Nat) (hj : j < 1000000) : IntKind.i64.wrap (((j : Int) - 1).tdiv 2) = (((j - 1) / 2 : Nat) : Int) := by
  by_cases h0 : j = 0
  · subst h0; decide
  · have : ((j : Int) - 1).tdiv 2 = (((j - 1) / 2 : Nat) : Int) := by
      rw [Int.tdiv_eq_ediv_of_nonneg (by omega)]; omega
    rw [this]
    exact (inr_i64 (by omega)).eq
set_option maxHeartbeats 4000000 in
theorem up_ok (H : HeapI lt t v St) {h : Heap} {l : List α} {j q : Nat} (hs : St h l) (hj : j < l.length) (hq : j < q) :
    Runs Try.prog T0 (.fn fn_zhQ) [.iface t v, .int .i64 j] h (fun r h' => St h' (upF lt q l j)) (fun _ _ => False) := by
  have hb0 := H.bd hs
  refine zhQ_runs ?_
  refine stp ?_
  refine loop1 zhQ_l0_M 1 (fun k v1 hx => ∃ (j' : Nat) (l' : List α), v1 = .int .i64 j' ∧ St hx l' ∧ l'.length = l.length ∧ upF lt k l' j' = upF lt q l j ∧ j' < l.length ∧ j' < k) ?_ q ⟨j, l, rfl, hs, rfl, rfl, hj, hq⟩
  rintro m v1 h' x4 x5 x6 x7 x8 x9 x10 x11 x12 x13 x14 x15 x16 x17 x18 x19 x20 x21 x22 ⟨j', l', rfl, hs', hl', he, hj', hk⟩
  obtain ⟨k, rfl⟩ : ∃ k', m = k' + 1 := ⟨m - 1, by omega⟩
  rw [upF] at he
  refine stp ?_
  refine O.how (XOp.quoI (by decide)) ?_
  rw [half_nat j' (by omega)]
  refine stp ?_
  refine O.dec (fun h1 => ?_) (fun h1 => ?_)
  · refine stp ?_
    rw [if_pos (by omega)] at he
    rw [← he]
    exact hs'
  rw [if_neg (by omega)] at he
  refine stp ?_
  refine O.methT (H.less hs' (by omega) (by omega)) (fun r h3 hr => ?_)
  obtain ⟨rfl, hs3⟩ := hr
  refine stp ?_
  refine C.ifB (fun h4 => ?_) (fun h4 => ?_)
  · refine stp ?_
    rw [if_neg (by intro e; rw [e] at h4; exact absurd h4 (by decide))] at he
    rw [← he]
    exact hs3
  · refine stp ?_
    refine O.meth (H.swap hs3 (by omega) (by omega)) (fun r h7 hs7 => ?_)
    refine stp ?_
    rw [if_pos (by simpa using h4)] at he
    exact loop1a 1 k (by omega) ⟨_, _, rfl, hs7, by rw [swp_len]; exact hl', he, by omega, by omega⟩
theorem hPush_ok (H : HeapI lt t v St) {h : Heap} {l : List α} {x : Value} {e : α} (hs : St h l) (hp : MRuns Try.prog T0 t v "Push" [x] h (fun _ h' => St h' (l ++ [e]))) :
    Runs Try.prog T0 (.fn fn_zeQ) [.iface t v, x] h (fun _ h' => St h' (pushF lt l e)) (fun _ _ => False) := by
  refine zeQ_runs ?_
  refine stp ?_
  refine O.meth hp (fun r h1 hs1 => ?_)
  have hb0 := H.bd hs1
  rw [List.length_append, List.length_singleton] at hb0
  refine stp ?_
  refine O.meth (H.len hs1) (fun r h2 hr => ?_)
  obtain ⟨rfl, hs2⟩ := hr
  have e1 : ((l ++ [e]).length : Int) - 1 = ((l.length : Nat) : Int) := by rw [List.length_append, List.length_singleton]; omega
  haveI : InR .i64 (((l ++ [e]).length : Int) - 1) := by rw [e1]; exact inr_i64 (by omega)
  refine stp ?_
  rw [e1]
  refine O.call' (up_ok H (q := l.length + 1) (j := l.length) hs2 (by rw [List.length_append, List.length_singleton]; omega) (by omega)) (fun r h3 hs3 => ?_)
  refine stp ?_
  exact hs3
set_option maxHeartbeats 4000000 in
theorem hFix_ok (H : HeapI lt t v St) {h : Heap} {l : List α} {i : Nat} (hs : St h l) (hi : i < l.length) :
    Runs Try.prog T0 (.fn fn_zdQ) [.iface t v, .int .i64 i] h (fun _ h' => St h' (fixF lt l i)) (fun _ _ => False) := by
  have hb0 := H.bd hs
  refine zdQ_runs ?_
  refine stp ?_
  refine O.meth (H.len hs) (fun r h1 hr => ?_)
  obtain ⟨rfl, hs1⟩ := hr
  refine stp ?_
  refine O.call' (down_ok H (q := l.length + 1) (i := i) (n := l.length) hs1 (Nat.le_refl _) (by omega) (by omega)) (fun r h2 hr => ?_)
  obtain ⟨rfl, hs2⟩ := hr
  have hl2 := down_len (lt := lt) (l.length + 1) l i l.length
  have he : fixF lt l i = if i < (downF lt (l.length + 1) l i l.length).2 then (downF lt (l.length + 1) l i l.length).1 else upF lt (l.length + 1) (downF lt (l.length + 1) l i l.length).1 i := rfl
  generalize (downF lt (l.length + 1) l i l.length).2 = z at *
  generalize (downF lt (l.length + 1) l i l.length).1 = l2 at *
  refine stp ?_
  refine C.ifN (fun h3 => ?_) (fun h3 => ?_)
  · refine stp ?_
    refine O.call' (up_ok H (q := l.length + 1) (j := i) hs2 (by omega) (by omega)) (fun r h4 hs4 => ?_)
    refine stp ?_
    rw [he, if_neg (by omega)]
    exact hs4
  · refine stp ?_
    rw [he, if_pos (by omega)]
    exact hs2
set_option maxHeartbeats 4000000 in
theorem hRemove_ok (H : HeapI lt t v St) {h : Heap} {l : List α} {i : Nat} {R : RP} (hs : St h l) (hi : i < l.length) (hp : ∀ hx, St hx (remF lt l i) → MRuns Try.prog T0 t v "Pop" [] hx R) :
    Runs Try.prog T0 (.fn fn_zfQ) [.iface t v, .int .i64 i] h R (fun _ _ => False) := by
  have hb0 := H.bd hs
  refine zfQ_runs ?_
  refine stp ?_
  refine O.meth (H.len hs) (fun r h1 hr => ?_)
  obtain ⟨rfl, hs1⟩ := hr
  have e1 : (l.length : Int) - 1 = ((l.length - 1 : Nat) : Int) := by omega
  refine stp ?_
  rw [e1]
  have he : remF lt l i = if l.length - 1 = i then l else
    if i < (downF lt (l.length + 1) (swp l i (l.length - 1)) i (l.length - 1)).2 then (downF lt (l.length + 1) (swp l i (l.length - 1)) i (l.length - 1)).1
    else upF lt (l.length + 1) (downF lt (l.length + 1) (swp l i (l.length - 1)) i (l.length - 1)).1 i := rfl
  refine C.ifN (fun h2 => ?_) (fun h2 => ?_)
  · rw [if_neg (by omega)] at he
    refine stp ?_
    refine O.meth (H.swap hs1 hi (by omega)) (fun r h3 hs3 => ?_)
    refine stp ?_
    have hsl := swp_len (l := l) (i := i) (j := l.length - 1)
    refine O.call' (down_ok H (q := l.length + 1) (i := i) (n := l.length - 1) hs3 (by omega) (by omega) (by omega)) (fun r h4 hr => ?_)
    obtain ⟨rfl, hs4⟩ := hr
    have hl2 := down_len (lt := lt) (l.length + 1) (swp l i (l.length - 1)) i (l.length - 1)
    generalize (downF lt (l.length + 1) (swp l i (l.length - 1)) i (l.length - 1)).2 = z at *
    generalize (downF lt (l.length + 1) (swp l i (l.length - 1)) i (l.length - 1)).1 = l2 at *
    refine stp ?_
    refine C.ifN (fun h3 => ?_) (fun h3 => ?_)
    · rw [if_neg (by omega)] at he
      refine stp ?_
      refine O.call' (up_ok H (q := l.length + 1) (j := i) hs4 (by omega) (by omega)) (fun r h5 hs5 => ?_)
      refine stp ?_
      refine O.meth (hp _ (by rw [he]; exact hs5)) (fun r h6 hr => ?_)
      refine stp ?_
      exact hr
    · rw [if_pos (by omega)] at he
      refine stp ?_
      refine O.meth (hp _ (by rw [he]; exact hs4)) (fun r h6 hr => ?_)
      refine stp ?_
      exact hr
  · rw [if_pos (by omega)] at he
    refine stp ?_
    refine O.meth (hp _ (by rw [he]; exact hs1)) (fun r h6 hr => ?_)
    refine stp ?_
    exact hr
end
end Go.Proofs.Ytoadcfjkkoemdaa.A

namespace Go.Proofs.Ytoadcfjkkoemdaa.A
open Go Go.Vm
set_option maxRecDepth 10000
set_option linter.unusedVariables false
def cutQ1 (m : List Nat) (ts : List Value) (ds : List Deferred) (rd : Option Nat) (e0 : Exit) (E : Value → Heap → Prop) (Q : QP) : QP := fun e s =>
  (e = e0 ∧ ∃ v h us, s = ⟨fillM m [v] us ts, ds, h, rd⟩ ∧ E v h) ∨ Q e s
def cutQ2 (m : List Nat) (ts : List Value) (ds : List Deferred) (rd : Option Nat) (e0 : Exit) (E : Value → Value → Heap → Prop) (Q : QP) : QP := fun e s =>
  (e = e0 ∧ ∃ v w h us, s = ⟨fillM m [v, w] us ts, ds, h, rd⟩ ∧ E v w h) ∨ Q e s
section
variable {P : Program} {T : Table} {c : ACode} {ts us : List Value} {ds : List Deferred} {h : Heap} {rd : Option Nat} {Q : QP} {m : List Nat} {e0 : Exit}
theorem cutQ1.out {E : Value → Heap → Prop} (i0 : Nat) {v : Value} [LGet us i0 v] (hE : E v h) (ha : fillM m [v] us ts = us := by rfl) : cutQ1 m ts ds rd e0 E Q e0 ⟨us, ds, h, rd⟩ :=
  .inl ⟨rfl, v, h, us, by rw [ha], hE⟩
theorem cutQ1.pass {E : Value → Heap → Prop} {e : Exit} {s : St} (hq : Q e s) : cutQ1 m ts ds rd e0 E Q e s := .inr hq
theorem cut1 (m : List Nat) (e0 : Exit) (E : Value → Heap → Prop) (hc : RunC P T c ⟨ts, ds, h, rd⟩ (cutQ1 m ts ds rd e0 E Q)) (hk : ∀ v h', allM m [v] ts fun l => E v h' → Q e0 ⟨l, ds, h', rd⟩) : RunC P T c ⟨ts, ds, h, rd⟩ Q :=
  hc.mono fun e s hq => by
    rcases hq with ⟨rfl, v, h', us, rfl, hE⟩ | hq
    · exact allM_fill (hk v h') us hE
    · exact hq
theorem cutQ2.out {E : Value → Value → Heap → Prop} (i0 i1 : Nat) {v w : Value} [LGet us i0 v] [LGet us i1 w] (hE : E v w h) (ha : fillM m [v, w] us ts = us := by rfl) : cutQ2 m ts ds rd e0 E Q e0 ⟨us, ds, h, rd⟩ :=
  .inl ⟨rfl, v, w, h, us, by rw [ha], hE⟩
theorem cutQ2.pass {E : Value → Value → Heap → Prop} {e : Exit} {s : St} (hq : Q e s) : cutQ2 m ts ds rd e0 E Q e s := .inr hq
theorem cut2 (m : List Nat) (e0 : Exit) (E : Value → Value → Heap → Prop) (hc : RunC P T c ⟨ts, ds, h, rd⟩ (cutQ2 m ts ds rd e0 E Q)) (hk : ∀ v w h', allM m [v, w] ts fun l => E v w h' → Q e0 ⟨l, ds, h', rd⟩) : RunC P T c ⟨ts, ds, h, rd⟩ Q :=
  hc.mono fun e s hq => by
    rcases hq with ⟨rfl, v, w, h', us, rfl, hE⟩ | hq
    · exact allM_fill (hk v w h') us hE
    · exact hq
end
end Go.Proofs.Ytoadcfjkkoemdaa.A

namespace Go.Proofs.Ytoadcfjkkoemdaa.A
open Go Go.Vm
set_option maxRecDepth 10000
set_option linter.unusedVariables false
section
variable {α : Type} [Inhabited α] {lt : α → α → Bool} {a b : Nat} {l m : List α}
inductive Sw (a b : Nat) : List α → List α → Prop
  | refl {l : List α} : Sw a b l l
  | swp {l m : List α} {i j : Nat} (h : Sw a b l m) (i1 : a ≤ i) (i2 : i < b) (j1 : a ≤ j) (j2 : j < b) : Sw a b l (swp m i j)
theorem Sw.len (h : Sw a b l m) : m.length = l.length := by
  induction h with
  | refl => rfl
  | swp h _ _ _ _ ih => rw [swp_len, ih]
theorem Sw.perm (hb : b ≤ l.length) (h : Sw a b l m) : m.Perm l := by
  induction h with
  | refl => exact .refl _
  | swp h i1 i2 j1 j2 ih =>
    have := h.len
    exact (swp_perm (by omega) (by omega)).trans ih
theorem Sw.out (hb : b ≤ l.length) (h : Sw a b l m) {k : Nat} (hk : k < a ∨ b ≤ k) : at' m k = at' l k := by
  induction h with
  | refl => rfl
  | swp h i1 i2 j1 j2 ih =>
    have := h.len
    rw [swp_at (by omega) (by omega), if_neg (by omega), if_neg (by omega)]
    exact ih
theorem Sw.inn (hb : b ≤ l.length) (h : Sw a b l m) : ∀ {k : Nat}, a ≤ k → k < b → ∃ k', a ≤ k' ∧ k' < b ∧ at' m k = at' l k' := by
  induction h with
  | refl => exact fun {k} h1 h2 => ⟨k, h1, h2, rfl⟩
  | swp h i1 i2 j1 j2 ih =>
    intro k h1 h2
    have := h.len
    rw [swp_at (by omega) (by omega)]
    split
    · exact ih i1 i2
    · split
      · exact ih j1 j2
      · exact ih h1 h2
theorem Sw.trans {n : List α} (h : Sw a b l m) (h2 : Sw a b m n) : Sw a b l n := by
  induction h2 with
  | refl => exact h
  | swp h2 i1 i2 j1 j2 ih => exact .swp ih i1 i2 j1 j2
theorem Sw.mono {a' b' : Nat} (h : Sw a b l m) (h1 : a' ≤ a) (h2 : b ≤ b') : Sw a' b' l m := by
  induction h with
  | refl => exact .refl
  | swp h i1 i2 j1 j2 ih => exact .swp ih (by omega) (by omega) (by omega) (by omega)
def Srt (lt : α → α → Bool) (a b : Nat) (l : List α) : Prop := ∀ p q, a ≤ p → p < q → q < b → lt (at' l q) (at' l p) = false
def Hole (lt : α → α → Bool) (a b j : Nat) (l : List α) : Prop := ∀ p q, a ≤ p → p < q → q < b → q ≠ j → lt (at' l q) (at' l p) = false
def CutP (lt : α → α → Bool) (a b c : Nat) (l : List α) : Prop := ∀ p q, a ≤ p → p < c → c ≤ q → q < b → lt (at' l q) (at' l p) = false
theorem Srt.one : Srt lt a (a + 1) l := fun p q h1 h2 h3 => by omega
theorem Srt.hole {i : Nat} (h : Srt lt a i l) : Hole lt a (i + 1) i l := fun p q h1 h2 h3 h4 => h p q h1 h2 (by omega)
theorem Hole.step (O : Ord lt) {j : Nat} (h : Hole lt a b j l) (hb : b ≤ l.length) (h1 : a < j) (h2 : j < b) (h3 : lt (at' l j) (at' l (j - 1)) = true) : Hole lt a b (j - 1) (swp l j (j - 1)) := by
  intro p q hp hpq hq hqj
  rw [swp_at (by omega) (by omega), swp_at (by omega) (by omega), if_neg hqj]
  by_cases e1 : q = j
  · rw [if_pos e1]
    by_cases e2 : p = j - 1
    · rw [if_pos e2]
      exact O.asy _ _ h3
    · rw [if_neg e2, if_neg (by omega)]
      exact h p (j - 1) hp (by omega) (by omega) (by omega)
  · rw [if_neg e1]
    by_cases e2 : p = j - 1
    · rw [if_pos e2]
      exact h j q (by omega) (by omega) hq e1
    · rw [if_neg e2]
      by_cases e3 : p = j
      · rw [if_pos e3]
        exact h (j - 1) q (by omega) (by omega) hq e1
      · rw [if_neg e3]
        exact h p q hp hpq hq e1
theorem Hole.done (O : Ord lt) {j : Nat} (h : Hole lt a b j l) (hd : j ≤ a ∨ lt (at' l j) (at' l (j - 1)) = false) : Srt lt a b l := by
  intro p q hp hpq hq
  by_cases e : q = j
  · subst e
    rcases hd with hd | hd
    · omega
    · by_cases e2 : p = q - 1
      · rw [e2]; exact hd
      · exact O.tr _ _ _ (h p (q - 1) hp (by omega) (by omega) (by omega)) hd
  · exact h p q hp hpq hq e
theorem Srt.ext (O : Ord lt) {i : Nat} (h : Srt lt a i l) (hi : a < i) (hd : lt (at' l i) (at' l (i - 1)) = false) : Srt lt a (i + 1) l := Hole.done O h.hole (.inr hd)
theorem Srt.sub {a' b' : Nat} (h : Srt lt a b l) (h1 : a ≤ a') (h2 : b' ≤ b) : Srt lt a' b' l := fun p q e1 e2 e3 => h p q (by omega) e2 (by omega)
theorem Srt.sw {x y : Nat} (h : Srt lt a b l) (hs : Sw x y l m) (hy : y ≤ l.length) (hd : b ≤ x ∨ y ≤ a) : Srt lt a b m := fun p q e1 e2 e3 => by
  rw [hs.out hy (by omega), hs.out hy (by omega)]
  exact h p q e1 e2 e3
theorem CutP.sw {x y c : Nat} (h : CutP lt a b c l) (hs : Sw x y l m) (hy : y ≤ l.length) (h1 : a ≤ x) (h2 : y ≤ b) (hd : y ≤ c ∨ c ≤ x) : CutP lt a b c m := fun p q e1 e2 e3 e4 => by
  have key : ∀ {k : Nat}, ∃ k', at' m k = at' l k' ∧ (k < c → k' < c) ∧ (c ≤ k → c ≤ k') ∧ (a ≤ k → a ≤ k') ∧ (k < b → k' < b) := fun {k} => by
    by_cases hk : x ≤ k ∧ k < y
    · obtain ⟨k', q1, q2, q3⟩ := hs.inn hy hk.1 hk.2
      exact ⟨k', q3, by omega, by omega, by omega, by omega⟩
    · exact ⟨k, hs.out hy (by omega), id, id, id, id⟩
  obtain ⟨p', f1, f2, f3, f4, f5⟩ := key (k := p)
  obtain ⟨q', g1, g2, g3, g4, g5⟩ := key (k := q)
  rw [f1, g1]
  exact h p' q' (f4 e1) (f2 e2) (g3 e3) (g5 e4)
theorem Srt.join {c : Nat} (h1 : Srt lt a c l) (h2 : Srt lt c b l) (h3 : CutP lt a b c l) : Srt lt a b l := fun p q e1 e2 e3 => by
  by_cases hq : q < c
  · exact h1 p q e1 e2 hq
  · by_cases hp : p < c
    · exact h3 p q e1 hp (by omega) e3
    · exact h2 p q (by omega) e2 e3
theorem cut_at {c : Nat} (O : Ord lt) (hc : c < b) (h1 : ∀ k, a ≤ k → k < c → lt (at' l c) (at' l k) = false) (h2 : ∀ k, c < k → k < b → lt (at' l k) (at' l c) = false) : CutP lt a b c l ∧ CutP lt a b (c + 1) l := by
  refine ⟨fun p q e1 e2 e3 e4 => ?_, fun p q e1 e2 e3 e4 => ?_⟩
  · by_cases e : q = c
    · rw [e]; exact h1 p e1 e2
    · exact O.tr _ _ _ (h1 p e1 e2) (h2 q (by omega) e4)
  · by_cases e : p = c
    · rw [e]; exact h2 q (by omega) e4
    · exact O.tr _ _ _ (h1 p e1 (by omega)) (h2 q (by omega) e4)
end
section
variable {α : Type} [Inhabited α] {lt : α → α → Bool} {a b : Nat} {l m : List α}
abbrev gtF (lt : α → α → Bool) : α → α → Bool := fun x y => lt y x
theorem Ord.gt (O : Ord lt) : Ord (gtF lt) := ⟨fun a b h => O.asy b a h, fun a b c h1 h2 => O.tr c b a h2 h1⟩
theorem Ord.irr (O : Ord lt) (x : α) : lt x x = false := by
  cases h : lt x x with
  | false => rfl
  | true => rw [← O.asy x x h, h]
theorem down_sw : ∀ (q : Nat) (l : List α) (i n : Nat), Sw 0 n l (downF lt q l i n).1
  | 0, _, _, _ => .refl
  | q + 1, l, i, n => by
    unfold downF
    split
    · exact .refl
    · rename_i h1
      have := kid_lt (lt := lt) (l := l) (i := i) (n := n) (by omega)
      split
      · exact Sw.trans (.swp .refl (by omega) (by omega) (by omega) (by omega)) (down_sw q _ _ _)
      · exact .refl
theorem initG_sw : ∀ (k : Nat) (l : List α), Sw 0 l.length l (initG lt k l)
  | 0, _ => .refl
  | k + 1, l => by
    unfold initG
    have h := down_sw (lt := lt) (l.length + 1) l k l.length
    have h2 := initG_sw k (downF lt (l.length + 1) l k l.length).1
    rw [h.len] at h2
    exact h.trans h2
theorem heap_root (O : Ord lt) {n : Nat} (h : HeapP lt 0 n l) (k : Nat) (hk : k < n) : lt (at' l k) (at' l 0) = false := by
  induction k using Nat.strongRecOn with
  | _ k ih =>
    by_cases h0 : k = 0
    · rw [h0]; exact O.irr _
    · exact O.tr _ _ _ (ih ((k - 1) / 2) (by omega) (by omega)) (h k (by omega) hk (by omega))
structure HS (lt : α → α → Bool) (n : Nat) (l : List α) : Prop where
  hp : HeapP (gtF lt) 0 n l
  so : Srt lt n l.length l
  cu : CutP lt 0 l.length n l
theorem HS.start (O : Ord lt) {k : Nat} (hk : l.length ≤ 2 * k) : HS lt l.length (initG (gtF lt) k l) := by
  obtain ⟨h1, h2, h3⟩ := initG_spec O.gt k l (fun j h0 hj hk2 => by omega)
  exact ⟨h3, fun p q e1 e2 e3 => by omega, fun p q e1 e2 e3 e4 => by omega⟩
theorem HS.step (O : Ord lt) {n q : Nat} (h : HS lt (n + 1) l) (hn : n + 1 ≤ l.length) (hq : n < q) : HS lt n (downF (gtF lt) q (swp l 0 n) 0 n).1 := by
  have hsw := fun k => swp_at (l := l) (i := 0) (j := n) (k := k) (by omega) (by omega)
  have hd : DInv (gtF lt) 0 n 0 True (swp l 0 n) := ⟨fun k h0 hk _ hp _ => by
    show gtF lt (at' (swp l 0 n) k) (at' (swp l 0 n) ((k - 1) / 2)) = false
    rw [hsw, hsw, if_neg (by omega), if_neg (by omega), if_neg (by omega), if_neg hp]
    exact h.hp k h0 (by omega) (by omega), fun k h0 hk hp hi => by omega⟩
  obtain ⟨a1, _, a3, _, _, a6⟩ := down_spec O.gt q (swp l 0 n) 0 n 0 True hd (by rw [swp_len]; omega) (by omega) (by omega)
  have hin := down_sw (lt := gtF lt) q (swp l 0 n) 0 n
  rw [swp_len] at a1
  generalize (downF (gtF lt) q (swp l 0 n) 0 n).1 = l2 at *
  have hroot := fun k hk => heap_root O.gt h.hp k hk
  have top : ∀ j, n ≤ j → at' l2 j = if j = n then at' l 0 else at' l j := fun j hj => by
    rw [a3 j hj, hsw]
    split
    · rfl
    · rename_i e
      by_cases e0 : j = 0
      · omega
      · rw [if_neg e0]
  refine ⟨fun k h0 hk hlk => a6 k h0 hk hlk fun _ => .inl trivial, fun p r e1 e2 e3 => ?_, fun p r e1 e2 e3 e4 => ?_⟩
  · rw [a1] at e3
    rw [top p e1, top r (by omega), if_neg (by omega)]
    split
    · exact h.cu 0 r (by omega) (by omega) (by omega) e3
    · exact h.so p r (by omega) e2 e3
  · rw [a1] at e4
    obtain ⟨p', _, p2, p3⟩ := hin.inn (by rw [swp_len]; omega) (k := p) (by omega) e2
    have p4 : ∃ p'', p'' < n + 1 ∧ at' l2 p = at' l p'' := by
      rw [p3, hsw, if_neg (by omega)]
      split
      · exact ⟨n, by omega, rfl⟩
      · exact ⟨p', by omega, rfl⟩
    obtain ⟨p'', p5, p6⟩ := p4
    rw [p6, top r e3]
    split
    · exact hroot p'' p5
    · exact h.cu p'' r (by omega) p5 (by omega) e4
theorem HS.done (h : HS lt 0 l) : Srt lt 0 l.length l := h.so
section
variable {pre s post : List α}
theorem part_at {k : Nat} (hk : k < s.length) : at' (pre ++ (s ++ post)) (pre.length + k) = at' s k := by
  simp only [at', List.getD_eq_getElem?_getD]
  rw [List.getElem?_append_right (by omega), show pre.length + k - pre.length = k from by omega, List.getElem?_append_left hk]
theorem set_part {k : Nat} {x : α} (hk : k < s.length) : (pre ++ (s ++ post)).set (pre.length + k) x = pre ++ (s.set k x ++ post) := by
  rw [List.set_append, if_neg (by omega), show pre.length + k - pre.length = k from by omega, List.set_append, if_pos hk]
theorem swp_part {i j : Nat} (hi : i < s.length) (hj : j < s.length) : swp (pre ++ (s ++ post)) (pre.length + i) (pre.length + j) = pre ++ (swp s i j ++ post) := by
  unfold swp
  rw [part_at hi, part_at hj, set_part hi, set_part (by simpa using hj)]
theorem Sw.part {n : Nat} {t : List α} (h : Sw 0 n s t) (hn : n ≤ s.length) : Sw pre.length (pre.length + n) (pre ++ (s ++ post)) (pre ++ (t ++ post)) := by
  induction h with
  | refl => exact .refl
  | swp h i1 i2 j1 j2 ih =>
    have := h.len
    rw [← swp_part (by omega) (by omega)]
    exact .swp ih (by omega) (by omega) (by omega) (by omega)
theorem Srt.part (h : Srt lt 0 s.length s) : Srt lt pre.length (pre.length + s.length) (pre ++ (s ++ post)) := fun p q e1 e2 e3 => by
  obtain ⟨p', rfl⟩ : ∃ p', p = pre.length + p' := ⟨p - pre.length, by omega⟩
  obtain ⟨q', rfl⟩ : ∃ q', q = pre.length + q' := ⟨q - pre.length, by omega⟩
  rw [part_at (by omega), part_at (by omega)]
  exact h p' q' (by omega) (by omega) (by omega)
theorem part_of {a b : Nat} (hab : a ≤ b) (hb : b ≤ l.length) : ∃ pre s post, l = pre ++ (s ++ post) ∧ pre.length = a ∧ s.length = b - a :=
  ⟨l.take a, (l.drop a).take (b - a), l.drop b, by
    rw [show l.drop b = (l.drop a).drop (b - a) from by rw [List.drop_drop]; congr 1; omega, List.take_append_drop, List.take_append_drop], by rw [List.length_take]; omega, by rw [List.length_take, List.length_drop]; omega⟩
end
end
section
variable {α : Type} [Inhabited α] {lt : α → α → Bool} {a b : Nat} {l m : List α}
structure PI (lt : α → α → Bool) (a b i j : Nat) (l : List α) : Prop where
  i0 : a < i
  j0 : j < b
  ij : i ≤ j + 1
  le : ∀ k, a < k → k < i → lt (at' l k) (at' l a) = true
  ge : ∀ k, j < k → k < b → lt (at' l k) (at' l a) = false
structure Part (lt : α → α → Bool) (a b c : Nat) (l : List α) : Prop where
  ac : a ≤ c
  cb : c < b
  le : ∀ k, a ≤ k → k < c → lt (at' l k) (at' l c) = true
  ge : ∀ k, c < k → k < b → lt (at' l k) (at' l c) = false
theorem PI.start (h : a < b) : PI lt a b (a + 1) (b - 1) l := ⟨by omega, by omega, by omega, fun k h1 h2 => by omega, fun k h1 h2 => by omega⟩
theorem PI.left {i j : Nat} (h : PI lt a b i j l) (hij : i ≤ j) (hl : lt (at' l i) (at' l a) = true) : PI lt a b (i + 1) j l :=
  ⟨by have := h.i0; omega, h.j0, by omega, fun k h1 h2 => by
    by_cases e : k = i
    · rw [e]; exact hl
    · exact h.le k h1 (by omega), h.ge⟩
theorem PI.right {i j : Nat} (h : PI lt a b i j l) (hij : i ≤ j) (hl : lt (at' l j) (at' l a) = false) : PI lt a b i (j - 1) l :=
  ⟨h.i0, by have := h.j0; omega, by have := h.i0; omega, h.le, fun k h1 h2 => by
    by_cases e : k = j
    · rw [e]; exact hl
    · exact h.ge k (by omega) h2⟩
theorem PI.change {i j : Nat} (h : PI lt a b i j l) (hb : b ≤ l.length) (hij : i ≤ j) (h1 : lt (at' l i) (at' l a) = false) (h2 : lt (at' l j) (at' l a) = true) : PI lt a b (i + 1) (j - 1) (swp l i j) ∧ i < j := by
  have hne : i ≠ j := fun e => by rw [e, h2] at h1; cases h1
  have hi := h.i0
  have hj := h.j0
  have hs := fun k => swp_at (l := l) (i := i) (j := j) (k := k) (by omega) (by omega)
  have ha : at' (swp l i j) a = at' l a := by rw [hs, if_neg (by omega), if_neg (by omega)]
  refine ⟨⟨by omega, by omega, by omega, fun k e1 e2 => ?_, fun k e1 e2 => ?_⟩, by omega⟩
  · rw [ha, hs, if_neg (by omega)]
    split
    · exact h2
    · exact h.le k e1 (by omega)
  · rw [ha, hs]
    split
    · exact h1
    · rw [if_neg (by omega)]
      exact h.ge k (by omega) e2
theorem PI.done {i j : Nat} (h : PI lt a b i j l) (hb : b ≤ l.length) (hij : j < i) : Part lt a b j (swp l j a) := by
  have hi := h.i0
  have hj := h.j0
  have hj2 := h.ij
  have hs := fun k => swp_at (l := l) (i := j) (j := a) (k := k) (by omega) (by omega)
  have hjv : at' (swp l j a) j = at' l a := by
    rw [hs]
    split
    · rename_i e; rw [e]
    · rw [if_pos rfl]
  refine ⟨by omega, hj, fun k e1 e2 => ?_, fun k e1 e2 => ?_⟩
  · rw [hjv, hs]
    split
    · exact h.le j (by omega) (by omega)
    · rw [if_neg (by omega)]
      exact h.le k (by omega) (by omega)
  · rw [hjv, hs, if_neg (by omega), if_neg (by omega)]
    exact h.ge k e1 e2
structure Dist (lt : α → α → Bool) (l : List α) : Prop where
  nd : l.Nodup
  tot : ∀ x ∈ l, ∀ y ∈ l, x ≠ y → lt x y = true ∨ lt y x = true
theorem Dist.perm (h : Dist lt l) (hp : m.Perm l) : Dist lt m := ⟨hp.nodup_iff.2 h.nd, fun x hx y hy => h.tot x (hp.mem_iff.1 hx) y (hp.mem_iff.1 hy)⟩
theorem Dist.ahead (h : Dist lt l) {p q : Nat} (hp : p < l.length) (hq : q < l.length) (hne : p ≠ q) (hf : lt (at' l q) (at' l p) = false) : lt (at' l p) (at' l q) = true := by
  have e : at' l p ≠ at' l q := fun e => by
    have e1 : at' l p = l[p] := by simp only [at', List.getD_eq_getElem?_getD, List.getElem?_eq_getElem hp, Option.getD_some]
    have e2 : at' l q = l[q] := by simp only [at', List.getD_eq_getElem?_getD, List.getElem?_eq_getElem hq, Option.getD_some]
    rw [e1, e2] at e
    rcases Nat.lt_or_gt_of_ne hne with h1 | h1
    · exact (List.pairwise_iff_getElem.1 h.nd p q hp hq h1) e
    · exact (List.pairwise_iff_getElem.1 h.nd q p hq hp h1) e.symm
  rcases h.tot _ (at_mem hp) _ (at_mem hq) e with h1 | h1
  · exact h1
  · rw [h1] at hf; cases hf
def LowP (lt : α → α → Bool) (a b : Nat) (l : List α) : Prop := 0 < a → ∀ k, a ≤ k → k < b → lt (at' l (a - 1)) (at' l k) = true
theorem LowP.sw (h : LowP lt a b l) (hs : Sw a b l m) (hb : b ≤ l.length) : LowP lt a b m := fun h0 k h1 h2 => by
  obtain ⟨k', q1, q2, q3⟩ := hs.inn hb h1 h2
  rw [q3, hs.out hb (by omega)]
  exact h h0 k' q1 q2
theorem LowP.sub {b' : Nat} (h : LowP lt a b l) (hb : b' ≤ b) : LowP lt a b' l := fun h0 k h1 h2 => h h0 k h1 (by omega)
theorem CutP.part {a0 b0 c : Nat} (ha : CutP lt a0 b0 a l) (hb : CutP lt a0 b0 b l) (h : CutP lt a b c l) (h1 : a ≤ c) (h2 : c ≤ b) : CutP lt a0 b0 c l := fun p q e1 e2 e3 e4 => by
  by_cases hp : p < a
  · exact ha p q e1 hp (by omega) e4
  · by_cases hq : b ≤ q
    · exact hb p q e1 (by omega) hq e4
    · exact h p q (by omega) e2 e3 (by omega)
structure PdI (lt : α → α → Bool) (a0 b0 a b : Nat) (l0 l : List α) : Prop where
  h0 : a0 ≤ a
  h1 : a ≤ b
  h2 : b ≤ b0
  sw : Sw a0 b0 l0 l
  sl : Srt lt a0 a l
  sr : Srt lt b b0 l
  ca : CutP lt a0 b0 a l
  cb : CutP lt a0 b0 b l
  lo : LowP lt a b l
theorem PdI.start {a b : Nat} {l : List α} (h : a ≤ b) (hl : LowP lt a b l) : PdI lt a b a b l l := ⟨by omega, h, by omega, .refl, fun p q e1 e2 e3 => by omega, fun p q e1 e2 e3 => by omega, fun p q e1 e2 e3 e4 => by omega, fun p q e1 e2 e3 e4 => by omega, hl⟩
theorem PdI.some {a0 b0 : Nat} {l0 : List α} (h : PdI lt a0 b0 a b l0 l) (hb : b0 ≤ l.length) (hs : Sw a b l m) : PdI lt a0 b0 a b l0 m := by
  have := h.h0; have := h.h1; have := h.h2
  exact ⟨h.h0, h.h1, h.h2, h.sw.trans (hs.mono h.h0 h.h2), h.sl.sw hs (by omega) (by omega), h.sr.sw hs (by omega) (by omega), h.ca.sw hs (by omega) h.h0 h.h2 (by omega), h.cb.sw hs (by omega) h.h0 h.h2 (by omega), h.lo.sw hs (by omega)⟩
theorem PdI.done {a0 b0 : Nat} {l0 : List α} (h : PdI lt a0 b0 a b l0 l) (hs : Srt lt a b l) : Srt lt a0 b0 l := by
  have := h.h0; have := h.h1; have := h.h2
  exact (h.sl.join hs fun p q e1 e2 e3 e4 => h.ca p q e1 e2 e3 (by omega)).join h.sr h.cb
theorem PdI.left (O : Ord lt) {a0 b0 c : Nat} {l0 : List α} (h : PdI lt a0 b0 a b l0 l) (hb : b0 ≤ l.length) (hd : Dist lt l) (hp : Part lt a b c l) (hs : Sw a c l m) (hm : Srt lt a c m) : PdI lt a0 b0 (c + 1) b l0 m := by
  have q0 := h.h0; have q1 := h.h1; have q2 := h.h2; have q3 := hp.ac; have q4 := hp.cb
  obtain ⟨k1, k2⟩ := cut_at O q4 (fun k e1 e2 => O.asy _ _ (hp.le k e1 e2)) hp.ge
  have c1 := CutP.part h.ca h.cb k1 (by omega) (by omega)
  have c2 := CutP.part h.ca h.cb k2 (by omega) (by omega)
  have c1 := c1.sw hs (by omega) (by omega) (by omega) (by omega)
  have c2 := c2.sw hs (by omega) (by omega) (by omega) (by omega)
  have ca := h.ca.sw hs (by omega) (by omega) (by omega) (by omega)
  have cb := h.cb.sw hs (by omega) (by omega) (by omega) (by omega)
  have sl := h.sl.sw hs (by omega) (by omega)
  have sr := h.sr.sw hs (by omega) (by omega)
  refine ⟨by omega, by omega, q2, h.sw.trans (hs.mono (by omega) (by omega)), ?_, sr, c2, cb, fun _ k e1 e2 => ?_⟩
  · exact (sl.join hm fun p q e1 e2 e3 e4 => ca p q e1 e2 e3 (by omega)).join Srt.one fun p q e1 e2 e3 e4 => c1 p q e1 e2 e3 (by omega)
  · rw [show c + 1 - 1 = c from rfl, hs.out (by omega) (by omega), hs.out (by omega) (by omega)]
    exact hd.ahead (by omega) (by omega) (by omega) (hp.ge k (by omega) e2)
theorem PdI.right (O : Ord lt) {a0 b0 c : Nat} {l0 : List α} (h : PdI lt a0 b0 a b l0 l) (hb : b0 ≤ l.length) (hp : Part lt a b c l) (hs : Sw (c + 1) b l m) (hm : Srt lt (c + 1) b m) : PdI lt a0 b0 a c l0 m := by
  have q0 := h.h0; have q1 := h.h1; have q2 := h.h2; have q3 := hp.ac; have q4 := hp.cb
  obtain ⟨k1, k2⟩ := cut_at O q4 (fun k e1 e2 => O.asy _ _ (hp.le k e1 e2)) hp.ge
  have c1 := CutP.part h.ca h.cb k1 (by omega) (by omega)
  have c2 := CutP.part h.ca h.cb k2 (by omega) (by omega)
  have c1 := c1.sw hs (by omega) (by omega) (by omega) (by omega)
  have c2 := c2.sw hs (by omega) (by omega) (by omega) (by omega)
  have ca := h.ca.sw hs (by omega) (by omega) (by omega) (by omega)
  have cb := h.cb.sw hs (by omega) (by omega) (by omega) (by omega)
  have sl := h.sl.sw hs (by omega) (by omega)
  have sr := h.sr.sw hs (by omega) (by omega)
  refine ⟨q0, by omega, by omega, h.sw.trans (hs.mono (by omega) (by omega)), sl, ?_, ca, c1, fun h0 k e1 e2 => ?_⟩
  · refine Srt.join (c := c + 1) Srt.one ?_ fun p q e1 e2 e3 e4 => c2 p q (by omega) e2 e3 (by omega)
    exact hm.join sr fun p q e1 e2 e3 e4 => cb p q (by omega) e2 e3 (by omega)
  · rw [hs.out (by omega) (by omega), hs.out (by omega) (by omega)]
    exact h.lo h0 k e1 (by omega)
theorem PdI.low {a0 b0 c : Nat} {l0 : List α} (h : PdI lt a0 b0 a b l0 l) (hb : b0 ≤ l.length) (hd : Dist lt l) (hp : Part lt a b c l) : LowP lt a c l ∧ LowP lt (c + 1) b l := by
  have q2 := h.h2; have q4 := hp.cb
  exact ⟨h.lo.sub (by omega), fun _ k e1 e2 => hd.ahead (by omega) (by omega) (by omega) (hp.ge k (by omega) e2)⟩
end
end Go.Proofs.Ytoadcfjkkoemdaa.A

namespace Go.Proofs.Ytoadcfjkkoemdaa.A
open Go Go.Vm
set_option maxRecDepth 10000
set_option linter.unusedVariables false
theorem at_map {α β : Type} [Inhabited α] [Inhabited β] (f : α → β) {l : List α} {i : Nat} (hi : i < l.length) : at' (l.map f) i = f (at' l i) := by
  simp only [at', List.getD_eq_getElem?_getD, List.getElem?_map, List.getElem?_eq_getElem hi, Option.map_some, Option.getD_some]
theorem pget {l : List Nat} {j : List Value} {i : Nat} (hi : i < l.length) : CGet (pcells l ++ j) i (.pointer (some ⟨at' l i, 0, none⟩)) := by
  refine ⟨?_, by rw [List.length_append, pcells_len]; omega⟩
  induction l generalizing i with
  | nil => simp at hi
  | cons a l ih =>
    cases i with
    | zero => rfl
    | succ i => exact ih (by simpa using hi)
theorem pover {l : List Nat} {j : List Value} {i : Nat} {x : Nat} (hi : i < l.length) : Over (pcells l ++ j) i [.pointer (some ⟨x, 0, none⟩)] (pcells (l.set i x) ++ j) := by
  refine ⟨by rw [List.length_append, pcells_len]; simp; omega, ?_⟩
  induction l generalizing i with
  | nil => simp at hi
  | cons a l ih =>
    cases i with
    | zero => show Value.pointer (some ⟨x, 0, none⟩) :: over (pcells l ++ j) 0 [] = _; rw [over_nil]; rfl
    | succ i => show Value.pointer (some ⟨a, 0, none⟩) :: over (pcells l ++ j) i [.pointer (some ⟨x, 0, none⟩)] = _; rw [ih (by simpa using hi)]; rfl
structure PS (q n : Nat) (j : List Value) (G : Nat → Prop) (h0 h : Heap) (l : List Nat) : Prop where
  ln : l.length = n
  lt : q < h.n
  get : h.get q = .cells (pcells l ++ j) 1
  fr : Fr (fun i => i = q) h0 h
  gd : ∀ e ∈ l, G e
structure CmpI (lt : Nat → Nat → Bool) (fd : FuncId) (q : Nat) (G : Nat → Prop) (h0 : Heap) : Prop where
  run : ∀ {h : Heap} {x y : Nat}, Fr (fun i => i = q) h0 h → G x → G y → Runs Try.prog T0 (.fn fd) [.pointer (some ⟨x, 0, none⟩), .pointer (some ⟨y, 0, none⟩)] h (fun r h' => (∃ c : Int, r = .int .i64 c ∧ (c < 0 ↔ lt x y = true)) ∧ Fr (fun _ => False) h h') (fun _ _ => False)
section
variable {lt : Nat → Nat → Bool} {fd : FuncId} {q n a b cap : Nat} {sp : Option Nat} {j : List Value} {G : Nat → Prop} {h0 h : Heap} {l m : List Nat}
theorem PS.keep {h' : Heap} (hs : PS q n j G h0 h l) (hf : Fr (fun _ => False) h h') : PS q n j G h0 h' l := ⟨hs.ln, hf.lt hs.lt, by rw [hf.get _ hs.lt id]; exact hs.get, hs.fr.trans' (hf.mono fun _ _ e => e.elim), hs.gd⟩
theorem PS.swp {x y : Nat} (hs : PS q n j G h0 h l) (hx : x < n) (hy : y < n) : PS q n j G h0 (h.set q (.cells (pcells (swp l x y) ++ j) 1)) (swp l x y) :=
  ⟨by rw [swp_len]; exact hs.ln, by simpa using hs.lt, by rw [Heap.get_set, if_pos rfl], hs.fr.set fun _ => rfl, fun e he => hs.gd e ((swp_perm (by rw [hs.ln]; exact hx) (by rw [hs.ln]; exact hy)).mem_iff.1 he)⟩
theorem PS.cmp {x y : Nat} (hs : PS q n j G h0 h l) (H : CmpI lt fd q G h0) (hx : x < n) (hy : y < n) :
    Runs Try.prog T0 (.fn fd) [.pointer (some ⟨at' l x, 0, none⟩), .pointer (some ⟨at' l y, 0, none⟩)] h (fun r h' => (∃ c : Int, r = .int .i64 c ∧ (c < 0 ↔ lt (at' l x) (at' l y) = true)) ∧ PS q n j G h0 h' l) (fun _ _ => False) :=
  (H.run hs.fr (hs.gd _ (at_mem (by rw [hs.ln]; exact hx))) (hs.gd _ (at_mem (by rw [hs.ln]; exact hy)))).mono (fun r h' ⟨h1, h2⟩ => ⟨h1, hs.keep h2⟩) fun _ _ h => h
theorem not_true {p : Bool} {c : Int} (h : c < 0 ↔ p = true) (hc : ¬ c < 0) : p = false := by
  cases p with
  | false => rfl
  | true => exact absurd (h.2 rfl) hc
theorem PS.ov {x y : Nat} (hs : PS q n j G h0 h l) (hx : x < n) (hy : y < n) : HGet h q (.cells (pcells l ++ j) 1) ∧ CGet (pcells l ++ j) x (.pointer (some ⟨at' l x, 0, none⟩)) ∧ CGet (pcells l ++ j) y (.pointer (some ⟨at' l y, 0, none⟩)) ∧
    Over (pcells l ++ j) x [.pointer (some ⟨at' l y, 0, none⟩)] (pcells (l.set x (at' l y)) ++ j) ∧ Over (pcells (l.set x (at' l y)) ++ j) y [.pointer (some ⟨at' l x, 0, none⟩)] (pcells (Go.Proofs.Ytoadcfjkkoemdaa.A.swp l x y) ++ j) := by
  have := hs.ln
  exact ⟨⟨hs.get⟩, pget (by omega), pget (by omega), pover (by omega), pover (by simp; omega)⟩
set_option maxHeartbeats 4000000 in
theorem reverse_ok (hs : PS q n j G h0 h l) (hab : a ≤ b) (hb : b ≤ n) (hn : n < 100000) :
    Runs Try.prog T0 (.fn fn_zbdQ) [.slice (some ⟨q, 0, sp⟩) n cap, .int .i64 a, .int .i64 b, .func (.func fd) ⟨[]⟩ ⟨[]⟩] h (fun _ h' => ∃ m, PS q n j G h0 h' m ∧ Sw a b l m) (fun _ _ => False) := by
  refine zbdQ_runs ?_
  refine stp ?_
  refine loop2 zbdQ_l0_M 8 9 (fun k v4 v5 hx => ∃ (x y : Nat) (m : List Nat), v4 = .int .i64 x ∧ v5 = .int .i64 ((y : Int) - 1) ∧ k = y - x ∧ a ≤ x ∧ y ≤ b ∧ PS q n j G h0 hx m ∧ Sw a b l m) ?_ (b - a) ⟨a, b, l, rfl, rfl, rfl, by omega, by omega, hs, .refl⟩
  rintro m v8 v9 h' x13 x14 x15 x16 x17 x18 x19 x20 x21 x22 x23 x24 x25 x26 x27 x28 x29 x30 x31 x32 x33 ⟨x, y, u, rfl, rfl, rfl, hx, hy, hs, hw⟩
  refine stp ?_
  refine C.if (fun hlt => ?_) (fun hge => ?_)
  · haveI : IdxOff 0 ((y : Int) - 1) 1 (y - 1) := ⟨by omega⟩
    obtain ⟨i0, i1, i2, i3, i4⟩ := hs.ov (x := x) (y := y - 1) (by omega) (by omega)
    refine stp ?_
    refine D.one0 StabL.ok ?_
    refine stp ?_
    exact loop2a 8 9 (y - 1 - (x + 1)) (by omega) ⟨x + 1, y - 1, _, rfl, by congr 1; omega, rfl, by omega, by omega, hs.swp (x := x) (y := y - 1) (by omega) (by omega), .swp hw (by omega) (by omega) (by omega) (by omega)⟩
  · refine stp ?_
    exact ⟨u, hs, hw⟩
set_option maxHeartbeats 8000000 in
theorem insertion_ok (H : CmpI lt fd q G h0) (oo : Ord lt) (hs : PS q n j G h0 h l) (hab : a ≤ b) (hb : b ≤ n) (hn : n < 100000) :
    Runs Try.prog T0 (.fn fn_zscQ) [.slice (some ⟨q, 0, sp⟩) n cap, .int .i64 a, .int .i64 b, .func (.func fd) ⟨[]⟩ ⟨[]⟩] h (fun _ h' => ∃ m, PS q n j G h0 h' m ∧ Sw a b l m ∧ Srt lt a b m) (fun _ _ => False) := by
  refine zscQ_runs ?_
  refine stp ?_
  rw [show ((a : Int) + 1) = ((a + 1 : Nat) : Int) from rfl]
  refine loop1 zscQ_l1_M 8 (fun k v8 hx => ∃ (i : Nat) (u : List Nat), v8 = .int .i64 i ∧ k = b - i ∧ a < i ∧ PS q n j G h0 hx u ∧ Sw a b l u ∧ (i ≤ b ∨ i = a + 1) ∧ Srt lt a i u) ?_ (b - (a + 1)) ⟨a + 1, l, rfl, rfl, by omega, hs, .refl, .inr rfl, Srt.one⟩
  rintro m v8 h' x9 x12 x13 x14 x15 x16 x17 x18 x19 x20 x21 x22 x23 x24 x25 x26 x27 x28 x29 x30 x31 x32 x33 x34 x35 x36 x37 x38 x39 x40 x41 x42 x43 x44 x45 x46 x47 x48 x49 x50 x51 x52 ⟨i, u, rfl, rfl, hi, hs, hw, hib, hso⟩
  refine stp ?_
  refine C.if (fun hlt => ?_) (fun hge => ?_)
  · refine stp ?_
    refine loop1 zscQ_l0_M 9 (fun k v9 hx => ∃ (y : Nat) (u : List Nat), v9 = .int .i64 y ∧ k = y ∧ a ≤ y ∧ y ≤ i ∧ PS q n j G h0 hx u ∧ Sw a b l u ∧ Hole lt a (i + 1) y u) ?_ i ⟨i, u, rfl, rfl, by omega, by omega, hs, hw, hso.hole⟩
    clear hs hw hso
    rintro m v9 h' x18 x19 x20 x21 x22 x23 x24 x25 x26 x27 x28 x29 x30 x31 x32 x33 x34 x35 x36 x37 x38 x39 x40 x41 x42 x43 x44 x45 x46 x47 x48 x49 x50 x51 x52 ⟨y, u, rfl, rfl, hay, hyi, hs, hw, hho⟩
    have hul := hs.ln
    rcases Nat.lt_or_ge a m with hy | hy
    · haveI g1 : ∀ {ts : List Value} {h : Heap} {O : Oper} {x z : Operand} [Ev ts x (.int .i64 (m : Nat))] [Ev ts z (.int .i64 (a : Nat))], XOp Try.prog ts h (.bin .gtr O x z) (.bool true) h := xgtr1 (by omega)
      haveI : IdxOff 0 ((m : Int) - 1) 1 (m - 1) := ⟨by omega⟩
      haveI : InR .i64 ((m : Int) - 1) := inr_i64 (by omega)
      obtain ⟨i0, i1, i2, _, _⟩ := hs.ov (x := m) (y := m - 1) (by omega) (by omega)
      refine stp ?_
      refine D.howT (XOp.mkIndexSl (by omega)) rfl ?_
      refine stp ?_
      refine D.howT (XOp.mkIndexSl (by omega)) rfl ?_
      refine stp ?_
      refine D.callT (hs.cmp H (x := m) (y := m - 1) (by omega) (by omega)) (fun r g hr => rfl) (fun r g hr => ?_)
      obtain ⟨⟨c, rfl, hc⟩, hs2⟩ := hr
      obtain ⟨i0, i1, i2, i3, i4⟩ := hs2.ov (x := m) (y := m - 1) (by omega) (by omega)
      refine stp ?_
      refine C.if (fun h1 => ?_) (fun h1 => ?_)
      · refine stp ?_
        refine D.one0 StabL.ok ?_
        refine stp ?_
        exact loop1a 9 (m - 1) (by omega) ⟨m - 1, _, by congr 1; omega, rfl, by omega, by omega, hs2.swp (x := m) (y := m - 1) (by omega) (by omega), .swp hw (by omega) (by omega) (by omega) (by omega), hho.step oo (by omega) hy (by omega) (hc.1 h1)⟩
      · refine stp ?_
        exact loop1a 8 (b - (i + 1)) (by omega) ⟨i + 1, u, rfl, rfl, by omega, hs2, hw, .inl (by omega), hho.done oo (.inr (not_true hc h1))⟩
    · haveI g1 : ∀ {ts : List Value} {h : Heap} {O : Oper} {x z : Operand} [Ev ts x (.int .i64 (m : Nat))] [Ev ts z (.int .i64 (a : Nat))], XOp Try.prog ts h (.bin .gtr O x z) (.bool false) h := xgtr0 (by omega)
      refine stp ?_
      exact loop1a 8 (b - (i + 1)) (by omega) ⟨i + 1, u, rfl, rfl, by omega, hs, hw, .inl (by omega), hho.done oo (.inl hy)⟩
  · refine stp ?_
    exact ⟨u, hs, hw, hso.sub (Nat.le_refl _) (by omega)⟩
set_option maxHeartbeats 8000000 in
theorem sift_ok (H : CmpI lt fd q G h0) {pre s post : List Nat} {i k w : Nat} (hs : PS q n j G h0 h (pre ++ (s ++ post))) (hk : k ≤ s.length) (hi : i ≤ k) (hw : k - i < w) (hn : n < 100000) :
    Runs Try.prog T0 (.fn fn_zcdQ) [.slice (some ⟨q, 0, sp⟩) n cap, .int .i64 i, .int .i64 k, .int .i64 pre.length, .func (.func fd) ⟨[]⟩ ⟨[]⟩] h (fun _ h' => PS q n j G h0 h' (pre ++ ((downF (gtF lt) w s i k).1 ++ post))) (fun _ _ => False) := by
  refine zcdQ_runs ?_
  refine stp ?_
  refine loop1 zcdQ_l0_M 10 (fun z v10 hx => ∃ (r : Nat) (t : List Nat), v10 = .int .i64 r ∧ PS q n j G h0 hx (pre ++ (t ++ post)) ∧ t.length = s.length ∧ downF (gtF lt) z t r k = downF (gtF lt) w s i k ∧ r ≤ k ∧ k - r < z) ?_ w ⟨i, s, rfl, hs, rfl, rfl, hi, hw⟩
  rintro m v10 h' x11 x13 x14 x15 x16 x17 x18 x19 x20 x21 x22 x23 x24 x25 x26 x27 x28 x29 x30 x31 x32 x33 x34 x35 x36 x37 x38 x39 x40 x41 x42 x43 x44 x45 x46 x47 x48 x49 x50 x51 x52 x53 x54 x55 x56 x57 x58 x59 x60 x61 x62 x63 x64 x65 x66 x67 x68 x69 x70 x71 x72 x73 x74 x75 x76 x77 x78 x79 x80 x81 ⟨r, t, rfl, hs, htl, he, hr, hz⟩
  obtain ⟨z, rfl⟩ : ∃ z', m = z' + 1 := ⟨m - 1, by omega⟩
  have hln := hs.ln
  rw [List.length_append, List.length_append] at hln
  have ej : ((2 : Int) * (r : Int)) + 1 = ((2 * r + 1 : Nat) : Int) := by omega
  have ej2 : ((2 * r + 1 : Nat) : Int) + 1 = ((2 * r + 2 : Nat) : Int) := by omega
  rw [downF] at he
  haveI : InR .i64 ((2 : Int) * (r : Int)) := inr_i64 (by omega)
  refine stp ?_
  rw [ej]
  refine C.if (fun h1 => ?_) (fun h1 => ?_)
  · refine stp ?_
    rw [if_pos (by omega)] at he
    rw [← he]
    exact hs
  rw [if_neg (by omega)] at he
  have hkid := kid_lt (lt := gtF lt) (l := t) (i := r) (n := k) (by omega)
  have hat : ∀ {x : Nat}, x < t.length → at' (pre ++ (t ++ post)) (pre.length + x) = at' t x := fun hx => part_at hx
  haveI o1 : IdxOff 0 ((pre.length : Int) + ((2 * r + 1 : Nat) : Int)) 1 (pre.length + (2 * r + 1)) := ⟨by omega⟩
  haveI o2 : IdxOff 0 ((pre.length : Int) + ((2 * r + 1 : Nat) : Int) + 1) 1 (pre.length + (2 * r + 2)) := ⟨by omega⟩
  haveI o3 : IdxOff 0 ((pre.length : Int) + ((2 * r + 2 : Nat) : Int)) 1 (pre.length + (2 * r + 2)) := ⟨by omega⟩
  haveI o0 : IdxOff 0 ((pre.length : Int) + (r : Int)) 1 (pre.length + r) := ⟨by omega⟩
  haveI r1 : InR .i64 ((pre.length : Int) + ((2 * r + 1 : Nat) : Int)) := inr_i64 (by omega)
  haveI r2 : InR .i64 ((pre.length : Int) + ((2 * r + 2 : Nat) : Int)) := inr_i64 (by omega)
  haveI r0 : InR .i64 ((pre.length : Int) + (r : Int)) := inr_i64 (by omega)
  rcases Nat.lt_or_ge (2 * r + 2) k with h2 | h2
  case' inl =>
    haveI g1 : ∀ {ts : List Value} {h : Heap} {O : Oper} {x z : Operand} [Ev ts x (.int .i64 (((2 * r + 1 : Nat) : Int) + 1))] [Ev ts z (.int .i64 (k : Nat))], XOp Try.prog ts h (.bin .lss O x z) (.bool true) h := xlss1 (by omega)
    obtain ⟨i0, i1, i2, _, _⟩ := hs.ov (x := pre.length + (2 * r + 1)) (y := pre.length + (2 * r + 2)) (by omega) (by omega)
    refine stp ?_
    refine D.howT (XOp.mkIndexSl (by omega)) rfl ?_
    refine stp ?_
    refine D.howT (XOp.mkIndexSl (by omega)) rfl ?_
    refine stp ?_
    refine D.callT (hs.cmp H (x := pre.length + (2 * r + 1)) (y := pre.length + (2 * r + 2)) (by omega) (by omega)) (fun r g hr => rfl) (fun r g hr => ?_)
    obtain ⟨⟨c, rfl, hc⟩, hs3⟩ := hr
    rw [hat (by omega), hat (by omega)] at hc
    refine stp ?_
    refine C.if (fun h4 => ?two) (fun h4 => ?one)
  case' two =>
    have hkd : kid (gtF lt) t r k = 2 * r + 2 := by unfold kid; rw [if_pos ⟨by omega, hc.1 h4⟩]
    refine stp ?_
    rw [ej2]
  case' one =>
    have hkd : kid (gtF lt) t r k = 2 * r + 1 := by unfold kid; rw [if_neg (fun e => h4 (hc.2 e.2))]
    refine stp ?_
  case' inr =>
    have hkd : kid (gtF lt) t r k = 2 * r + 1 := by unfold kid; rw [if_neg (fun e => by omega)]
    have hs3 := hs
    haveI g1 : ∀ {ts : List Value} {h : Heap} {O : Oper} {x z : Operand} [Ev ts x (.int .i64 (((2 * r + 1 : Nat) : Int) + 1))] [Ev ts z (.int .i64 (k : Nat))], XOp Try.prog ts h (.bin .lss O x z) (.bool false) h := xlss0 (by omega)
    refine stp ?_
  all_goals
    have hkb := hkid.1
    obtain ⟨i0, i1, i2, _, _⟩ := hs3.ov (x := pre.length + r) (y := pre.length + kid (gtF lt) t r k) (by omega) (by omega)
    have hcm := hs3.cmp H (x := pre.length + r) (y := pre.length + kid (gtF lt) t r k) (by omega) (by omega)
    have hcv : lt (at' (pre ++ (t ++ post)) (pre.length + r)) (at' (pre ++ (t ++ post)) (pre.length + kid (gtF lt) t r k)) = gtF lt (at' t (kid (gtF lt) t r k)) (at' t r) := by rw [hat (by omega), hat (by omega)]
    rw [hcv] at hcm
    have hag : kid (gtF lt) t r k ≤ k ∧ k - kid (gtF lt) t r k < z := by omega
    rw [hkd] at he hkid i2 hcm hag hkb
    refine stp ?_
    refine D.callX hcm (fun r g hr => rfl) (fun r g hr => ?_) (fun _ _ hx => hx.elim)
    obtain ⟨⟨c2, rfl, hc2⟩, hs5⟩ := hr
    refine stp ?_
    refine C.ifN (fun h6 => ?_) (fun h6 => ?_)
    · refine stp ?_
      rw [if_neg (by rw [not_true hc2 h6]; decide)] at he
      rw [← he]
      exact hs5
    · rw [if_pos (hc2.1 h6)] at he
      have hsw := swp_part (pre := pre) (s := t) (post := post) (i := r) (j := kid (gtF lt) t r k) (by omega) (by rw [hkd]; omega)
      rw [hkd] at hsw
      obtain ⟨i0, i1, i2, i3, i4⟩ := hs5.ov (x := pre.length + r) (y := pre.length + kid (gtF lt) t r k) (by omega) (by rw [hkd]; omega)
      have hs7 := hs5.swp (x := pre.length + r) (y := pre.length + kid (gtF lt) t r k) (by omega) (by rw [hkd]; omega)
      rw [hkd] at i2 i3 i4 hs7
      refine stp ?_
      refine D.one0 ?_ ?_
      · repeat refine stab_cons inferInstance ?_
        rfl
      refine stp ?_
      rw [hsw] at hs7 ⊢
      exact loop1a 10 z (by omega) ⟨_, _, rfl, hs7, by rw [swp_len]; exact htl, he, hag.1, hag.2⟩
end
end Go.Proofs.Ytoadcfjkkoemdaa.A

namespace Go.Proofs.Ytoadcfjkkoemdaa.A
open Go Go.Vm
set_option maxRecDepth 10000
set_option linter.unusedVariables false
section
variable {lt : Nat → Nat → Bool} {fd : FuncId} {q n a b cap : Nat} {sp : Option Nat} {j : List Value} {G : Nat → Prop} {h0 h : Heap} {l m : List Nat}
set_option maxHeartbeats 8000000 in
theorem heapsort_ok (H : CmpI lt fd q G h0) (oo : Ord lt) (hs : PS q n j G h0 h l) (hab : a < b) (hb : b ≤ n) (hn : n < 100000) :
    Runs Try.prog T0 (.fn fn_zrcQ) [.slice (some ⟨q, 0, sp⟩) n cap, .int .i64 a, .int .i64 b, .func (.func fd) ⟨[]⟩ ⟨[]⟩] h (fun _ h' => ∃ m, PS q n j G h0 h' m ∧ Sw a b l m ∧ Srt lt a b m) (fun _ _ => False) := by
  obtain ⟨pre, s, post, rfl, rfl, hsl⟩ := part_of (Nat.le_of_lt hab) (show b ≤ l.length by rw [hs.ln]; exact hb)
  have hln := hs.ln
  rw [List.length_append, List.length_append] at hln
  have eb : (b : Int) - (pre.length : Int) = ((s.length : Nat) : Int) := by omega
  have ebn : b = pre.length + s.length := by omega
  have e1 : IntKind.i64.wrap (((s.length : Int) - 1).tdiv 2) = (((s.length - 1) / 2 + 1 : Nat) : Int) - 1 := by
    have : ((s.length : Int) - 1).tdiv 2 = (((s.length - 1) / 2 : Nat) : Int) := by
      rw [Int.tdiv_eq_ediv_of_nonneg (by omega)]; omega
    rw [this, (inr_i64 (by omega) : InR .i64 _).eq]
    omega
  refine zrcQ_runs ?_
  refine stp ?_
  rw [eb]
  refine stp ?_
  refine O.how (XOp.quoI (by decide)) ?_
  rw [e1]
  refine stp ?_
  refine loop1 zrcQ_l0_M 11 (fun k v11 hx => ∃ t : List Nat, v11 = .int .i64 ((k : Int) - 1) ∧ PS q n j G h0 hx (pre ++ (t ++ post)) ∧ t.length = s.length ∧ initG (gtF lt) k t = initG (gtF lt) ((s.length - 1) / 2 + 1) s ∧ k ≤ s.length) ?_ ((s.length - 1) / 2 + 1) ⟨s, rfl, hs, rfl, rfl, by omega⟩
  rintro m v11 h' x20 x21 x22 x23 x24 x25 x26 x27 x28 x29 ⟨t, rfl, hs1, htl, he, hk⟩
  refine stp ?_
  refine C.if (fun h2 => ?_) (fun h2 => ?_)
  · obtain ⟨k, rfl⟩ : ∃ k', m = k' + 1 := ⟨m - 1, by omega⟩
    have ek : ((k + 1 : Nat) : Int) - 1 = (k : Int) := by omega
    rw [ek]
    refine stp ?_
    rw [← htl]
    refine O.call' (sift_ok H (w := t.length + 1) (i := k) (k := t.length) hs1 (Nat.le_refl _) (by omega) (by omega) hn) (fun r h3 hs3 => ?_)
    refine stp ?_
    rw [initG] at he
    rw [htl]
    exact loop1a 11 k (by omega) ⟨_, rfl, hs3, by rw [down_len]; exact htl, he, by omega⟩
  obtain rfl : m = 0 := by omega
  rw [initG] at he
  refine stp ?_
  have hst := HS.start oo (l := s) (k := (s.length - 1) / 2 + 1) (by omega)
  have hsw0 := initG_sw (lt := gtF lt) ((s.length - 1) / 2 + 1) s
  rw [← he] at hst hsw0
  refine loop1 zrcQ_l1_M 12 (fun k v12 hx => ∃ t : List Nat, v12 = .int .i64 ((k : Int) - 1) ∧ PS q n j G h0 hx (pre ++ (t ++ post)) ∧ t.length = s.length ∧ Sw 0 s.length s t ∧ HS lt k t ∧ k ≤ s.length) ?_ s.length ⟨t, rfl, hs1, htl, hsw0, hst, Nat.le_refl _⟩
  clear hst hsw0 he
  rintro m v12 h' x32 x33 x34 x35 x36 x37 x38 x39 x40 x41 x42 x43 x44 x45 x46 x47 x48 x49 x50 x51 x52 x53 x54 x55 x56 x57 x58 x59 ⟨t, rfl, hs1, htl, hsw, hst, hk⟩
  refine stp ?_
  refine C.if (fun h2 => ?_) (fun h2 => ?_)
  · obtain ⟨k, rfl⟩ : ∃ k', m = k' + 1 := ⟨m - 1, by omega⟩
    have ek : ((k + 1 : Nat) : Int) - 1 = (k : Int) := by omega
    rw [ek]
    haveI o0 : IdxOff 0 ((pre.length : Int) + (k : Int)) 1 (pre.length + k) := ⟨by omega⟩
    haveI r0 : InR .i64 ((pre.length : Int) + (k : Int)) := inr_i64 (by omega)
    have hps := swp_part (pre := pre) (s := t) (post := post) (i := 0) (j := k) (by omega) (by omega)
    rw [Nat.add_zero] at hps
    obtain ⟨i0, i1, i2, i3, i4⟩ := hs1.ov (x := pre.length) (y := pre.length + k) (by omega) (by omega)
    have hs2 := hs1.swp (x := pre.length) (y := pre.length + k) (by omega) (by omega)
    refine stp ?_
    refine D.one0 ?_ ?_
    · repeat refine stab_cons inferInstance ?_
      rfl
    refine stp ?_
    rw [hps] at hs2 ⊢
    refine O.call' (sift_ok H (w := k + 1) (i := 0) (k := k) hs2 (by rw [swp_len]; omega) (by omega) (by omega) hn) (fun r h3 hs3 => ?_)
    refine stp ?_
    have hd := down_sw (lt := gtF lt) (k + 1) (swp t 0 k) 0 k
    exact loop1a 12 k (by omega) ⟨_, rfl, hs3, by rw [down_len, swp_len]; exact htl, (Sw.swp hsw (by omega) (by omega) (by omega) (by omega)).trans (hd.mono (by omega) (by omega)), hst.step oo (by omega) (by omega), by omega⟩
  · obtain rfl : m = 0 := by omega
    refine stp ?_
    have hso := hst.done
    rw [ebn]
    exact ⟨_, hs1, hsw.part (Nat.le_refl _), by rw [← htl]; exact hso.part⟩
theorem PS.keepZ {z : Nat} {h' : Heap} (hs : PS q n j G h0 h l) (hf : Fr (fun i => i = z) h h') (hz : z ≠ q) (h0z : h0.n ≤ z) : PS q n j G h0 h' l :=
  ⟨hs.ln, hf.lt hs.lt, by rw [hf.get _ hs.lt (fun e => hz e.symm)]; exact hs.get, hs.fr.trans hf fun i hi e => by omega, hs.gd⟩
structure CtZ (q z : Nat) (k : Int) (h0 h : Heap) : Prop where
  nq : z ≠ q
  nz : h0.n ≤ z
  lt : z < h.n
  get : h.get z = .cells [.int .i64 k] 0
  k0 : 0 ≤ k
theorem CtZ.keep {z : Nat} {k : Int} {h' : Heap} (hz : CtZ q z k h0 h) (hf : Fr (fun i => i = q) h h') : CtZ q z k h0 h' := ⟨hz.nq, hz.nz, hf.lt hz.lt, by rw [hf.get _ hz.lt hz.nq]; exact hz.get, hz.k0⟩
set_option maxHeartbeats 4000000 in
theorem order2_ok {x y z : Nat} {k : Int} (H : CmpI lt fd q G h0) (hs : PS q n j G h0 h l) (hx : x < n) (hy : y < n) (hn : n < 100000) (hz : CtZ q z k h0 h) (hk : k < 1000) :
    Runs Try.prog T0 (.fn fn_zwcQ) [.slice (some ⟨q, 0, sp⟩) n cap, .int .i64 x, .int .i64 y, .pointer (some ⟨z, 0, none⟩), .func (.func fd) ⟨[]⟩ ⟨[]⟩] h
      (fun r h' => ∃ (x' y' : Nat) (k' : Int), r = .tuple ⟨[.int .i64 x', .int .i64 y']⟩ ∧ (x' = x ∧ y' = y ∨ x' = y ∧ y' = x) ∧ PS q n j G h0 h' l ∧ CtZ q z k' h0 h' ∧ k' ≤ k + 1) (fun _ _ => False) := by
  have hnq := hz.nq
  have h0z := hz.nz
  have hk0 := hz.k0
  refine zwcQ_runs ?_
  obtain ⟨i0, i1, i2, _, _⟩ := hs.ov hx hy
  refine stp ?_
  refine D.callX (H.run hs.fr (hs.gd _ (at_mem (i := y) (by rw [hs.ln]; exact hy))) (hs.gd _ (at_mem (i := x) (by rw [hs.ln]; exact hx)))) (fun r g hr => rfl) (fun r g hr => ?_) (fun _ _ hx => hx.elim)
  obtain ⟨⟨c, rfl, hc⟩, f2⟩ := hr
  have hs2 := hs.keep f2
  have hz2 := hz.keep (f2.mono fun _ _ e => e.elim)
  haveI : HGet g z _ := ⟨hz2.get⟩
  refine stp ?_
  refine C.if (fun h1 => ?_) (fun h1 => ?_)
  · refine stp ?_
    have fS : Fr (fun i => i = z) g (g.set z (.cells [.int .i64 (k + 1)] 0)) := Fr.refl.set fun _ => rfl
    exact ⟨y, x, k + 1, rfl, .inr ⟨rfl, rfl⟩, hs2.keepZ fS hnq h0z, ⟨hnq, h0z, fS.lt hz2.lt, by rw [Heap.get_set, if_pos rfl], by omega⟩, by omega⟩
  · refine stp ?_
    exact ⟨x, y, k, rfl, .inl ⟨rfl, rfl⟩, hs2, hz2, by omega⟩
set_option maxHeartbeats 4000000 in
theorem median_ok {x y w z : Nat} {k : Int} (H : CmpI lt fd q G h0) (hs : PS q n j G h0 h l) (hx : x < n) (hy : y < n) (hw : w < n) (hn : n < 100000) (hz : CtZ q z k h0 h) (hk : k < 900) :
    Runs Try.prog T0 (.fn fn_zucQ) [.slice (some ⟨q, 0, sp⟩) n cap, .int .i64 x, .int .i64 y, .int .i64 w, .pointer (some ⟨z, 0, none⟩), .func (.func fd) ⟨[]⟩ ⟨[]⟩] h
      (fun r h' => ∃ (c : Nat) (k' : Int), r = .int .i64 c ∧ (c = x ∨ c = y ∨ c = w) ∧ PS q n j G h0 h' l ∧ CtZ q z k' h0 h' ∧ k' ≤ k + 3) (fun _ _ => False) := by
  refine zucQ_runs ?_
  refine stp ?_
  refine O.call' (order2_ok H hs hx hy hn hz (by omega)) (fun r h1 hr => ?_)
  obtain ⟨x1, y1, k1, rfl, e1, hs1, hz1, q1⟩ := hr
  refine stp ?_
  refine O.call' (order2_ok H hs1 (x := y1) (y := w) (by omega) hw hn hz1 (by omega)) (fun r h2 hr => ?_)
  obtain ⟨y2, w2, k2, rfl, e2, hs2, hz2, q2⟩ := hr
  refine stp ?_
  refine O.call' (order2_ok H hs2 (x := x1) (y := y2) (by omega) (by omega) hn hz2 (by omega)) (fun r h3 hr => ?_)
  obtain ⟨x3, y3, k3, rfl, e3, hs3, hz3, q3⟩ := hr
  refine stp ?_
  exact ⟨y3, k3, rfl, by omega, hs3, hz3, by omega⟩
theorem medianA_ok {x z : Nat} {k : Int} (H : CmpI lt fd q G h0) (hs : PS q n j G h0 h l) (h1 : 1 ≤ x) (hx : x + 1 < n) (hn : n < 100000) (hz : CtZ q z k h0 h) (hk : k < 900) :
    Runs Try.prog T0 (.fn fn_ztcQ) [.slice (some ⟨q, 0, sp⟩) n cap, .int .i64 x, .pointer (some ⟨z, 0, none⟩), .func (.func fd) ⟨[]⟩ ⟨[]⟩] h
      (fun r h' => ∃ (c : Nat) (k' : Int), r = .int .i64 c ∧ (x - 1 ≤ c ∧ c ≤ x + 1) ∧ PS q n j G h0 h' l ∧ CtZ q z k' h0 h' ∧ k' ≤ k + 3) (fun _ _ => False) := by
  have e1 : (x : Int) - 1 = ((x - 1 : Nat) : Int) := by omega
  have e2 : (x : Int) + 1 = ((x + 1 : Nat) : Int) := by omega
  refine ztcQ_runs ?_
  refine stp ?_
  rw [e1, e2]
  refine O.call' (median_ok H hs (x := x - 1) (y := x) (w := x + 1) (by omega) (by omega) hx hn hz hk) (fun r h1 hr => ?_)
  obtain ⟨c, k', rfl, e, hs1, hz1, q1⟩ := hr
  refine stp ?_
  exact ⟨c, k', rfl, by omega, hs1, hz1, q1⟩
theorem quo_nat (x k : Nat) (hx : x < 1000000) (hk : 0 < k) : IntKind.i64.wrap ((x : Int).tdiv (k : Int)) = ((x / k : Nat) : Int) := by
  have e : (x : Int).tdiv (k : Int) = ((x / k : Nat) : Int) := by
    rw [Int.tdiv_eq_ediv_of_nonneg (by omega)]
    exact (Int.natCast_ediv x k).symm
  rw [e]
  have := Nat.div_le_self x k
  generalize x / k = y at *
  exact (inr_i64 (by omega)).eq
set_option maxHeartbeats 8000000 in
theorem pivot_ok (H : CmpI lt fd q G h0) (hs : PS q n j G h0 h l) (hab : a < b) (hb : b ≤ n) (hn : n < 100000) (hh : h0.n ≤ h.n) :
    Runs Try.prog T0 (.fn fn_zqcQ) [.slice (some ⟨q, 0, sp⟩) n cap, .int .i64 a, .int .i64 b, .func (.func fd) ⟨[]⟩ ⟨[]⟩] h
      (fun r h' => ∃ (c : Nat) (i : Int), r = .tuple ⟨[.int .i64 c, .int .i64 i]⟩ ∧ a ≤ c ∧ c < b ∧ PS q n j G h0 h' l) (fun _ _ => False) := by
  have eb : (b : Int) - (a : Int) = ((b - a : Nat) : Int) := by omega
  have e4 : IntKind.i64.wrap (((b - a : Nat) : Int).tdiv 4) = (((b - a) / 4 : Nat) : Int) := quo_nat (b - a) 4 (by omega) (by omega)
  generalize hd : b - a = d at *
  have m1 : (((d / 4 : Nat) : Int) * 1) = ((d / 4 : Nat) : Int) := by omega
  have m2 : (((d / 4 : Nat) : Int) * 2) = ((d / 4 * 2 : Nat) : Int) := by omega
  have m3 : (((d / 4 : Nat) : Int) * 3) = ((d / 4 * 3 : Nat) : Int) := by omega
  have p1 : (a : Int) + ((d / 4 : Nat) : Int) = ((a + d / 4 : Nat) : Int) := by omega
  have p2 : (a : Int) + ((d / 4 * 2 : Nat) : Int) = ((a + d / 4 * 2 : Nat) : Int) := by omega
  have p3 : (a : Int) + ((d / 4 * 3 : Nat) : Int) = ((a + d / 4 * 3 : Nat) : Int) := by omega
  haveI : InR .i64 (((d / 4 : Nat) : Int) * 1) := inr_i64 (by omega)
  haveI : InR .i64 (((d / 4 : Nat) : Int) * 2) := inr_i64 (by omega)
  haveI : InR .i64 (((d / 4 : Nat) : Int) * 3) := inr_i64 (by omega)
  refine zqcQ_runs ?_
  refine stp ?_
  rw [eb]
  refine stp ?_
  refine O.how (XOp.quoI (by decide)) ?_
  rw [e4]
  refine stp ?_
  rw [m1]
  refine stp ?_
  rw [p1]
  refine O.how (XOp.quoI (by decide)) ?_
  rw [e4]
  refine stp ?_
  rw [m2]
  refine stp ?_
  rw [p2]
  refine O.how (XOp.quoI (by decide)) ?_
  rw [e4]
  refine stp ?_
  rw [m3]
  refine stp ?_
  rw [p3]
  have F1 : Fr (fun _ => False) h (h.push (.cells [.int .i64 0] 0)) := Fr.refl.push
  have hs1 := hs.keep F1
  have hz1 : CtZ q h.n 0 h0 (h.push (.cells [.int .i64 0] 0)) := ⟨by have := hs.lt; omega, hh, by simp, HGet.new.eq, Int.le_refl _⟩
  generalize h.push (.cells [.int .i64 0] 0) = h1 at *
  refine cut1 [0, 0, 0, 0, 0, 0, 0, 0, 0, 0, 0, 0, 1, 2, 1, 0, 0, 0, 0, 0, 0, 0, 0, 0, 0, 0, 0, 0, 0, 0, 0, 0, 0, 0, 0, 1, 1, 1, 1, 1, 1, 1, 1, 1, 1, 1, 1, 1, 1, 1, 1, 1, 1, 1, 1, 0, 0, 0, 0, 0, 0, 0, 0] .normal (fun v hx => ∃ (c : Nat) (k : Int), v = .int .i64 c ∧ a ≤ c ∧ c < b ∧ PS q n j G h0 hx l ∧ CtZ q h.n k h0 hx) ?_ ?_
  · refine C.if (fun h8 => ?_) (fun h8 => ?_)
    · refine stp ?_
      refine C.if (fun h50 => ?_) (fun h50 => ?_)
      · refine stp ?_
        refine O.call' (medianA_ok H hs1 (x := a + d / 4) (by omega) (by omega) hn hz1 (by omega)) (fun r g1 hr => ?_)
        obtain ⟨c1, k1, rfl, b1, hs2, hz2, q1⟩ := hr
        refine stp ?_
        refine O.call' (medianA_ok H hs2 (x := a + d / 4 * 2) (by omega) (by omega) hn hz2 (by omega)) (fun r g2 hr => ?_)
        obtain ⟨c2, k2, rfl, b2, hs3, hz3, q2⟩ := hr
        refine stp ?_
        refine O.call' (medianA_ok H hs3 (x := a + d / 4 * 3) (by omega) (by omega) hn hz3 (by omega)) (fun r g3 hr => ?_)
        obtain ⟨c3, k3, rfl, b3, hs4, hz4, q3⟩ := hr
        refine stp ?_
        refine O.call' (median_ok H hs4 (x := c1) (y := c2) (w := c3) (by omega) (by omega) (by omega) hn hz4 (by omega)) (fun r g4 hr => ?_)
        obtain ⟨c4, k4, rfl, b4, hs5, hz5, q4⟩ := hr
        refine stp ?_
        exact cutQ1.out 13 ⟨c4, k4, rfl, by omega, by omega, hs5, hz5⟩
      · refine stp ?_
        refine O.call' (median_ok H hs1 (x := a + d / 4) (y := a + d / 4 * 2) (w := a + d / 4 * 3) (by omega) (by omega) (by omega) hn hz1 (by omega)) (fun r g4 hr => ?_)
        obtain ⟨c4, k4, rfl, b4, hs5, hz5, q4⟩ := hr
        refine stp ?_
        exact cutQ1.out 13 ⟨c4, k4, rfl, by omega, by omega, hs5, hz5⟩
    · refine stp ?_
      exact cutQ1.out 13 ⟨a + d / 4 * 2, 0, rfl, by omega, by omega, hs1, hz1⟩
  intro v13 h2 x12 x14 x35 x36 x37 x38 x39 x40 x41 x42 x43 x44 x45 x46 x47 x48 x49 x50 x51 x52 x53 x54 ⟨c, k, e13, c1, c2, hs2, hz2⟩
  subst e13
  haveI : HGet h2 h.n _ := ⟨hz2.get⟩
  refine stp ?_
  refine C.if (fun h5 => ?_) (fun h5 => ?_)
  · refine stp ?_
    exact ⟨c, _, rfl, c1, c2, hs2⟩
  · refine stp ?_
    refine C.if (fun h6 => ?_) (fun h6 => ?_)
    · refine stp ?_
      exact ⟨c, _, rfl, c1, c2, hs2⟩
    · refine stp ?_
      exact ⟨c, _, rfl, c1, c2, hs2⟩
end
end Go.Proofs.Ytoadcfjkkoemdaa.A

namespace Go.Proofs.Ytoadcfjkkoemdaa.A
open Go Go.Vm
set_option maxRecDepth 10000
set_option linter.unusedVariables false
section
variable {lt : Nat → Nat → Bool} {fd : FuncId} {q n a b cap : Nat} {sp : Option Nat} {j : List Value} {G : Nat → Prop} {h0 h : Heap} {l m : List Nat}
structure PQS (q n a b : Nat) (j : List Value) (G : Nat → Prop) (lt : Nat → Nat → Bool) (h0 : Heap) (l : List Nat) (x y : Nat) (h : Heap) (u : List Nat) : Prop where
  ps : PS q n j G h0 h u
  sw : Sw a b l u
  pi : PI lt a b x y u
theorem xleq1 {P : Program} {ts : List Value} {h : Heap} {x y : Operand} {p q : Int} {O : Oper} (hp : p ≤ q) [e1 : Ev ts x (.int .i64 p)] [e2 : Ev ts y (.int .i64 q)] : XOp P ts h (.bin .leq O x y) (.bool true) h := by
  have := (XOp.leqI : XOp P ts h (.bin .leq O x y) (.bool (decide (p ≤ q))) h)
  rw [decide_eq_true hp] at this
  exact this
theorem xleq0 {P : Program} {ts : List Value} {h : Heap} {x y : Operand} {p q : Int} {O : Oper} (hp : ¬ p ≤ q) [e1 : Ev ts x (.int .i64 p)] [e2 : Ev ts y (.int .i64 q)] : XOp P ts h (.bin .leq O x y) (.bool false) h := by
  have := (XOp.leqI : XOp P ts h (.bin .leq O x y) (.bool (decide (p ≤ q))) h)
  rw [decide_eq_false hp] at this
  exact this
set_option maxHeartbeats 16000000 in
theorem partition_ok {p : Nat} (H : CmpI lt fd q G h0) (hs : PS q n j G h0 h l) (hap : a ≤ p) (hpb : p < b) (hb : b ≤ n) (hn : n < 100000) :
    Runs Try.prog T0 (.fn fn_zycQ) [.slice (some ⟨q, 0, sp⟩) n cap, .int .i64 a, .int .i64 b, .int .i64 p, .func (.func fd) ⟨[]⟩ ⟨[]⟩] h
      (fun r h' => ∃ (m : List Nat) (c : Nat) (is : Bool), r = .tuple ⟨[.int .i64 c, .bool is]⟩ ∧ PS q n j G h0 h' m ∧ Sw a b l m ∧ Part lt a b c m) (fun _ _ => False) := by
  have eb : (b : Int) - 1 = ((b - 1 : Nat) : Int) := by omega
  refine zycQ_runs ?_
  obtain ⟨i0, i1, i2, i3, i4⟩ := hs.ov (x := a) (y := p) (by omega) (by omega)
  have hs1 := hs.swp (x := a) (y := p) (by omega) (by omega)
  refine stp ?_
  refine D.one0 StabL.ok ?_
  refine stp ?_
  rw [eb]
  have st : PQS q n a b j G lt h0 l (a + 1) (b - 1) _ _ := ⟨hs1, .swp .refl (by omega) (by omega) (by omega) (by omega), PI.start (by omega)⟩
  generalize h.set q (.cells (pcells (Go.Proofs.Ytoadcfjkkoemdaa.A.swp l a p) ++ j) 1) = h1 at *
  generalize Go.Proofs.Ytoadcfjkkoemdaa.A.swp l a p = l1 at *
  refine cut1 zycQ_l0_M (.exit 0) (fun v hx => ∃ x : Nat, v = .int .i64 x ∧ PQS q n a b j G lt h0 l x (b - 1) hx l1 ∧ (x ≤ b - 1 → lt (at' l1 x) (at' l1 a) = false)) ?_ ?_
  · refine loop1 zycQ_l0_M 12 (fun k v12 hx => ∃ x : Nat, v12 = .int .i64 x ∧ k = b - x ∧ PQS q n a b j G lt h0 l x (b - 1) hx l1) ?_ (b - (a + 1)) ⟨a + 1, rfl, rfl, st⟩
    clear st hs1
    rintro m v12 h' x32 x33 x34 x35 x36 x37 x38 x39 x40 x41 x42 x43 x44 x45 x46 x47 x48 x49 ⟨x, rfl, rfl, st⟩
    have hp := st.pi
    have hp0 := hp.i0
    have hp1 := hp.ij
    rcases Nat.lt_or_ge (b - 1) x with hxy | hxy
    · haveI g1 : ∀ {ts : List Value} {h : Heap} {O : Oper} {y z : Operand} [Ev ts y (.int .i64 (x : Nat))] [Ev ts z (.int .i64 ((b - 1 : Nat) : Int))], XOp Try.prog ts h (.bin .leq O y z) (.bool false) h := xleq0 (by omega)
      refine stp ?_
      exact cutQ1.out 12 ⟨x, rfl, st, fun e => by omega⟩
    · haveI g1 : ∀ {ts : List Value} {h : Heap} {O : Oper} {y z : Operand} [Ev ts y (.int .i64 (x : Nat))] [Ev ts z (.int .i64 ((b - 1 : Nat) : Int))], XOp Try.prog ts h (.bin .leq O y z) (.bool true) h := xleq1 (by omega)
      obtain ⟨i0, i1, i2, _, _⟩ := st.ps.ov (x := x) (y := a) (by omega) (by omega)
      refine stp ?_
      refine D.howT (XOp.mkIndexSl (by omega)) rfl ?_
      refine stp ?_
      refine D.howT (XOp.mkIndexSl (by omega)) rfl ?_
      refine stp ?_
      refine D.callT (st.ps.cmp H (x := x) (y := a) (by omega) (by omega)) (fun r g hr => rfl) (fun r g hr => ?_)
      obtain ⟨⟨c, rfl, hc⟩, hs2⟩ := hr
      refine stp ?_
      refine C.if (fun h1 => ?_) (fun h1 => ?_)
      · refine stp ?_
        exact loop1a 12 (b - (x + 1)) (by omega) ⟨x + 1, rfl, rfl, hs2, st.sw, hp.left hxy (hc.1 h1)⟩
      · refine stp ?_
        exact cutQ1.out 12 ⟨x, rfl, ⟨hs2, st.sw, hp⟩, fun _ => not_true hc h1⟩
  intro v12 h2 x32 x33 x34 x35 x36 x37 x38 x39 x40 x41 x42 x43 x44 x45 x46 x47 x48 x49 ⟨x, e12, st1, hx1⟩
  subst e12
  clear st hs1
  refine stp ?_
  refine cut1 zycQ_l1_M (.exit 2) (fun v hx => ∃ y : Nat, v = .int .i64 y ∧ PQS q n a b j G lt h0 l x y hx l1 ∧ (x ≤ y → lt (at' l1 y) (at' l1 a) = true)) ?_ ?_
  · refine loop1 zycQ_l1_M 13 (fun k v13 hx => ∃ y : Nat, v13 = .int .i64 y ∧ k = y ∧ PQS q n a b j G lt h0 l x y hx l1) ?_ (b - 1) ⟨b - 1, rfl, rfl, st1⟩
    clear st1
    rintro m v13 h' x50 x51 x52 x53 x54 x55 x56 x57 x58 x59 x60 x61 x62 x63 x64 x65 x66 x67 x68 ⟨y, rfl, rfl, st⟩
    have hp := st.pi
    have hp0 := hp.i0
    have hp1 := hp.j0
    rcases Nat.lt_or_ge m x with hxy | hxy
    · haveI g1 : ∀ {ts : List Value} {h : Heap} {O : Oper} {y z : Operand} [Ev ts y (.int .i64 (x : Nat))] [Ev ts z (.int .i64 (m : Nat))], XOp Try.prog ts h (.bin .leq O y z) (.bool false) h := xleq0 (by omega)
      refine stp ?_
      exact cutQ1.out 13 ⟨m, rfl, st, fun e => by omega⟩
    · haveI g1 : ∀ {ts : List Value} {h : Heap} {O : Oper} {y z : Operand} [Ev ts y (.int .i64 (x : Nat))] [Ev ts z (.int .i64 (m : Nat))], XOp Try.prog ts h (.bin .leq O y z) (.bool true) h := xleq1 (by omega)
      obtain ⟨i0, i1, i2, _, _⟩ := st.ps.ov (x := m) (y := a) (by omega) (by omega)
      refine stp ?_
      refine D.howT (XOp.mkIndexSl (by omega)) rfl ?_
      refine stp ?_
      refine D.howT (XOp.mkIndexSl (by omega)) rfl ?_
      refine stp ?_
      refine D.callT (st.ps.cmp H (x := m) (y := a) (by omega) (by omega)) (fun r g hr => rfl) (fun r g hr => ?_)
      obtain ⟨⟨c, rfl, hc⟩, hs2⟩ := hr
      refine stp ?_
      refine C.ifN (fun h1 => ?_) (fun h1 => ?_)
      · refine stp ?_
        exact loop1a 13 (m - 1) (by omega) ⟨m - 1, by congr 1; omega, rfl, hs2, st.sw, hp.right hxy (not_true hc h1)⟩
      · refine stp ?_
        exact cutQ1.out 13 ⟨m, rfl, ⟨hs2, st.sw, hp⟩, fun _ => hc.1 h1⟩
  intro v13 h3 x50 x51 x52 x53 x54 x55 x56 x57 x58 x59 x60 x61 x62 x63 x64 x65 x66 x67 x68 ⟨y, e13, st2, hy1⟩
  subst e13
  clear st1
  have hpy := st2.pi
  have hpy0 := hpy.i0
  have hpy1 := hpy.j0
  have hpy2 := hpy.ij
  have hl1 := st2.ps.ln
  refine stp ?_
  refine C.if (fun hgt => ?_) (fun hle => ?_)
  · obtain ⟨i0, i1, i2, i3, i4⟩ := st2.ps.ov (x := y) (y := a) (by omega) (by omega)
    have hs3 := st2.ps.swp (x := y) (y := a) (by omega) (by omega)
    refine stp ?_
    refine D.one0 StabL.ok ?_
    refine stp ?_
    exact ⟨_, y, _, rfl, hs3, .swp st2.sw (by omega) (by omega) (by omega) (by omega), hpy.done (by omega) (by omega)⟩
  refine stp ?_
  obtain ⟨hch, hxy⟩ := hpy.change (by omega) (by omega) (hx1 (by omega)) (hy1 (by omega))
  obtain ⟨i0, i1, i2, i3, i4⟩ := st2.ps.ov (x := x) (y := y) (by omega) (by omega)
  have st3 : PQS q n a b j G lt h0 l (x + 1) (y - 1) _ _ := ⟨st2.ps.swp (x := x) (y := y) (by omega) (by omega), .swp st2.sw (by omega) (by omega) (by omega) (by omega), hch⟩
  refine stp ?_
  refine D.one0 StabL.ok ?_
  refine stp ?_
  rw [show (y : Int) - 1 = ((y - 1 : Nat) : Int) from by omega]
  rw [show (x : Int) + 1 = ((x + 1 : Nat) : Int) from rfl]
  refine loop2 zycQ_l4_M 12 13 (fun k v12 v13 hx => ∃ (x y : Nat) (u : List Nat), v12 = .int .i64 x ∧ v13 = .int .i64 y ∧ k = y + 1 - x ∧ PQS q n a b j G lt h0 l x y hx u) ?_ (y - 1 + 1 - (x + 1)) ⟨x + 1, y - 1, _, rfl, rfl, rfl, st3⟩
  clear st3 hch hxy hpy hpy0 hpy1 hpy2 st2 hle hl1 hx1 hy1
  rintro m v12 v13 h' x105 x106 x107 x108 x109 x110 x111 x112 x113 x114 x115 x116 x117 x118 x119 x120 x121 x122 x123 x124 x125 x126 x127 x128 x129 x130 x131 x132 x133 x134 x135 x136 x137 x138 x139 x140 x141 x142 x143 x144 x145 x146 x147 x148 x149 x150 x151 x152 x153 x154 x155 x156 x157 x158 x159 x160 x161 x162 ⟨x, y, u, rfl, rfl, rfl, st⟩
  refine stp ?_
  refine cut1 zycQ_l2_M (.exit 6) (fun v hx => ∃ x' : Nat, v = .int .i64 x' ∧ x ≤ x' ∧ PQS q n a b j G lt h0 l x' y hx u ∧ (x' ≤ y → lt (at' u x') (at' u a) = false)) ?_ ?_
  · refine loop1 zycQ_l2_M 12 (fun k v12 hx => ∃ x' : Nat, v12 = .int .i64 x' ∧ k = b - x' ∧ x ≤ x' ∧ PQS q n a b j G lt h0 l x' y hx u) ?_ (b - x) ⟨x, rfl, rfl, Nat.le_refl _, st⟩
    clear st
    rintro m v12 h' x105 x106 x107 x108 x109 x110 x111 x112 x113 x114 x115 x116 x117 x118 x119 x120 x121 x122 ⟨x', rfl, rfl, hxx, st⟩
    have hp := st.pi
    have hp0 := hp.i0
    have hp1 := hp.ij
    have hp2 := hp.j0
    rcases Nat.lt_or_ge y x' with hxy | hxy
    · haveI g1 : ∀ {ts : List Value} {h : Heap} {O : Oper} {u z : Operand} [Ev ts u (.int .i64 (x' : Nat))] [Ev ts z (.int .i64 (y : Nat))], XOp Try.prog ts h (.bin .leq O u z) (.bool false) h := xleq0 (by omega)
      refine stp ?_
      exact cutQ1.out 12 ⟨x', rfl, hxx, st, fun e => by omega⟩
    · haveI g1 : ∀ {ts : List Value} {h : Heap} {O : Oper} {u z : Operand} [Ev ts u (.int .i64 (x' : Nat))] [Ev ts z (.int .i64 (y : Nat))], XOp Try.prog ts h (.bin .leq O u z) (.bool true) h := xleq1 (by omega)
      obtain ⟨i0, i1, i2, _, _⟩ := st.ps.ov (x := x') (y := a) (by omega) (by omega)
      refine stp ?_
      refine D.howT (XOp.mkIndexSl (by omega)) rfl ?_
      refine stp ?_
      refine D.howT (XOp.mkIndexSl (by omega)) rfl ?_
      refine stp ?_
      refine D.callT (st.ps.cmp H (x := x') (y := a) (by omega) (by omega)) (fun r g hr => rfl) (fun r g hr => ?_)
      obtain ⟨⟨c, rfl, hc⟩, hs2⟩ := hr
      refine stp ?_
      refine C.if (fun h1 => ?_) (fun h1 => ?_)
      · refine stp ?_
        exact loop1a 12 (b - (x' + 1)) (by omega) ⟨x' + 1, rfl, rfl, by omega, hs2, st.sw, hp.left hxy (hc.1 h1)⟩
      · refine stp ?_
        exact cutQ1.out 12 ⟨x', rfl, hxx, ⟨hs2, st.sw, hp⟩, fun _ => not_true hc h1⟩
  intro v12 h4 x105 x106 x107 x108 x109 x110 x111 x112 x113 x114 x115 x116 x117 x118 x119 x120 x121 x122 ⟨x', e12, hxx, st1, hx1⟩
  subst e12
  clear st
  refine stp ?_
  refine cut1 zycQ_l3_M (.exit 8) (fun v hx => ∃ y' : Nat, v = .int .i64 y' ∧ y' ≤ y ∧ PQS q n a b j G lt h0 l x' y' hx u ∧ (x' ≤ y' → lt (at' u y') (at' u a) = true)) ?_ ?_
  · refine loop1 zycQ_l3_M 13 (fun k v13 hx => ∃ y' : Nat, v13 = .int .i64 y' ∧ k = y' ∧ y' ≤ y ∧ PQS q n a b j G lt h0 l x' y' hx u) ?_ y ⟨y, rfl, rfl, Nat.le_refl _, st1⟩
    clear st1
    rintro m v13 h' x123 x124 x125 x126 x127 x128 x129 x130 x131 x132 x133 x134 x135 x136 x137 x138 x139 x140 x141 ⟨y', rfl, rfl, hyy, st⟩
    have hp := st.pi
    have hp0 := hp.i0
    have hp1 := hp.j0
    rcases Nat.lt_or_ge m x' with hxy | hxy
    · haveI g1 : ∀ {ts : List Value} {h : Heap} {O : Oper} {u z : Operand} [Ev ts u (.int .i64 (x' : Nat))] [Ev ts z (.int .i64 (m : Nat))], XOp Try.prog ts h (.bin .leq O u z) (.bool false) h := xleq0 (by omega)
      refine stp ?_
      exact cutQ1.out 13 ⟨m, rfl, hyy, st, fun e => by omega⟩
    · haveI g1 : ∀ {ts : List Value} {h : Heap} {O : Oper} {u z : Operand} [Ev ts u (.int .i64 (x' : Nat))] [Ev ts z (.int .i64 (m : Nat))], XOp Try.prog ts h (.bin .leq O u z) (.bool true) h := xleq1 (by omega)
      obtain ⟨i0, i1, i2, _, _⟩ := st.ps.ov (x := m) (y := a) (by omega) (by omega)
      refine stp ?_
      refine D.howT (XOp.mkIndexSl (by omega)) rfl ?_
      refine stp ?_
      refine D.howT (XOp.mkIndexSl (by omega)) rfl ?_
      refine stp ?_
      refine D.callT (st.ps.cmp H (x := m) (y := a) (by omega) (by omega)) (fun r g hr => rfl) (fun r g hr => ?_)
      obtain ⟨⟨c, rfl, hc⟩, hs2⟩ := hr
      refine stp ?_
      refine C.ifN (fun h1 => ?_) (fun h1 => ?_)
      · refine stp ?_
        exact loop1a 13 (m - 1) (by omega) ⟨m - 1, by congr 1; omega, rfl, by omega, hs2, st.sw, hp.right hxy (not_true hc h1)⟩
      · refine stp ?_
        exact cutQ1.out 13 ⟨m, rfl, hyy, ⟨hs2, st.sw, hp⟩, fun _ => hc.1 h1⟩
  intro v13 h5 x123 x124 x125 x126 x127 x128 x129 x130 x131 x132 x133 x134 x135 x136 x137 x138 x139 x140 x141 ⟨y', e13, hyy, st2, hy1⟩
  subst e13
  clear st1
  have hpy := st2.pi
  have hpy0 := hpy.i0
  have hpy1 := hpy.j0
  have hpy2 := hpy.ij
  have hl1 := st2.ps.ln
  refine stp ?_
  refine C.if (fun hgt => ?_) (fun hle => ?_)
  · obtain ⟨i0, i1, i2, i3, i4⟩ := st2.ps.ov (x := y') (y := a) (by omega) (by omega)
    have hs3 := st2.ps.swp (x := y') (y := a) (by omega) (by omega)
    refine stp ?_
    refine D.one0 StabL.ok ?_
    refine stp ?_
    exact ⟨_, y', _, rfl, hs3, .swp st2.sw (by omega) (by omega) (by omega) (by omega), hpy.done (by omega) (by omega)⟩
  · obtain ⟨hch, hxy⟩ := hpy.change (by omega) (by omega) (hx1 (by omega)) (hy1 (by omega))
    obtain ⟨i0, i1, i2, i3, i4⟩ := st2.ps.ov (x := x') (y := y') (by omega) (by omega)
    have st3 : PQS q n a b j G lt h0 l (x' + 1) (y' - 1) _ _ := ⟨st2.ps.swp (x := x') (y := y') (by omega) (by omega), .swp st2.sw (by omega) (by omega) (by omega) (by omega), hch⟩
    refine stp ?_
    refine D.one0 StabL.ok ?_
    refine stp ?_
    rw [show (y' : Int) - 1 = ((y' - 1 : Nat) : Int) from by omega, show (x' : Int) + 1 = ((x' + 1 : Nat) : Int) from rfl]
    exact loop2a 12 13 (y' - 1 + 1 - (x' + 1)) (by omega) ⟨x' + 1, y' - 1, _, rfl, rfl, rfl, st3⟩
end
end Go.Proofs.Ytoadcfjkkoemdaa.A

namespace Go.Proofs.Ytoadcfjkkoemdaa.A
open Go Go.Vm
set_option maxRecDepth 10000
set_option linter.unusedVariables false
section
variable {lt : Nat → Nat → Bool} {fd : FuncId} {q n a b cap : Nat} {sp : Option Nat} {j : List Value} {G : Nat → Prop} {h0 h : Heap} {l m : List Nat}
theorem Srt.holeS {i : Nat} (h : Srt lt a i l) (hi : a < i) (hl : i < l.length) : Hole lt a i (i - 1) (swp l i (i - 1)) := fun p q h1 h2 h3 h4 => by
  rw [swp_at hl (by omega), swp_at hl (by omega), if_neg h4, if_neg (by omega), if_neg (by omega), if_neg (by omega)]
  exact h p q h1 h2 h3
set_option maxHeartbeats 16000000 in
theorem partial_ok (H : CmpI lt fd q G h0) (oo : Ord lt) (hs : PS q n j G h0 h l) (hab : a < b) (hb : b ≤ n) (hn : n < 100000) (hlow : LowP lt a b l) :
    Runs Try.prog T0 (.fn fn_zxcQ) [.slice (some ⟨q, 0, sp⟩) n cap, .int .i64 a, .int .i64 b, .func (.func fd) ⟨[]⟩ ⟨[]⟩] h
      (fun r h' => ∃ (m : List Nat) (is : Bool), r = .bool is ∧ PS q n j G h0 h' m ∧ Sw a b l m ∧ (is = true → Srt lt a b m)) (fun _ _ => False) := by
  have hl0 := hs.ln
  refine zxcQ_runs ?_
  refine stp ?_
  rw [show (a : Int) + 1 = ((a + 1 : Nat) : Int) from rfl]
  refine loop2 zxcQ_l3_M 9 10 (fun k v9 v10 hx => ∃ (i s : Nat) (u : List Nat), v9 = .int .i64 i ∧ v10 = .int .i64 s ∧ k = 5 - s ∧ s ≤ 5 ∧ a < i ∧ i ≤ b ∧ PS q n j G h0 hx u ∧ Sw a b l u ∧ Srt lt a i u) ?_ 5 ⟨a + 1, 0, l, rfl, rfl, rfl, by omega, by omega, by omega, hs, .refl, Srt.one⟩
  rintro m v9 v10 h' x8 x11 x12 x15 x16 x17 x18 x19 x20 x21 x22 x23 x24 x25 x26 x27 x28 x29 x30 x31 x32 x33 x34 x35 x36 x37 x38 x39 x40 x41 x42 x43 x44 x45 x46 x47 x48 x49 x50 x51 x52 x53 x54 x55 x56 x57 x58 x59 x60 x61 x62 x63 x64 x65 x66 x67 x68 x69 x70 x71 x72 x73 x74 x75 x76 x77 x78 x79 x80 x81 x82 x83 x84 x85 x86 x87 x88 x89 x90 x91 x92 x93 x94 x95 x96 x97 x98 x99 x100 x101 x102 x103 x104 x105 x106 x107 x108 x109 x110 x111 x112 x113 x114 x115 x116 x117 x118 x119 x120 x121 x122 x123 x124 x125 x126 x127 x128 x129 x130 x131 x132 x133 x134 x135 x136 x137 x138 x139 x140 ⟨i, s, u, rfl, rfl, rfl, hs5, hai, hib, hs1, hw, hso⟩
  refine stp ?_
  refine C.if (fun hlt => ?_) (fun hge => ?_)
  case refine_2 =>
    refine stp ?_
    exact ⟨u, false, rfl, hs1, hw, fun e => by cases e⟩
  refine stp ?_
  refine cut1 zxcQ_l0_M (.exit 2) (fun v hx => ∃ i' : Nat, v = .int .i64 i' ∧ a < i' ∧ i' ≤ b ∧ PS q n j G h0 hx u ∧ Srt lt a i' u ∧ (i' < b → lt (at' u i') (at' u (i' - 1)) = true)) ?_ ?_
  · refine loop1 zxcQ_l0_M 9 (fun k v9 hx => ∃ i' : Nat, v9 = .int .i64 i' ∧ k = b - i' ∧ a < i' ∧ i' ≤ b ∧ PS q n j G h0 hx u ∧ Srt lt a i' u) ?_ (b - i) ⟨i, rfl, rfl, hai, hib, hs1, hso⟩
    clear hs1 hso
    rintro m v9 h' x19 x20 x21 x22 x23 x24 x25 x26 x27 x28 x29 x30 x31 x32 x33 x34 x35 x36 x37 x38 ⟨x, rfl, rfl, hax, hxb, hs1, hso⟩
    rcases Nat.lt_or_ge x b with hxy | hxy
    · haveI g1 : ∀ {ts : List Value} {h : Heap} {O : Oper} {y z : Operand} [Ev ts y (.int .i64 (x : Nat))] [Ev ts z (.int .i64 (b : Nat))], XOp Try.prog ts h (.bin .lss O y z) (.bool true) h := xlss1 (by omega)
      haveI : IdxOff 0 ((x : Int) - 1) 1 (x - 1) := ⟨by omega⟩
      haveI : InR .i64 ((x : Int) - 1) := inr_i64 (by omega)
      obtain ⟨i0, i1, i2, _, _⟩ := hs1.ov (x := x) (y := x - 1) (by omega) (by omega)
      refine stp ?_
      refine D.howT (XOp.mkIndexSl (by omega)) rfl ?_
      refine stp ?_
      refine D.howT (XOp.mkIndexSl (by omega)) rfl ?_
      refine stp ?_
      refine D.callT (hs1.cmp H (x := x) (y := x - 1) (by omega) (by omega)) (fun r g hr => rfl) (fun r g hr => ?_)
      obtain ⟨⟨c, rfl, hc⟩, hs2⟩ := hr
      refine stp ?_
      refine C.ifN (fun h1 => ?_) (fun h1 => ?_)
      · refine stp ?_
        exact loop1a 9 (b - (x + 1)) (by omega) ⟨x + 1, rfl, rfl, by omega, by omega, hs2, hso.ext oo hax (not_true hc h1)⟩
      · refine stp ?_
        exact cutQ1.out 9 ⟨x, rfl, hax, hxb, hs2, hso, fun _ => hc.1 h1⟩
    · haveI g1 : ∀ {ts : List Value} {h : Heap} {O : Oper} {y z : Operand} [Ev ts y (.int .i64 (x : Nat))] [Ev ts z (.int .i64 (b : Nat))], XOp Try.prog ts h (.bin .lss O y z) (.bool false) h := xlss0 (by omega)
      refine stp ?_
      exact cutQ1.out 9 ⟨x, rfl, hax, hxb, hs1, hso, fun e => by omega⟩
  intro v9 h2 x19 x20 x21 x22 x23 x24 x25 x26 x27 x28 x29 x30 x31 x32 x33 x34 x35 x36 x37 x38 ⟨x, e9, hax, hxb, hs2, hso2, hle⟩
  subst e9
  clear hs1 hso
  refine stp ?_
  refine C.if (fun heq => ?_) (fun hne => ?_)
  · refine stp ?_
    obtain rfl : x = b := by omega
    exact ⟨u, true, rfl, hs2, hw, fun _ => hso2⟩
  have hxb' : x < b := by omega
  have hle := hle hxb'
  refine stp ?_
  refine C.if (fun h50 => ?_) (fun h50 => ?_)
  · refine stp ?_
    exact ⟨u, false, rfl, hs2, hw, fun e => by cases e⟩
  haveI o1 : IdxOff 0 ((x : Int) - 1) 1 (x - 1) := ⟨by omega⟩
  haveI r1 : InR .i64 ((x : Int) - 1) := inr_i64 (by omega)
  obtain ⟨i0, i1, i2, i3, i4⟩ := hs2.ov (x := x) (y := x - 1) (by omega) (by omega)
  have hs3 := hs2.swp (x := x) (y := x - 1) (by omega) (by omega)
  have hw3 : Sw a b l _ := .swp hw (i := x) (j := x - 1) (by omega) (by omega) (by omega) (by omega)
  have hho := hso2.holeS hax (by rw [hs2.ln]; omega)
  refine stp ?_
  refine D.one0 StabL.ok ?_
  refine stp ?_
  generalize h2.set q (.cells (pcells (Go.Proofs.Ytoadcfjkkoemdaa.A.swp u x (x - 1)) ++ j) 1) = h3 at *
  generalize Go.Proofs.Ytoadcfjkkoemdaa.A.swp u x (x - 1) = u3 at *
  clear i0 i1 i2 i3 i4 hs2 hso2 hle hw
  refine cut1 [0, 0, 0, 0, 0, 0, 0, 0, 0, 0, 0, 2, 0, 0, 0, 0, 0, 0, 0, 0, 0, 0, 0, 0, 0, 0, 0, 0, 0, 0, 0, 0, 0, 0, 0, 0, 0, 0, 0, 0, 0, 0, 0, 0, 0, 0, 0, 0, 0, 0, 0, 0, 0, 0, 0, 0, 0, 0, 0, 0, 0, 0, 0, 0, 0, 0, 1, 1, 1, 1, 1, 1, 1, 1, 1, 1, 1, 1, 1, 1, 1, 1, 1, 1, 1, 1, 1, 1, 1, 1, 1, 1, 1, 1, 1, 1, 1, 1, 1, 1, 1, 0, 0, 0, 0, 0, 0, 0, 0, 0, 0, 0, 0, 0, 0, 0, 0, 0, 0, 0, 0, 0, 0, 0, 0, 0, 0, 0, 0, 0, 0, 0, 0, 0, 0, 0, 0, 0, 0, 0, 0] .normal (fun v hx => ∃ u : List Nat, PS q n j G h0 hx u ∧ Sw a b l u ∧ Srt lt a x u) ?_ ?_
  · refine C.if (fun h4 => ?_) (fun h4 => ?_)
    · refine stp ?_
      rw [show (x : Int) - 1 = ((x - 1 : Nat) : Int) from by omega]
      refine loop1 zxcQ_l1_M 11 (fun k v11 hx => ∃ (y : Nat) (u : List Nat), v11 = .int .i64 y ∧ k = y ∧ a ≤ y ∧ y < x ∧ PS q n j G h0 hx u ∧ Sw a b l u ∧ Hole lt a x y u) ?_ (x - 1) ⟨x - 1, u3, rfl, rfl, by omega, by omega, hs3, hw3, hho⟩
      clear hs3 hw3 hho
      rintro m v11 h' x68 x69 x70 x71 x72 x73 x74 x75 x76 x77 x78 x79 x80 x81 x82 x83 x84 x85 x86 x87 x88 x89 x90 x91 x92 x93 x94 x95 x96 x97 x98 x99 x100 ⟨y, u, rfl, rfl, hay, hyx, hs, hw, hho⟩
      refine stp ?_
      refine C.if (fun h5 => ?_) (fun h5 => ?_)
      · have hul := hs.ln
        have hlw := hlow.sw hw (by omega)
        haveI : IdxOff 0 ((m : Int) - 1) 1 (m - 1) := ⟨by omega⟩
        haveI : InR .i64 ((m : Int) - 1) := inr_i64 (by omega)
        obtain ⟨i0, i1, i2, _, _⟩ := hs.ov (x := m) (y := m - 1) (by omega) (by omega)
        refine stp ?_
        refine D.callX (hs.cmp H (x := m) (y := m - 1) (by omega) (by omega)) (fun r g hr => rfl) (fun r g hr => ?_) (fun _ _ hx => hx.elim)
        obtain ⟨⟨c, rfl, hc⟩, hs2⟩ := hr
        obtain ⟨i0, i1, i2, i3, i4⟩ := hs2.ov (x := m) (y := m - 1) (by omega) (by omega)
        refine stp ?_
        refine C.ifN (fun h1 => ?_) (fun h1 => ?_)
        · refine stp ?_
          exact cutQ1.out 11 ⟨u, hs2, hw, hho.done oo (.inr (not_true hc h1))⟩
        · have ham : a < m := by
            rcases Nat.lt_or_ge a m with e | e
            · exact e
            · have e : a = m := by omega
              have h7 := hlw (by omega) a (Nat.le_refl _) hab
              have h8 := hc.1 h1
              rw [← e] at h8
              rw [oo.asy _ _ h7] at h8
              cases h8
          refine stp ?_
          refine D.one0 StabL.ok ?_
          refine stp ?_
          exact loop1a 11 (m - 1) (by omega) ⟨m - 1, _, by congr 1; omega, rfl, by omega, by omega, hs2.swp (x := m) (y := m - 1) (by omega) (by omega), .swp hw (by omega) (by omega) (by omega) (by omega), hho.step oo (by omega) ham (by omega) (hc.1 h1)⟩
      · refine stp ?_
        exact cutQ1.out 11 ⟨u, hs, hw, hho.done oo (.inl (by omega))⟩
    · refine stp ?_
      exact cutQ1.out 11 ⟨u3, hs3, hw3, hho.done oo (.inl (by omega))⟩
  intro v11 h4 x66 x67 x68 x69 x70 x71 x72 x73 x74 x75 x76 x77 x78 x79 x80 x81 x82 x83 x84 x85 x86 x87 x88 x89 x90 x91 x92 x93 x94 x95 x96 x97 x98 x99 x100 ⟨u4, hs4, hw4, hso4⟩
  clear hs3 hw3 hho
  refine stp ?_
  refine C.if (fun h5 => ?_) (fun h5 => ?_)
  · refine stp ?_
    rw [show (x : Int) + 1 = ((x + 1 : Nat) : Int) from rfl]
    refine loop1 zxcQ_l2_M 12 (fun k v12 hx => ∃ (y : Nat) (u : List Nat), v12 = .int .i64 y ∧ k = b - y ∧ x < y ∧ y ≤ b ∧ PS q n j G h0 hx u ∧ Sw a b l u ∧ Srt lt a x u) ?_ (b - (x + 1)) ⟨x + 1, u4, rfl, rfl, by omega, by omega, hs4, hw4, hso4⟩
    clear hs4 hw4 hso4
    rintro m v12 h' x107 x108 x109 x110 x111 x112 x113 x114 x115 x116 x117 x118 x119 x120 x121 x122 x123 x124 x125 x126 x127 x128 x129 x130 x131 x132 x133 x134 x135 x136 x137 x138 x139 x140 ⟨y, u, rfl, rfl, hxy, hyb, hs, hw, hso⟩
    refine stp ?_
    refine C.if (fun h5 => ?_) (fun h5 => ?_)
    · have hul := hs.ln
      haveI : IdxOff 0 ((y : Int) - 1) 1 (y - 1) := ⟨by omega⟩
      haveI : InR .i64 ((y : Int) - 1) := inr_i64 (by omega)
      obtain ⟨i0, i1, i2, _, _⟩ := hs.ov (x := y) (y := y - 1) (by omega) (by omega)
      refine stp ?_
      refine D.callX (hs.cmp H (x := y) (y := y - 1) (by omega) (by omega)) (fun r g hr => rfl) (fun r g hr => ?_) (fun _ _ hx => hx.elim)
      obtain ⟨⟨c, rfl, hc⟩, hs2⟩ := hr
      obtain ⟨i0, i1, i2, i3, i4⟩ := hs2.ov (x := y) (y := y - 1) (by omega) (by omega)
      refine stp ?_
      refine C.ifN (fun h1 => ?_) (fun h1 => ?_)
      · refine stp ?_
        exact loop2a 9 10 (5 - (s + 1)) (by omega) ⟨x, s + 1, u, rfl, rfl, rfl, by omega, hax, by omega, hs2, hw, hso⟩
      · refine stp ?_
        refine D.one0 StabL.ok ?_
        refine stp ?_
        exact loop1a 12 (b - (y + 1)) (by omega) ⟨y + 1, _, rfl, rfl, by omega, by omega, hs2.swp (x := y) (y := y - 1) (by omega) (by omega), .swp hw (by omega) (by omega) (by omega) (by omega), hso.sw (x := x) (y := b) (.swp .refl (by omega) (by omega) (by omega) (by omega)) (by omega) (.inl (Nat.le_refl _))⟩
    · refine stp ?_
      exact loop2a 9 10 (5 - (s + 1)) (by omega) ⟨x, s + 1, u, rfl, rfl, rfl, by omega, hax, by omega, hs, hw, hso⟩
  · refine stp ?_
    exact loop2a 9 10 (5 - (s + 1)) (by omega) ⟨x, s + 1, u4, rfl, rfl, rfl, by omega, hax, by omega, hs4, hw4, hso4⟩
end
end Go.Proofs.Ytoadcfjkkoemdaa.A

namespace Go.Proofs.Ytoadcfjkkoemdaa.A
open Go Go.Vm
set_option maxRecDepth 10000
set_option linter.unusedVariables false
abbrev lenT : List UInt8 := [0, 1, 2, 2, 3, 3, 3, 3, 4, 4, 4, 4, 4, 4, 4, 4, 5, 5, 5, 5, 5, 5, 5, 5, 5, 5, 5, 5, 5, 5, 5, 5, 6, 6, 6, 6, 6, 6, 6, 6, 6, 6, 6, 6, 6, 6, 6, 6, 6, 6, 6, 6, 6, 6, 6, 6, 6, 6, 6, 6, 6, 6, 6, 6, 7, 7, 7, 7, 7, 7, 7, 7, 7, 7, 7, 7, 7, 7, 7, 7, 7, 7, 7, 7, 7, 7, 7, 7, 7, 7, 7, 7, 7, 7, 7, 7, 7, 7, 7, 7, 7, 7, 7, 7, 7, 7, 7, 7, 7, 7, 7, 7, 7, 7, 7, 7, 7, 7, 7, 7, 7, 7, 7, 7, 7, 7, 7, 7, 8, 8, 8, 8, 8, 8, 8, 8, 8, 8, 8, 8, 8, 8, 8, 8, 8, 8, 8, 8, 8, 8, 8, 8, 8, 8, 8, 8, 8, 8, 8, 8, 8, 8, 8, 8, 8, 8, 8, 8, 8, 8, 8, 8, 8, 8, 8, 8, 8, 8, 8, 8, 8, 8, 8, 8, 8, 8, 8, 8, 8, 8, 8, 8, 8, 8, 8, 8, 8, 8, 8, 8, 8, 8, 8, 8, 8, 8, 8, 8, 8, 8, 8, 8, 8, 8, 8, 8, 8, 8, 8, 8, 8, 8, 8, 8, 8, 8, 8, 8, 8, 8, 8, 8, 8, 8, 8, 8, 8, 8, 8, 8, 8, 8, 8, 8, 8, 8, 8, 8, 8, 8, 8, 8, 8, 8, 8, 8]
theorem lenT_all : ∀ n : Fin 256, (lenT.getD n.val 0).toNat ≤ 8 ∧ (1 ≤ n.val → n.val < 2 ^ (lenT.getD n.val 0).toNat ∧ 2 ^ (lenT.getD n.val 0).toNat ≤ 2 * n.val) := by decide +kernel
theorem lenT_ok {n : Nat} (hn : n < 256) : (lenT.getD n 0).toNat ≤ 8 ∧ (1 ≤ n → n < 2 ^ (lenT.getD n 0).toNat ∧ 2 ^ (lenT.getD n 0).toNat ≤ 2 * n) := lenT_all ⟨n, hn⟩
theorem bLen64_ok {h : Heap} {n : Nat} (hn : n < 256) : Runs Try.prog T0 (.fn fn_zgcQ) [.int .u64 (n : Nat)] h (fun r h' => r = .int .i64 ((lenT.getD n 0).toNat : Nat) ∧ h' = h) (fun _ _ => False) := by
  have hz := (lenT_ok hn).1
  refine zgcQ_runs ?_
  refine stp ?_
  refine C.if (fun e => absurd e (by omega)) (fun _ => ?_)
  refine stp ?_
  refine C.if (fun e => absurd e (by omega)) (fun _ => ?_)
  refine stp ?_
  refine C.if (fun e => absurd e (by omega)) (fun _ => ?_)
  refine stp ?_
  refine O.how (XOp.mkIndexStr (k := n) (by kernel_rfl) rfl (by show n < 256; exact hn)) ?_
  generalize hzz : (List.getD _ n 0 : UInt8) = z
  rw [show lenT.getD n 0 = z from hzz] at hz
  clear hzz
  refine stp ?_
  exact ⟨by rw [Int.zero_add], rfl⟩
theorem bLen_ok {h : Heap} {n : Nat} (hn : n < 256) : Runs Try.prog T0 (.fn fn_zecQ) [.int .u64 (n : Nat)] h (fun r h' => r = .int .i64 ((lenT.getD n 0).toNat : Nat) ∧ h' = h) (fun _ _ => False) := by
  refine zecQ_runs ?_
  refine stp ?_
  refine O.call' (bLen64_ok hn) (fun r h1 hr => ?_)
  obtain ⟨rfl, rfl⟩ := hr
  refine stp ?_
  exact ⟨rfl, rfl⟩
theorem npow_ok {h : Heap} {n : Nat} (hn : n < 256) : Runs Try.prog T0 (.fn fn_zvcQ) [.int .i64 (n : Nat)] h (fun r h' => r = .int .u64 ((2 ^ (lenT.getD n 0).toNat : Nat) : Int) ∧ h' = h) (fun _ _ => False) := by
  have hz := (lenT_ok hn).1
  refine zvcQ_runs ?_
  refine stp ?_
  refine O.call' (bLen_ok hn) (fun r h1 hr => ?_)
  obtain ⟨rfl, rfl⟩ := hr
  generalize (lenT.getD n 0).toNat = t at *
  refine stp ?_
  refine O.how (XOp.shl (by omega)) ?_
  refine stp ?_
  refine ⟨?_, rfl⟩
  congr 1
  have h9 : t = 0 ∨ t = 1 ∨ t = 2 ∨ t = 3 ∨ t = 4 ∨ t = 5 ∨ t = 6 ∨ t = 7 ∨ t = 8 := by omega
  rcases h9 with rfl | rfl | rfl | rfl | rfl | rfl | rfl | rfl | rfl <;> decide
set_option maxHeartbeats 4000000 in
theorem xnext_ok {h : Heap} {z : Nat} {w : Int} (hz : h.get z = .cells [.int .u64 w] 0) (hl : z < h.n) :
    Runs Try.prog T0 (.fn fn_zddQ) [.pointer (some ⟨z, 0, none⟩)] h (fun r h' => ∃ w' : Int, r = .int .u64 w' ∧ h'.get z = .cells [.int .u64 w'] 0 ∧ Fr (fun i => i = z) h h') (fun _ _ => False) := by
  haveI : HGet h z _ := ⟨hz⟩
  haveI : BLt z h := ⟨hl⟩
  refine zddQ_runs ?_
  refine stp ?_
  refine D.how (XOp.shl (by omega)) rfl ?_
  refine stp ?_
  refine D.how XOp.xorI rfl ?_
  generalize IntKind.u64.wrap _ = w1
  refine stp ?_
  refine D.how (XOp.shr (by omega)) rfl ?_
  refine stp ?_
  refine D.how XOp.xorI rfl ?_
  generalize IntKind.u64.wrap _ = w2
  refine stp ?_
  refine D.how (XOp.shl (by omega)) rfl ?_
  refine stp ?_
  refine D.how XOp.xorI rfl ?_
  generalize IntKind.u64.wrap _ = w3
  refine stp ?_
  exact ⟨_, rfl, by rw [Heap.get_set, if_pos rfl], Fr.refl.set fun _ => rfl⟩
theorem and_lt {w : Int} {M : Nat} (h1 : 1 ≤ M) (h2 : M ≤ 512) : ∃ o : Nat, IntKind.u64.wrap ((BitVec.ofInt IntKind.u64.bits w &&& BitVec.ofInt IntKind.u64.bits ((M : Int) - 1)).toNat : Nat) = (o : Int) ∧ o < M := by
  have e : (M : Int) - 1 = ((M - 1 : Nat) : Int) := by omega
  have hb : (BitVec.ofInt IntKind.u64.bits w &&& BitVec.ofInt IntKind.u64.bits ((M : Int) - 1)).toNat ≤ M - 1 := by
    rw [e, BitVec.toNat_and]
    refine Nat.le_trans Nat.and_le_right ?_
    rw [BitVec.ofInt_natCast, BitVec.toNat_ofNat]
    exact Nat.mod_le _ _
  generalize (BitVec.ofInt IntKind.u64.bits w &&& BitVec.ofInt IntKind.u64.bits ((M : Int) - 1)).toNat = o at *
  refine ⟨o, ?_, by omega⟩
  have : 0 ≤ (o : Int) ∧ (o : Int) ≤ 18446744073709551615 := by omega
  exact (inr_u64 this).eq
section
variable {lt : Nat → Nat → Bool} {fd : FuncId} {q n a b cap : Nat} {sp : Option Nat} {j : List Value} {G : Nat → Prop} {h0 h : Heap} {l m : List Nat}
set_option maxHeartbeats 8000000 in
theorem break_ok (hs : PS q n j G h0 h l) (hab : a + 8 ≤ b) (hb : b ≤ n) (hn : n < 256) (hh : h0.n ≤ h.n) :
    Runs Try.prog T0 (.fn fn_zpcQ) [.slice (some ⟨q, 0, sp⟩) n cap, .int .i64 a, .int .i64 b, .func (.func fd) ⟨[]⟩ ⟨[]⟩] h (fun _ h' => ∃ m, PS q n j G h0 h' m ∧ Sw a b l m) (fun _ _ => False) := by
  have eb : (b : Int) - (a : Int) = ((b - a : Nat) : Int) := by omega
  generalize hd : b - a = d at *
  have e4 : IntKind.i64.wrap ((d : Int).tdiv 4) = ((d / 4 : Nat) : Int) := quo_nat d 4 (by omega) (by omega)
  have m2 : (((d / 4 : Nat) : Int) * 2) = ((d / 4 * 2 : Nat) : Int) := by omega
  have p2 : (a : Int) + ((d / 4 * 2 : Nat) : Int) - 1 = ((a + d / 4 * 2 - 1 : Nat) : Int) := by omega
  haveI i2 : InR .i64 (((d / 4 : Nat) : Int) * 2) := inr_i64 (by omega)
  obtain ⟨hM1, hM2⟩ := (lenT_ok (n := d) (by omega)).2 (by omega)
  have hnp := fun {h : Heap} => npow_ok (h := h) (n := d) (by omega)
  generalize 2 ^ (lenT.getD d 0).toNat = M at *
  have hql := hs.lt
  have eM : IntKind.u64.wrap ((M : Int) - 1) = (M : Int) - 1 := (inr_u64 (by omega)).eq
  refine zpcQ_runs ?_
  refine stp ?_
  rw [eb]
  refine stp ?_
  refine C.if (fun _ => ?_) (fun e => absurd (show (8 : Int) ≤ (d : Int) by omega) e)
  refine stp ?_
  have F1 : Fr (fun _ => False) h (h.push (.cells [.int .u64 d] 0)) := Fr.refl.push
  have gz : (h.push (.cells [.int .u64 d] 0)).get h.n = .cells [.int .u64 d] 0 := HGet.new.eq
  have nz : (h.push (.cells [.int .u64 d] 0)).n = h.n + 1 := rfl
  have hs1 := hs.keep F1
  generalize h.push (.cells [.int .u64 d] 0) = h1 at *
  refine O.call' hnp (fun r h1 hr => ?_)
  obtain ⟨rfl, rfl⟩ := hr
  refine stp ?_
  refine O.how (XOp.quoI (by decide)) ?_
  rw [e4]
  refine stp ?_
  rw [m2, p2]
  refine loop1 zpcQ_l0_M 11 (fun k v11 hx => ∃ (i : Nat) (w : Int) (u : List Nat), v11 = .int .i64 i ∧ k = a + d / 4 * 2 + 2 - i ∧ a + d / 4 * 2 - 1 ≤ i ∧ hx.get h.n = .cells [.int .u64 w] 0 ∧ h.n < hx.n ∧ PS q n j G h0 hx u ∧ Sw a b l u) ?_ _ ⟨_, _, l, rfl, rfl, Nat.le_refl _, gz, by omega, hs1, .refl⟩
  clear gz nz hs1 F1
  rintro m v11 h' x12 x28 x29 x30 x31 x32 x33 x34 x35 x36 x37 x38 x39 x40 x41 x42 x43 x44 x45 x46 x47 x48 x49 x50 x51 x52 x53 x54 x55 x56 x57 x58 x59 x60 x61 x62 x63 x64 x65 x66 ⟨i, w, u, rfl, rfl, hi, gz, nz, hs1, hw⟩
  refine stp ?_
  refine O.how (XOp.quoI (by decide)) ?_
  rw [e4]
  refine stp ?_
  rw [m2]
  refine stp ?_
  refine C.if (fun hle => ?_) (fun hgt => ?_)
  case refine_2 =>
    refine stp ?_
    exact ⟨u, hs1, hw⟩
  refine stp ?_
  refine O.call' (xnext_ok gz nz) (fun r h2 hr => ?_)
  obtain ⟨w', rfl, gz2, f2⟩ := hr
  have hs2 := hs1.keepZ f2 (by omega) hh
  have nz2 := f2.lt nz
  have hul := hs2.ln
  refine stp ?_
  rw [eM]
  refine O.how XOp.andI ?_
  obtain ⟨o, eo, ho⟩ := and_lt (w := w') (M := M) (by omega) (by omega)
  rw [eo]
  refine stp ?_
  refine cut1 [0, 0, 0, 0, 0, 0, 0, 0, 0, 0, 0, 0, 2, 0, 0, 0, 0, 0, 0, 0, 0, 0, 0, 0, 0, 0, 0, 0, 0, 0, 0, 0, 0, 0, 0, 0, 0, 0, 0, 0, 0, 0, 0, 0, 0, 0, 1, 1, 1, 0, 0, 0, 0, 0, 0, 0, 0, 0, 0, 0, 0, 0, 0, 0, 0, 0, 0] .normal (fun v hx => hx = h2 ∧ ∃ o' : Nat, v = .int .i64 o' ∧ o' < d) ?_ ?_
  · refine C.if (fun h5 => ?_) (fun h5 => ?_)
    · refine stp ?_
      rw [show (o : Int) - (d : Int) = ((o - d : Nat) : Int) from by omega]
      exact cutQ1.out 12 ⟨rfl, o - d, rfl, by omega⟩
    · refine stp ?_
      exact cutQ1.out 12 ⟨rfl, o, rfl, by omega⟩
  intro v12 h3 x46 x47 x48 ⟨e3, o', e12, ho'⟩
  subst e12
  rw [e3]
  clear e3 h3
  haveI o0 : IdxOff 0 ((a : Int) + (o' : Int)) 1 (a + o') := ⟨by omega⟩
  haveI r0 : InR .i64 ((a : Int) + (o' : Int)) := inr_i64 (by omega)
  obtain ⟨i0, i1, i2, i3, i4⟩ := hs2.ov (x := i) (y := a + o') (by omega) (by omega)
  have hs3 := hs2.swp (x := i) (y := a + o') (by omega) (by omega)
  refine stp ?_
  refine D.one0 ?_ ?_
  · repeat refine stab_cons inferInstance ?_
    rfl
  refine stp ?_
  exact loop1a 11 (a + d / 4 * 2 + 2 - (i + 1)) (by omega) ⟨i + 1, w', _, rfl, rfl, by omega, by rw [Heap.get_set, if_neg (by omega)]; exact gz2, by simpa using nz2, hs3, .swp hw (by omega) (by omega) (by omega) (by omega)⟩
end
end Go.Proofs.Ytoadcfjkkoemdaa.A

namespace Go.Proofs.Ytoadcfjkkoemdaa.A
open Go Go.Vm
set_option maxRecDepth 10000
set_option linter.unusedVariables false
section
variable {lt : Nat → Nat → Bool} {fd : FuncId} {q n cap : Nat} {sp : Option Nat} {j : List Value} {G : Nat → Prop} {h0 : Heap}
set_option maxHeartbeats 16000000 in
theorem pdq_ok (H : CmpI lt fd q G h0) (oo : Ord lt) (hn : n < 256) : ∀ (N : Nat) {h : Heap} {l : List Nat} {a b lim : Nat}, b - a ≤ N → PS q n j G h0 h l → a ≤ b → b ≤ n → lim < 1000 → LowP lt a b l → Dist lt l →
    Runs Try.prog T0 (.fn fn_zadQ) [.slice (some ⟨q, 0, sp⟩) n cap, .int .i64 a, .int .i64 b, .int .i64 lim, .func (.func fd) ⟨[]⟩ ⟨[]⟩] h (fun _ h' => ∃ m, PS q n j G h0 h' m ∧ Sw a b l m ∧ Srt lt a b m) (fun _ _ => False) := by
  intro N
  induction N using Nat.strongRecOn with
  | _ N ih =>
  intro h l a b lim hN hs hab hb hlim hlow hdist
  have hll := hs.ln
  refine zadQ_runs ?_
  refine stp ?_
  refine loop5 zadQ_l0_M 1 2 3 10 11 (fun k v1 v2 v3 v10 v11 hx => ∃ (a' b' lim' : Nat) (wb wp : Bool) (u : List Nat), v1 = .int .i64 a' ∧ v2 = .int .i64 b' ∧ v3 = .int .i64 lim' ∧ v10 = .bool wb ∧ v11 = .bool wp ∧ k = b' - a' ∧ lim' < 1000 ∧ PS q n j G h0 hx u ∧ PdI lt a b a' b' l u) ?_ (b - a) ⟨a, b, lim, true, true, l, rfl, rfl, rfl, rfl, rfl, rfl, hlim, hs, PdI.start hab hlow⟩
  clear hs hlim
  rintro m v1 v2 v3 v10 v11 h' x12 x13 x14 x15 x16 x17 x18 x19 x20 x21 x22 x23 x24 x25 x26 x27 x28 x29 x30 x31 x32 x33 x34 x35 x36 x37 x38 x39 x40 x41 x42 x43 x44 x45 x46 x47 x48 x49 x50 x51 x52 x53 x54 x55 x56 x57 x58 x59 x60 x61 x62 x63 x64 x65 x66 x67 x68 x69 x70 x71 x72 x73 x74 x75 x76 x77 x78 x79 x80 x81 x82 x83 x84 x85 x86 x87 x88 x89 x90 x91 x92 x93 x94 x95 x96 x97 x98 x99 x100 x101 x102 x103 x104 x105 x106 x107 x108 x109 x110 x111 x112 x113 x114 x115 x116 x117 x118 x119 x120 x121 x122 x123 x124 x125 x126 x127 x128 x129 x130 x131 x132 x133 x134 x135 x136 x137 x138 x139 x140 x141 x142 x143 x144 x145 x146 x147 ⟨a', b', lim, wb, wp, u, rfl, rfl, rfl, rfl, rfl, rfl, hlim, hs, hI⟩
  have q0 := hI.h0
  have q1 := hI.h1
  have q2 := hI.h2
  have hul := hs.ln
  have ed : (b' : Int) - (a' : Int) = ((b' - a' : Nat) : Int) := by omega
  refine stp ?_
  rw [ed]
  refine stp ?_
  refine C.if (fun h12 => ?_) (fun h12 => ?_)
  · refine stp ?_
    refine O.call' (insertion_ok H oo hs q1 (by omega) (by omega)) (fun r h2 hr => ?_)
    obtain ⟨m, hs2, hw, hso⟩ := hr
    refine stp ?_
    have hI2 := hI.some (by omega) hw
    exact ⟨m, hs2, hI2.sw, hI2.done hso⟩
  refine stp ?_
  refine C.if (fun hl0 => ?_) (fun hl0 => ?_)
  · refine stp ?_
    refine O.call' (heapsort_ok H oo hs (by omega) (by omega) (by omega)) (fun r h2 hr => ?_)
    obtain ⟨m, hs2, hw, hso⟩ := hr
    refine stp ?_
    have hI2 := hI.some (by omega) hw
    exact ⟨m, hs2, hI2.sw, hI2.done hso⟩
  refine stp ?_
  refine cut1 [0, 0, 0, 2, 0, 0, 0, 0, 0, 0, 0, 0, 0, 0, 0, 0, 0, 0, 0, 0, 0, 0, 0, 0, 0, 0, 0, 0, 0, 0, 0, 0, 0, 0, 0, 0, 0, 0, 0, 0, 1, 1, 1, 1, 1, 1, 1, 0, 0, 0, 0, 0, 0, 0, 0, 0, 0, 0, 0, 0, 0, 0, 0, 0, 0, 0, 0, 0, 0, 0, 0, 0, 0, 0, 0, 0, 0, 0, 0, 0, 0, 0, 0, 0, 0, 0, 0, 0, 0, 0, 0, 0, 0, 0, 0, 0, 0, 0, 0, 0, 0, 0, 0, 0, 0, 0, 0, 0, 0, 0, 0, 0, 0, 0, 0, 0, 0, 0, 0, 0, 0, 0, 0, 0, 0, 0, 0, 0, 0, 0, 0, 0, 0, 0, 0, 0, 0, 0, 0, 0, 0, 0, 0, 0, 0, 0, 0, 0] .normal (fun v hx => ∃ (lim' : Nat) (u : List Nat), v = .int .i64 lim' ∧ lim' < 1000 ∧ PS q n j G h0 hx u ∧ PdI lt a b a' b' l u) ?_ ?_
  · cases wb with
    | true =>
      refine stp ?_
      exact cutQ1.out 3 ⟨lim, u, rfl, hlim, hs, hI⟩
    | false =>
      refine stp ?_
      refine O.call' (break_ok hs (by omega) (by omega) hn hs.fr.n) (fun r h2 hr => ?_)
      obtain ⟨m, hs2, hw⟩ := hr
      refine stp ?_
      rw [show (lim : Int) - 1 = ((lim - 1 : Nat) : Int) from by omega]
      exact cutQ1.out 3 ⟨lim - 1, m, rfl, by omega, hs2, hI.some (by omega) hw⟩
  clear hs hI hul hl0 hlim
  intro v3 h2 x40 x41 x42 x43 x44 x45 x46 ⟨lim', u, e3, hlim, hs, hI⟩
  subst e3
  have hul := hs.ln
  refine stp ?_
  refine O.call' (pivot_ok H hs (by omega) (by omega) (by omega) hs.fr.n) (fun r h3 hr => ?_)
  obtain ⟨c, hint, rfl, hc1, hc2, hs3⟩ := hr
  refine stp ?_
  refine cut2 [0, 0, 0, 0, 0, 0, 0, 0, 0, 0, 0, 0, 0, 2, 2, 0, 0, 0, 0, 0, 0, 0, 0, 0, 0, 0, 0, 0, 0, 0, 0, 0, 0, 0, 0, 0, 0, 0, 0, 0, 0, 0, 0, 0, 0, 0, 0, 0, 0, 0, 0, 0, 0, 0, 0, 0, 0, 1, 1, 1, 1, 1, 1, 1, 1, 1, 1, 1, 0, 0, 0, 0, 0, 0, 0, 0, 0, 0, 0, 0, 0, 0, 0, 0, 0, 0, 0, 0, 0, 0, 0, 0, 0, 0, 0, 0, 0, 0, 0, 0, 0, 0, 0, 0, 0, 0, 0, 0, 0, 0, 0, 0, 0, 0, 0, 0, 0, 0, 0, 0, 0, 0, 0, 0, 0, 0, 0, 0, 0, 0, 0, 0, 0, 0, 0, 0, 0, 0, 0, 0, 0, 0, 0, 0, 0, 0, 0, 0] .normal (fun v w hx => ∃ (c : Nat) (hint : Int) (u : List Nat), v = .int .i64 c ∧ w = .int .i64 hint ∧ a' ≤ c ∧ c < b' ∧ PS q n j G h0 hx u ∧ PdI lt a b a' b' l u) ?_ ?_
  · refine C.if (fun h4 => ?_) (fun h4 => ?_)
    · refine stp ?_
      refine O.call' (reverse_ok hs3 q1 (by omega) (by omega)) (fun r h4 hr => ?_)
      obtain ⟨m, hs4, hw⟩ := hr
      refine stp ?_
      rw [show (b' : Int) - 1 - ((c : Int) - (a' : Int)) = ((b' - 1 - (c - a') : Nat) : Int) from by omega]
      exact cutQ2.out 13 14 ⟨_, 1, m, rfl, rfl, by omega, by omega, hs4, hI.some (by omega) hw⟩
    · refine stp ?_
      exact cutQ2.out 13 14 ⟨c, hint, u, rfl, rfl, hc1, hc2, hs3, hI⟩
  clear hs hs3 hI hul hc1 hc2
  intro v13 v14 h4 x57 x58 x59 x60 x61 x62 x63 x64 x65 x66 x67 ⟨c, hint, u, e13, e14, hc1, hc2, hs, hI⟩
  subst e13 e14
  have hul := hs.ln
  refine C.next ?_
  refine RunC.seq ?_
  refine cut1 [0, 0, 0, 0, 0, 0, 0, 0, 0, 0, 0, 0, 0, 0, 0, 0, 0, 0, 0, 0, 0, 0, 0, 0, 0, 0, 0, 0, 0, 0, 0, 0, 0, 0, 0, 0, 0, 0, 0, 0, 0, 0, 0, 0, 0, 0, 0, 0, 0, 0, 0, 0, 0, 0, 0, 0, 0, 0, 0, 0, 0, 0, 0, 0, 0, 0, 0, 0, 2, 1, 1, 1, 1, 1, 1, 1, 1, 1, 1, 1, 1, 0, 0, 0, 0, 0, 0, 0, 0, 0, 0, 0, 0, 0, 0, 0, 0, 0, 0, 0, 0, 0, 0, 0, 0, 0, 0, 0, 0, 0, 0, 0, 0, 0, 0, 0, 0, 0, 0, 0, 0, 0, 0, 0, 0, 0, 0, 0, 0, 0, 0, 0, 0, 0, 0, 0, 0, 0, 0, 0, 0, 0, 0, 0, 0, 0, 0, 0] .normal (fun v hx => ∃ u : List Nat, PS q n j G h0 hx u ∧ PdI lt a b a' b' l u) ?_ ?_
  · cases wb with
    | false =>
      refine stp ?_
      exact cutQ1.out 68 ⟨u, hs, hI⟩
    | true =>
    cases wp with
    | false =>
      refine stp ?_
      exact cutQ1.out 68 ⟨u, hs, hI⟩
    | true =>
    refine stp ?_
    refine C.if (fun h5 => ?_) (fun h5 => ?_)
    · refine stp ?_
      refine O.call' (partial_ok H oo hs (by omega) (by omega) (by omega) hI.lo) (fun r h5 hr => ?_)
      obtain ⟨m, is, rfl, hs5, hw, hso⟩ := hr
      have hI2 := hI.some (by omega) hw
      refine stp ?_
      cases is with
      | true =>
        refine stp ?_
        refine cutQ1.pass ?_
        refine stp ?_
        exact ⟨m, hs5, hI2.sw, hI2.done (hso rfl)⟩
      | false =>
        refine stp ?_
        exact cutQ1.out 68 ⟨m, hs5, hI2⟩
    · refine stp ?_
      exact cutQ1.out 68 ⟨u, hs, hI⟩
  clear hs hI hul
  intro v68 h5 x69 x70 x71 x72 x73 x74 x75 x76 x77 x78 x79 x80 ⟨u, hs, hI⟩
  have hul := hs.ln
  refine C.next ?_
  refine RunC.seq ?_
  refine cut1 [0, 0, 0, 0, 0, 0, 0, 0, 0, 0, 0, 0, 0, 0, 0, 0, 0, 0, 0, 0, 0, 0, 0, 0, 0, 0, 0, 0, 0, 0, 0, 0, 0, 0, 0, 0, 0, 0, 0, 0, 0, 0, 0, 0, 0, 0, 0, 0, 0, 0, 0, 0, 0, 0, 0, 0, 0, 0, 0, 0, 0, 0, 0, 0, 0, 0, 0, 0, 0, 0, 0, 0, 0, 0, 0, 0, 0, 0, 0, 0, 0, 2, 1, 1, 1, 1, 1, 1, 1, 1, 1, 1, 1, 1, 1, 1, 1, 1, 0, 0, 0, 0, 0, 0, 0, 0, 0, 0, 0, 0, 0, 0, 0, 0, 0, 0, 0, 0, 0, 0, 0, 0, 0, 0, 0, 0, 0, 0, 0, 0, 0, 0, 0, 0, 0, 0, 0, 0, 0, 0, 0, 0, 0, 0, 0, 0, 0, 0] .normal (fun v hx => PS q n j G h0 hx u) ?_ ?_
  · rcases Nat.eq_zero_or_pos a' with h6 | h6
    · haveI g1 : ∀ {ts : List Value} {h : Heap} {O : Oper} {x z : Operand} [Ev ts x (.int .i64 (a' : Nat))] [Ev ts z (.int .i64 0)], XOp Try.prog ts h (.bin .gtr O x z) (.bool false) h := xgtr0 (by omega)
      refine stp ?_
      exact cutQ1.out 81 hs
    · haveI g1 : ∀ {ts : List Value} {h : Heap} {O : Oper} {x z : Operand} [Ev ts x (.int .i64 (a' : Nat))] [Ev ts z (.int .i64 0)], XOp Try.prog ts h (.bin .gtr O x z) (.bool true) h := xgtr1 (by omega)
      haveI : IdxOff 0 ((a' : Int) - 1) 1 (a' - 1) := ⟨by omega⟩
      haveI : InR .i64 ((a' : Int) - 1) := inr_i64 (by omega)
      obtain ⟨i0, i1, i2, _, _⟩ := hs.ov (x := a' - 1) (y := c) (by omega) (by omega)
      refine stp ?_
      refine D.howT (XOp.mkIndexSl (by omega)) rfl ?_
      refine stp ?_
      refine D.howT (XOp.mkIndexSl (by omega)) rfl ?_
      refine stp ?_
      refine D.callT (hs.cmp H (x := a' - 1) (y := c) (by omega) (by omega)) (fun r g hr => rfl) (fun r g hr => ?_)
      obtain ⟨⟨z, rfl, hz⟩, hs2⟩ := hr
      have hz0 : z < 0 := hz.2 (hI.lo h6 c hc1 hc2)
      haveI g2 : ∀ {ts : List Value} {h : Heap} {O : Oper} {x y : Operand} [Ev ts x (.int .i64 z)] [Ev ts y (.int .i64 0)], XOp Try.prog ts h (.bin .lss O x y) (.bool true) h := xlss1 hz0
      refine stp ?_
      exact cutQ1.out 81 hs2
  clear hs
  intro v81 h6 x82 x83 x84 x85 x86 x87 x88 x89 x90 x91 x92 x93 x94 x95 x96 x97 hs
  refine stp ?_
  refine O.call' (partition_ok H hs hc1 hc2 (by omega) (by omega)) (fun r h7 hr => ?_)
  obtain ⟨m, c, is, rfl, hs7, hw, hp⟩ := hr
  have hI7 := hI.some (by omega) hw
  have p1 := hp.ac
  have p2 := hp.cb
  have hml := hs7.ln
  have hd7 := hdist.perm (hI7.sw.perm (by omega))
  obtain ⟨lo1, lo2⟩ := hI7.low (by omega) hd7 hp
  refine stp ?_
  have e8 : IntKind.i64.wrap (((b' - a' : Nat) : Int).tdiv 8) = (((b' - a') / 8 : Nat) : Int) := quo_nat (b' - a') 8 (by omega) (by omega)
  refine O.how (XOp.quoI (by decide)) ?_
  rw [e8]
  refine stp ?_
  refine C.if (fun h8 => ?_) (fun h8 => ?_)
  · refine stp ?_
    refine O.call' (ih (c - a') (by omega) (Nat.le_refl _) hs7 p1 (by omega) hlim lo1 hd7) (fun r h9 hr => ?_)
    obtain ⟨m2, hs9, hw9, hso9⟩ := hr
    refine stp ?_
    exact loop5a 1 2 3 10 11 (b' - (c + 1)) (by omega) ⟨c + 1, b', lim', _, is, m2, rfl, rfl, rfl, rfl, rfl, rfl, hlim, hs9, hI7.left oo (by omega) hd7 hp hw9 hso9⟩
  · refine stp ?_
    rw [show (c : Int) + 1 = ((c + 1 : Nat) : Int) from rfl]
    refine O.call' (ih (b' - (c + 1)) (by omega) (Nat.le_refl _) hs7 (by omega) (by omega) hlim lo2 hd7) (fun r h9 hr => ?_)
    obtain ⟨m2, hs9, hw9, hso9⟩ := hr
    refine stp ?_
    exact loop5a 1 2 3 10 11 (c - a') (by omega) ⟨a', c, lim', _, is, m2, rfl, rfl, rfl, rfl, rfl, rfl, hlim, hs9, hI7.right oo (by omega) hp hw9 hso9⟩
end
end Go.Proofs.Ytoadcfjkkoemdaa.A

namespace Go.Proofs.Ytoadcfjkkoemdaa.A
open Go Go.Vm
set_option maxRecDepth 10000
set_option linter.unusedVariables false
theorem Clone_ok {h : Heap} {v : Value} {l : List UInt8} (hr : Rd h 1 v (bcells l) l.length) (hs : l.length < 1048576) :
    Runs Try.prog T0 (.fn fn_zicQ) [v] h
      (fun r h' => Own h' 1 r (bcells l) l.length ∧ Fr (fun _ => False) h h' ∧ ∀ i, ownedBy r i → h.n ≤ i) (fun _ _ => False) := by
  have hnew := hr.new
  obtain ⟨a, cap, rfl, hlen, hc⟩ := hr
  refine zicQ_runs ?_
  cases a with
  | none =>
    have hl : l = [] := by
      cases l with
      | nil => rfl
      | cons b l => obtain ⟨_, _, _, h1, _⟩ := hc (by simp); cases h1
    subst hl
    refine stp ?_
    exact ⟨.none, Fr.refl, fun i hi => hi.elim⟩
  | some a =>
    refine stp ?_
    have hz : Own (h.push (.cells [] 0)) 1 (.slice (some ⟨h.n, 0, none⟩) 0 0) [] 0 := .lit (by simp) (by rw [Heap.get_push, if_pos rfl])
    have hnew' := ((Rd.keep (S := fun _ => False) ⟨some a, cap, rfl, hlen, hc⟩ (Fr.refl.push (o := .cells [] 0)) fun _ _ => id).new (size := 1)) [.int .u8 0]
    refine O.append hz hnew' hlen (bcells_one l) (by omega) (by omega) (by omega) (fun v' h' h1 h2 h3 => ?_)
    refine stp ?_
    rw [Nat.zero_add, List.nil_append] at h1
    refine ⟨h1, (Fr.refl.push (o := .cells [] 0)).trans (S := fun _ => False) h2 (fun i hi ho => ?_), fun i hi => ?_⟩
    · have : h.n = i := ho
      omega
    · rcases h3 i hi with h4 | h4
      · have : h.n = i := h4
        omega
      · simp at h4; omega
end Go.Proofs.Ytoadcfjkkoemdaa.A

namespace Go.Proofs.Ytoadcfjkkoemdaa.A
open Go Go.Vm
set_option maxRecDepth 10000
set_option linter.unusedVariables false
abbrev lcells (a b c d : Int) (v : Value) : List Value := [.int .i64 a, .int .i64 b, .int .i64 c, .int .i64 d, v]
abbrev mcells (a b c : Int) (u : Value) (m : Nat) : List Value := [.int .i64 a, .int .i64 b, .int .i64 c, u, .map (some m)]
section
variable {P : Program} {T : Table} {ts : List Value} {ds : List Deferred} {h : Heap} {rd : Option Nat} {dst size bytes n m el : Nat} {zero : List Value} {zeros : Bool} {x y : Operand} {v w : Value} {c d : List Value} {chk : List (Option Nat × AOp × Option (Nat × Bool))} {pan : Bool} {rest : List AOper} {Q : QP} {F : Value → List Value}
theorem D.appendC [e1 : Ev ts x v] [e2 : Ev ts y w] [s : LSetF ts dst F] (ho : Own h size v c n) (hx : newCells h size zero zeros w = some (m, d)) (hd : d.length = m * size) (h1 : d.all Value.oneCell' = true) (hs : size ≠ 0) (hb : bytes < 1048576) (hsm : n + m < 1048576)
    (hk : ∀ v' h', Own h' size v' (c ++ d) (n + m) → Fr (ownedBy v) h h' → (∀ i, ownedBy v' i → ownedBy v i ∨ h.n ≤ i) → chk.all (stable P (F v') h') = true ∧ RunD P T rest ⟨F v', ds, h', rd⟩ Q) : RunD P T (⟨some dst, .append el size bytes zero zeros x y, none, chk, pan⟩ :: rest) ⟨ts, ds, h, rd⟩ Q := by
  obtain ⟨v', h', hx, h2, h3, h4⟩ := append_own hs hb hsm ho hx hd h1
  exact RunD.cons rfl (RunX.ok (h' := h') (v := v') (fun call => by rw [xo_plain rfl]; simp only [xop, e1.eq, e2.eq, hx]) (by
    show chk.all (stable P (lset ts dst v') h') = true ∧ RunD P T rest ⟨lset ts dst v', ds, h', rd⟩ Q
    rw [s.eq]; exact hk v' h' h2 h3 h4))
end
end Go.Proofs.Ytoadcfjkkoemdaa.A

namespace Go.Proofs.Ytoadcfjkkoemdaa.A
open Go Go.Vm
set_option maxRecDepth 10000
set_option linter.unusedVariables false
def cmpI (a b : Int) : Int := if a < b then -1 else if b < a then 1 else 0
def orI (a b : Int) : Int := if a = 0 then b else a
theorem isNaN_ok {h : Heap} {a : Int} : Runs Try.prog T0 (.fn fn_zcQ) [.int .i64 a] h (fun r h' => r = .bool false ∧ h' = h) (fun _ _ => False) := by
  refine zcQ_runs ?_
  refine stp ?_
  exact ⟨by simp, rfl⟩
theorem Compare_ok {h : Heap} {a b : Int} : Runs Try.prog T0 (.fn fn_zaQ) [.int .i64 a, .int .i64 b] h (fun r h' => r = .int .i64 (cmpI a b) ∧ h' = h) (fun _ _ => False) := by
  refine zaQ_runs ?_
  refine stp ?_
  refine O.call' isNaN_ok (fun r h1 hr => ?_)
  obtain ⟨rfl, rfl⟩ := hr
  refine stp ?_
  refine O.call' isNaN_ok (fun r h1 hr => ?_)
  obtain ⟨rfl, rfl⟩ := hr
  refine stp ?_
  unfold cmpI
  refine C.if (fun h1 => ?_) (fun h1 => ?_)
  · refine stp ?_
    rw [if_pos h1]
    exact ⟨rfl, rfl⟩
  · refine stp ?_
    rw [if_neg h1]
    refine C.if (fun h2 => ?_) (fun h2 => ?_)
    · refine stp ?_
      rw [if_pos h2]
      exact ⟨rfl, rfl⟩
    · refine stp ?_
      rw [if_neg h2]
      exact ⟨rfl, rfl⟩
theorem Or_ok {h : Heap} {q : Nat} {a b : Int} (hq : h.get q = .cells [.int .i64 a, .int .i64 b] 0) (ql : q < h.n) : Runs Try.prog T0 (.fn fn_zbQ) [.slice (some ⟨q, 0, none⟩) 2 2] h (fun r h' => r = .int .i64 (orI a b) ∧ h' = h) (fun _ _ => False) := by
  haveI : HGet h q _ := ⟨hq⟩
  refine zbQ_runs ?_
  refine stp ?_
  refine loop1 zbQ_l0_M 8 (fun m v8 hx => hx = h ∧ (m = 2 ∧ v8 = .int .i64 0 ∨ m = 1 ∧ v8 = .int .i64 1 ∧ a = 0 ∨ m = 0 ∧ v8 = .int .i64 2 ∧ a = 0 ∧ b = 0)) ?_ 2 ⟨rfl, .inl ⟨rfl, rfl⟩⟩
  rintro m v8 h' x2 x5 x9 x10 x11 x12 x13 x14 x15 x16 ⟨rfl, ⟨rfl, rfl⟩ | ⟨rfl, rfl, ha⟩ | ⟨rfl, rfl, ha, hb⟩⟩
  · refine stp ?_
    refine C.ifN (fun e1 => ?_) (fun e1 => ?_)
    · refine stp ?_
      unfold orI
      rw [if_neg e1]
      exact ⟨rfl, rfl⟩
    · refine stp ?_
      exact loop1a 8 1 (by omega) ⟨rfl, .inr (.inl ⟨rfl, rfl, e1⟩)⟩
  · refine stp ?_
    refine C.ifN (fun e1 => ?_) (fun e1 => ?_)
    · refine stp ?_
      unfold orI
      rw [if_pos ha]
      exact ⟨rfl, rfl⟩
    · refine stp ?_
      exact loop1a 8 0 (by omega) ⟨rfl, .inr (.inr ⟨rfl, rfl, ha, e1⟩)⟩
  · refine stp ?_
    unfold orI
    rw [if_pos ha, hb]
    exact ⟨rfl, rfl⟩
end Go.Proofs.Ytoadcfjkkoemdaa.A

namespace Go.Proofs.Ytoadcfjkkoemdaa.A
open Go Go.Vm
set_option maxRecDepth 10000
set_option linter.unusedVariables false
theorem pcell_at {h : Heap} {b o n k : Nat} {l : List Nat} (hc : cellsAt h b o (n * 1) = some (pcells l)) (hn : l.length = n) (hk : k < n) : Cell h b (o + k) (.pointer (some ⟨l.getD k 0, 0, none⟩)) := ⟨by
  have := cellsAt_sub (k := k) (m := 1) hc (by omega)
  rw [this]
  subst hn
  unfold pcells
  have g : l.getD k 0 = l[k] := by simp [List.getD, hk]
  rw [← List.map_drop, List.drop_eq_getElem_cons hk, List.map_cons, g]
  rfl⟩
theorem Values_ok {h : Heap} {u : Value} [CellsOf u [u]] : Runs Try.prog T0 (.fn fn_zncQ) [u] h (fun r h' => r = .func (.func fn_zocQ) ⟨[]⟩ ⟨[.pointer (some ⟨h.n, 0, none⟩)]⟩ ∧ h'.n = h.n + 1 ∧ h'.get h.n = .cells [u] 0 ∧ Fr (fun _ => False) h h') (fun _ _ => False) := by
  refine zncQ_runs ?_
  refine stp ?_
  exact ⟨rfl, rfl, HGet.new.eq, Fr.refl.push⟩
set_option maxHeartbeats 4000000 in
theorem vals64_ok {h : Heap} {bx y : Nat} {u : Value} {L : List Nat} {I : Nat → Heap → Prop} (hbx : h.get bx = .cells [u] 0) (hrd : ∀ k hx, I k hx → Rd hx 1 u (pcells L) L.length) (hl : L.length < 100000) (h0 : I 0 h)
    (hr : ∀ k hx, k < L.length → I k hx → Runs Try.prog T0 (.yield y) [.pointer (some ⟨L.getD k 0, 0, none⟩)] hx (fun r h' => r = .bool true ∧ I (k + 1) h') (fun _ _ => False)) :
    Runs Try.prog T0 (.fn fn_zocQ) [.func (.yield y) ⟨[]⟩ ⟨[]⟩, .pointer (some ⟨bx, 0, none⟩)] h (fun _ h' => I L.length h') (fun _ _ => False) := by
  haveI : HGet h bx _ := ⟨hbx⟩
  obtain ⟨a, cap, rfl, _, _⟩ := id (hrd 0 h h0)
  refine zocQ_runs ?_
  refine stp ?_
  refine loop1 zocQ_l0_M 7 (fun q v7 hx => ∃ k : Nat, k ≤ L.length ∧ q = L.length - k ∧ v7 = .int .i64 k ∧ I k hx) ?_ L.length ⟨0, by omega, rfl, rfl, h0⟩
  rintro m v7 h' x4 x8 x9 x10 x11 x12 x13 x14 x15 ⟨k, hk, rfl, rfl, hi⟩
  refine stp ?_
  refine C.if (fun hlt => ?_) (fun hge => ?_)
  · have hlt : k < L.length := by omega
    obtain ⟨_, _, e1, _, hcx⟩ := id (hrd k _ hi)
    obtain ⟨b, o, sp, e2, hb, hcc⟩ := hcx (by omega)
    injection e1 with e1 _ _
    rw [e2] at e1
    subst e1
    haveI := pcell_at hcc rfl hlt
    refine stp ?_
    refine O.yield (hr k _ hlt hi) (fun r h3 hr => ?_)
    obtain ⟨rfl, hi3⟩ := hr
    refine stp ?_
    exact loop1a 7 (L.length - (k + 1)) (by omega) ⟨k + 1, by omega, rfl, rfl, hi3⟩
  · obtain rfl : k = L.length := by omega
    refine stp ?_
    exact hi
set_option maxHeartbeats 4000000 in
theorem aq_round {h : Heap} {lp p2 b : Nat} {v : Value} {L : List Nat} {f0 f1 f3 f4 f5 f6 f7 f8 f9 f10 f11 f12 : Value} (hlp : h.get lp = .loop .ready none [f0, f1, .pointer (some ⟨p2, 0, none⟩), f3, f4, f5, f6, f7, f8, f9, f10, f11, f12] [7] zhcQ_ra0 zhcQ_rb0)
    (h2 : h.get p2 = .cells [v] 0) (ho : Own h 1 v (pcells L) L.length) (hL : L.length < 100000) (hv : ∀ i, ownedBy v i → i ≠ lp ∧ i ≠ p2) (ll : lp < h.n) (m2 : p2 < h.n) (n2 : p2 ≠ lp) :
    Runs Try.prog T0 (.yield lp) [.pointer (some ⟨b, 0, none⟩)] h (fun r g => r = .bool true ∧ g.get lp = .loop .ready none [f0, f1, .pointer (some ⟨p2, 0, none⟩), f3, f4, f5, f6, f7, f8, f9, f10, f11, f12] [7] zhcQ_ra0 zhcQ_rb0 ∧
      (∃ v', g.get p2 = .cells [v'] 0 ∧ Own g 1 v' (pcells (L ++ [b])) (L ++ [b]).length ∧ (∀ i, ownedBy v' i → ownedBy v i ∨ h.n ≤ i)) ∧ Fr (fun i => i = lp ∨ i = p2 ∨ ownedBy v i) h g) (fun _ _ => False) := by
  haveI : HGet h lp _ := ⟨hlp⟩
  haveI : HGet h p2 _ := ⟨h2⟩
  haveI : BLt lp h := ⟨ll⟩
  haveI : BLt p2 h := ⟨m2⟩
  haveI : BNe p2 lp := ⟨n2⟩
  haveI : BNe lp p2 := ⟨fun e => n2 e.symm⟩
  refine Runs.round hlp put_one rfl zhcQ_na0 zhcQ_nb0 zhcQ_ca0 zhcQ_cb0 ?_
  refine stp ?_
  refine A.go ?_
  refine stp ?_
  have hL1 : (L ++ [b]).length = L.length + 1 := by simp
  refine O.append ((ho.keep (Fr.refl.set (S := fun i => i = lp) fun _ => rfl) fun b hb e => (hv b hb).1 e).keep (S := fun _ => False) Fr.refl.push fun _ _ => id) one_ptr rfl rfl (by omega) (by omega) (by omega) (fun v6 h6 ho6 hf6 hn6 => ?_)
  have q6 := hf6.n
  simp only [Heap.n_set, Heap.n_push] at q6 hn6
  haveI := hf6.keep (b := lp) inferInstance (by simp; omega) (fun e => (hv lp e).1 rfl)
  haveI := hf6.keep (b := p2) (o := .cells [v] 0) inferInstance (by simp; omega) (fun e => (hv p2 e).2 rfl)
  haveI : BLt lp h6 := ⟨by omega⟩
  haveI : BLt p2 h6 := ⟨by omega⟩
  have F6 : Fr (fun i => i = lp ∨ ownedBy v i) h h6 := ((Fr.refl.set (S := fun i => i = lp ∨ ownedBy v i) fun _ => .inl rfl).push).trans' (hf6.mono fun _ _ e => .inr e)
  obtain ⟨a6, c6, rfl, _, _⟩ := id ho6.rd
  refine stp ?_
  refine A.on ?_
  have fS : ∀ {A B : AObj}, Fr (fun i => i = p2 ∨ i = lp) h6 ((h6.set p2 A).set lp B) := fun {A B} => (Fr.refl.set fun _ => .inl rfl).set fun _ => .inr rfl
  refine ⟨rfl, by rw [Heap.get_set, if_pos rfl], ⟨_, by rw [Heap.get_set, if_neg n2, Heap.get_set, if_pos rfl], ?_, fun i hi => ?_⟩, (F6.mono fun _ _ e => e.elim .inl fun e => .inr (.inr e)).trans' (fS.mono fun _ _ e => e.elim (fun e => .inr (.inl e)) .inl)⟩
  · rw [pcells_append, hL1]
    exact ho6.keep fS fun b hb e => by
      rcases hn6 b hb with h7 | h7
      · have := hv b h7; omega
      · omega
  · rcases hn6 i hi with h7 | h7
    · exact .inl h7
    · exact .inr (by omega)
noncomputable abbrev qrec (bx p2 : Nat) : AObj := .loop .ready none [.slice none 0 0, .func (.func fn_zocQ) ⟨[]⟩ ⟨[.pointer (some ⟨bx, 0, none⟩)]⟩, .pointer (some ⟨p2, 0, none⟩), undef, .slice none 0 0, undef, .func (.func fn_zocQ) ⟨[]⟩ ⟨[.pointer (some ⟨bx, 0, none⟩)]⟩, undef, undef, undef, undef, undef, undef] [7] zhcQ_ra0 zhcQ_rb0
set_option maxHeartbeats 8000000 in
theorem AppendSeq_ok {h : Heap} {bx : Nat} {u : Value} {L : List Nat} (hbx : h.get bx = .cells [u] 0) (hb : bx < h.n) (hu : Rd h 1 u (pcells L) L.length) (hlen : L.length < 100000) :
    Runs Try.prog T0 (.fn fn_zhcQ) [.slice none 0 0, .func (.func fn_zocQ) ⟨[]⟩ ⟨[.pointer (some ⟨bx, 0, none⟩)]⟩] h
      (fun r h' => Own h' 1 r (pcells L) L.length ∧ (∀ i, ownedBy r i → h.n ≤ i) ∧ Fr (fun _ => False) h h') (fun _ _ => False) := by
  refine zhcQ_runs ?_
  refine stp ?_
  have F0 : Fr (fun _ => False) h (h.push (.cells [.slice none 0 0] 0)) := Fr.refl.push
  have n0 : (h.push (.cells [.slice none 0 0] 0)).n = h.n + 1 := rfl
  have g2 : (h.push (.cells [.slice none 0 0] 0)).get h.n = .cells [.slice none 0 0] 0 := by rw [Heap.get_push, if_pos rfl]
  generalize h.push (.cells [.slice none 0 0] 0) = ha at *
  have FL : Fr (fun _ => False) ha ((ha.push (.defs false)).push (qrec bx h.n)) := Fr.refl.push.push
  have F1 := F0.trans' FL
  have nl : ((ha.push (.defs false)).push (qrec bx h.n)).n = ha.n + 2 := rfl
  have hd : (ha.push (.defs false)).n = ha.n + 1 := rfl
  have gq : ((ha.push (.defs false)).push (qrec bx h.n)).get (ha.n + 1) = qrec bx h.n := HGet.new.eq
  have FQ : Fr (fun i => i = ha.n + 1 ∨ i = h.n) (ha.push (.defs false)) ((ha.push (.defs false)).push (qrec bx h.n)) := Fr.refl.push
  have tk : ∀ k, k < L.length → L.take (k + 1) = L.take k ++ [L.getD k 0] := fun k hk => by
    have g : L.getD k 0 = L[k] := by simp [List.getD, hk]
    rw [List.take_succ_eq_append_getElem hk, g]
  refine range_on (J := fun hx => (∃ (v : Value), hx.get h.n = .cells [v] 0 ∧ Own hx 1 v (pcells L) L.length ∧ ∀ i, ownedBy v i → ha.n + 1 < i) ∧ Fr (fun i => i = ha.n + 1 ∨ i = h.n) (ha.push (.defs false)) hx) ?_ (fun hx hJ => ?_)
  · show Runs _ _ _ _ ((ha.push (.defs false)).push (qrec bx h.n)) _ _
    generalize (ha.push (.defs false)).push (qrec bx h.n) = hl at *
    refine Runs.mono (vals64_ok (u := u) (L := L) (I := fun k hx => hx.get (ha.n + 1) = qrec bx h.n ∧ (∃ v, hx.get h.n = .cells [v] 0 ∧ Own hx 1 v (pcells (L.take k)) (L.take k).length ∧ ∀ i, ownedBy v i → ha.n + 1 < i) ∧ ha.n + 1 < hx.n ∧ Fr (fun i => i = ha.n + 1 ∨ i = h.n) (ha.push (.defs false)) hx) (by rw [F1.get _ hb id]; exact hbx) ?_ hlen ?_ ?_) (fun _ h' hh => ?_) (fun _ _ h => h)
    · rintro k hx ⟨i1, ⟨v, i2, i3, i4⟩, i5, i6⟩
      have FD : Fr (fun i => i = ha.n + 1 ∨ i = h.n) ha hx := Fr.trans' (Fr.refl.push (o := .defs false)) i6
      have FX : Fr (fun _ => False) h hx := F0.trans FD fun i hi e => by omega
      exact hu.keep FX fun _ _ => id
    · refine ⟨gq, ⟨_, ?_, .none, fun i hi => hi.elim⟩, by omega, FQ⟩
      rw [FL.get _ (by omega) id]
      exact g2
    · rintro k hx hk ⟨i1, ⟨v, i2, i3, i4⟩, i5, i6⟩
      have i7 := i6.n
      refine Runs.mono (aq_round (b := L.getD k 0) i1 i2 i3 (by rw [List.length_take]; omega) (fun i hi => ?_) i5 (by omega) (by omega)) (fun r h' hh => ?_) (fun _ _ h => h)
      · have := i4 i hi
        omega
      · obtain ⟨rfl, j1, ⟨v', j2, j3, j4⟩, j5⟩ := hh
        have j6 : Fr (fun i => i = ha.n + 1 ∨ i = h.n) (ha.push (.defs false)) h' := i6.trans j5 fun i hi e => by
          rcases e with e | e | e
          · exact .inl e
          · exact .inr e
          · have := i4 i e
            omega
        refine ⟨rfl, j1, ⟨v', j2, by rw [tk k hk]; exact j3, fun i hi => ?_⟩, j5.lt i5, j6⟩
        rcases j4 i hi with h7 | h7
        · exact i4 i h7
        · omega
    · obtain ⟨i1, ⟨v, i2, i3, i4⟩, i5, i6⟩ := hh
      rw [List.take_length] at i3
      exact ⟨i1, ⟨v, i2, i3, i4⟩, i6⟩
  · obtain ⟨⟨v, q4, ho, hnew⟩, hf⟩ := hJ
    have gdf : hx.get ha.n = .defs false := by rw [hf.get _ (by omega) (by omega)]; exact HGet.new.eq
    have FD : Fr (fun i => i = ha.n + 1 ∨ i = h.n) ha hx := Fr.trans' (Fr.refl.push (o := .defs false)) hf
    have hfx : Fr (fun _ => False) h hx := F0.trans FD fun i hi e => by omega
    have hxn := hf.n
    haveI : HGet hx h.n _ := ⟨q4⟩
    haveI : HGet hx ha.n _ := ⟨gdf⟩
    haveI : BLt h.n hx := ⟨by omega⟩
    haveI : BNe h.n (ha.n + 1) := ⟨by omega⟩
    haveI : BNe ha.n (ha.n + 1) := ⟨by omega⟩
    haveI : BNe ha.n h.n := ⟨by omega⟩
    haveI : BNe h.n ha.n := ⟨by omega⟩
    obtain ⟨a3, c3, rfl, _, _⟩ := id ho.rd
    refine stp ?_
    refine B.retC ?_
    have fS : ∀ {A B C : AObj}, Fr (fun i => i = ha.n + 1 ∨ i = ha.n) hx (((hx.set (ha.n + 1) A).set (ha.n + 1) B).set ha.n C) := fun {A B C} => ((Fr.refl.set fun _ => .inl rfl).set fun _ => .inl rfl).set fun _ => .inr rfl
    exact ⟨ho.keep fS fun b hb e => by have := hnew b hb; omega, fun i hi => by have := hnew i hi; omega, hfx.trans fS fun i hi e => by omega⟩
end Go.Proofs.Ytoadcfjkkoemdaa.A

namespace Go.Proofs.Ytoadcfjkkoemdaa.A
open Go Go.Vm
set_option maxRecDepth 10000
set_option linter.unusedVariables false
theorem cmpI_cases (x y : Int) : cmpI x y = -1 ∧ x < y ∨ cmpI x y = 1 ∧ y < x ∨ cmpI x y = 0 ∧ x = y := by
  unfold cmpI
  split
  · exact .inl ⟨rfl, by assumption⟩
  · split
    · exact .inr (.inl ⟨rfl, by assumption⟩)
    · exact .inr (.inr ⟨rfl, by omega⟩)
def ltK (a b : Int × Int) : Bool := decide (a.1 < b.1 ∨ a.1 = b.1 ∧ a.2 < b.2)
theorem ltK_ord {α : Type} (k : α → Int × Int) : Ord (fun x y => ltK (k x) (k y)) :=
  ⟨fun a b h => by simp only [ltK, decide_eq_true_eq, decide_eq_false_iff_not] at h ⊢; omega, fun a b c h1 h2 => by simp only [ltK, decide_eq_false_iff_not] at h1 h2 ⊢; omega⟩
theorem ordK (a b c d : Int) : orI (cmpI a c) (cmpI b d) < 0 ↔ ltK (a, b) (c, d) = true := by
  unfold orI ltK
  simp only [decide_eq_true_eq]
  rcases cmpI_cases a c with ⟨h1, h2⟩ | ⟨h1, h2⟩ | ⟨h1, h2⟩
  · rw [h1, if_neg (by decide)]
    omega
  · rw [h1, if_neg (by decide)]
    omega
  · rw [h1, if_pos rfl]
    rcases cmpI_cases b d with ⟨h3, h4⟩ | ⟨h3, h4⟩ | ⟨h3, h4⟩ <;> rw [h3] <;> omega
structure LE where
  b : Nat
  t : Nat
  id : Int
  fr : Int
  to : Int
  due : Int
  bs : List UInt8
  w : Value
instance : Inhabited LE := ⟨⟨0, 0, 0, 0, 0, 0, [], .slice none 0 0⟩⟩
abbrev LE.cells (e : LE) : List Value := lcells e.id e.fr e.to e.due e.w
abbrev LE.key (e : LE) : Int × Int := (e.due, e.id)
abbrev ltL (a b : LE) : Bool := ltK a.key b.key
theorem ltL_ord : Ord ltL := ltK_ord LE.key
set_option maxHeartbeats 4000000 in
theorem mcompare_ok {h : Heap} {x y : LE} (hx : h.get x.b = .cells x.cells 0) (hy : h.get y.b = .cells y.cells 0) :
    Runs Try.prog T0 (.fn fn_zwbQ) [.pointer (some ⟨x.b, 0, none⟩), .pointer (some ⟨y.b, 0, none⟩)] h (fun r h' => r = .int .i64 (orI (cmpI x.due y.due) (cmpI x.id y.id)) ∧ Fr (fun _ => False) h h') (fun _ _ => False) := by
  haveI : HGet h x.b _ := ⟨hx⟩
  haveI : HGet h y.b _ := ⟨hy⟩
  refine zwbQ_runs ?_
  refine stp ?_
  refine D.callX Compare_ok (fun r g hr => ?_) (fun r g hr => ?_) (fun _ _ hx => hx.elim)
  · obtain ⟨rfl, rfl⟩ := hr
    exact StabL.ok
  obtain ⟨rfl, rfl⟩ := hr
  refine stp ?_
  refine D.callX Compare_ok (fun r g hr => rfl) (fun r g hr => ?_) (fun _ _ hx => hx.elim)
  obtain ⟨rfl, rfl⟩ := hr
  refine stp ?_
  refine D.callX (Or_ok (q := g.n) (by rw [Heap.get_push, if_pos rfl]) (by simp)) (fun r g hr => rfl) (fun r g hr => ?_) (fun _ _ hx => hx.elim)
  obtain ⟨rfl, rfl⟩ := hr
  refine stp ?_
  exact ⟨rfl, Fr.refl.push⟩
theorem map_swp {α β : Type} [Inhabited α] [Inhabited β] (f : α → β) {l : List α} {i k : Nat} (hi : i < l.length) (hk : k < l.length) : (swp l i k).map f = swp (l.map f) i k := by
  unfold swp
  rw [List.map_set, List.map_set, at_map f hi, at_map f hk]
def LSt (p m : Nat) (x y z : Int) (T : Nat → Prop) (hb hx : Heap) (S : List LE) : Prop :=
  p < hx.n ∧ (∃ u, hx.get p = .cells (mcells x y z u m) 0 ∧ Own hx 1 u (pcells (S.map LE.b)) S.length ∧ ∀ i, ownedBy u i → T i ∧ i ≠ p) ∧ T p ∧ S.length < 1000000 ∧ Fr T hb hx ∧ ∀ e ∈ S, e.b < hb.n ∧ ¬ T e.b ∧ hb.get e.b = .cells e.cells 0
theorem LSt.let {p m : Nat} {x y z : Int} {T : Nat → Prop} {hb hx : Heap} {S : List LE} (hs : LSt p m x y z T hb hx S) {e : LE} (he : e ∈ S) : hx.get e.b = .cells e.cells 0 := by
  obtain ⟨_, _, _, _, hf, ha⟩ := hs
  obtain ⟨h1, h2, h3⟩ := ha e he
  rw [hf.get _ h1 h2]; exact h3
theorem LSt.keep {p m : Nat} {x y z : Int} {T : Nat → Prop} {hb hx hy : Heap} {S : List LE} (hs : LSt p m x y z T hb hx S) (hf : Fr (fun _ => False) hx hy) : LSt p m x y z T hb hy S := by
  obtain ⟨h1, ⟨u, h2, h3, h4⟩, h5, h6, h7, h8⟩ := hs
  exact ⟨hf.lt h1, ⟨u, by rw [hf.get _ h1 id]; exact h2, h3.keep hf fun _ _ => id, h4⟩, h5, h6, h7.trans' (hf.mono fun _ _ e => e.elim), h8⟩
set_option maxHeartbeats 4000000 in
theorem letters_heap {p m : Nat} {x y z : Int} {T : Nat → Prop} {hb : Heap} : HeapI ltL 87 (.pointer (some ⟨p, 3, none⟩)) (LSt p m x y z T hb) where
  bd := fun h => h.2.2.2.1
  len := fun {h l} hs => by
    obtain ⟨hp, ⟨u, hg, ho, hv⟩, h1, h2, h3⟩ := id hs
    haveI : HGet h p _ := ⟨hg⟩
    obtain ⟨a, c, rfl, _, _⟩ := id ho.rd
    refine ⟨fn_zzbQ, _, methodOf_val (by kernel_rfl) (by kernel_rfl : Try.prog.underlying 87 = some (.pointer 62)) (by kernel_rfl) (Cell.eq (h := h) (b := p) (off := 3)), ?_⟩
    refine zzbQ_runs ?_
    refine stp ?_
    exact ⟨rfl, hs⟩
  less := fun {h l i k} hs hi hk => by
    obtain ⟨hp, ⟨u, hg, ho, hv⟩, h1, h2, h3⟩ := id hs
    have gi := hs.let (at_mem hi)
    have gk := hs.let (at_mem hk)
    have ei := at_map LE.b hi
    have ek := at_map LE.b hk
    haveI : HGet h p _ := ⟨hg⟩
    refine ⟨fn_zacQ, _, methodOf_val (by kernel_rfl) (by kernel_rfl : Try.prog.underlying 87 = some (.pointer 62)) (by kernel_rfl) (Cell.eq (h := h) (b := p) (off := 3)), ?_⟩
    have hml : (l.map LE.b).length = l.length := List.length_map _
    generalize hn : l.length = n at *
    generalize hc : pcells (l.map LE.b) = cc at *
    cases ho with
    | none => omega
    | lit _ _ => omega
    | grown hq hn0 hle hl hl2 hgq =>
      rename_i q kk cap j
      subst hn hc
      haveI : HGet h q _ := ⟨hgq⟩
      haveI := pget (l := l.map LE.b) (j := j) (i := i) (by omega)
      haveI := pget (l := l.map LE.b) (j := j) (i := k) (by omega)
      rw [ei, ek] at *
      refine zacQ_runs ?_
      refine stp ?_
      refine D.callX (mcompare_ok gi gk) (fun r g hr => rfl) (fun r g hr => ?_) (fun _ _ hx => hx.elim)
      obtain ⟨rfl, f1⟩ := hr
      refine stp ?_
      refine ⟨?_, hs.keep f1⟩
      congr 1
      rw [Bool.eq_iff_iff, decide_eq_true_eq]
      exact ordK _ _ _ _
  swap := fun {h l i k} hs hi hk => by
    obtain ⟨hp, ⟨u, hg, ho, hv⟩, h1, h2, h3, h8⟩ := id hs
    haveI : HGet h p _ := ⟨hg⟩
    refine ⟨fn_zdcQ, _, methodOf_val (by kernel_rfl) (by kernel_rfl : Try.prog.underlying 87 = some (.pointer 62)) (by kernel_rfl) (Cell.eq (h := h) (b := p) (off := 3)), ?_⟩
    have hml : (l.map LE.b).length = l.length := List.length_map _
    have hms := map_swp LE.b hi hk
    generalize hn : l.length = n at *
    generalize hc : pcells (l.map LE.b) = cc at *
    cases ho with
    | none => omega
    | lit _ _ => omega
    | grown hq hn0 hle hl hl2 hgq =>
      rename_i q kk cap j
      subst hn hc
      haveI : HGet h q _ := ⟨hgq⟩
      haveI := pget (l := l.map LE.b) (j := j) (i := i) (by omega)
      haveI := pget (l := l.map LE.b) (j := j) (i := k) (by omega)
      haveI : Over (pcells (l.map LE.b) ++ j) i [.pointer (some ⟨at' (l.map LE.b) k, 0, none⟩)] (pcells ((l.map LE.b).set i (at' (l.map LE.b) k)) ++ j) := pover (by omega)
      haveI : Over (pcells ((l.map LE.b).set i (at' (l.map LE.b) k)) ++ j) k [.pointer (some ⟨at' (l.map LE.b) i, 0, none⟩)] (pcells (swp (l.map LE.b) i k) ++ j) := pover (by simp; omega)
      refine zdcQ_runs ?_
      refine stp ?_
      refine D.one0 StabL.ok ?_
      refine stp ?_
      obtain ⟨hS, hqp⟩ := hv q rfl
      refine ⟨by simpa using hp, ⟨_, by rw [Heap.get_set, if_neg (fun e => hqp e.symm)]; exact hg, ?_, hv⟩, h1, by rw [swp_len]; exact h2, h3.set fun _ => hS, fun e he => h8 e ((swp_perm hi hk).mem_iff.1 he)⟩
      rw [swp_len, hms]
      refine Own.grown (j := j) (by simpa using hq) hn0 hle (by rw [pcells_len, swp_len]; simp) ?_ (by rw [Heap.get_set, if_pos rfl])
      rw [List.length_append, pcells_len] at hl2
      rw [List.length_append, pcells_len, swp_len]
      exact hl2
set_option maxHeartbeats 4000000 in
theorem lPop_ok {p m : Nat} {x y z : Int} {T : Nat → Prop} {hb h : Heap} {l : List LE} (hs : LSt p m x y z T hb h l) (hl : 0 < l.length) :
    MRuns Try.prog T0 87 (.pointer (some ⟨p, 3, none⟩)) "Pop" [] h (fun r h' => LSt p m x y z T hb h' (l.take (l.length - 1))) := by
  obtain ⟨hp, ⟨v, hg, ho, hv⟩, h1, h2, h3, h8⟩ := id hs
  obtain ⟨k, hk⟩ : ∃ k, l.length - 1 = k := ⟨_, rfl⟩
  rw [hk]
  haveI : HGet h p _ := ⟨hg⟩
  refine ⟨fn_zbcQ, _, methodOf_ptr (by kernel_rfl) (by kernel_rfl : Try.prog.underlying 87 = some (.pointer 62)), ?_⟩
  have hml : (l.map LE.b).length = l.length := List.length_map _
  generalize hn : l.length = n at *
  generalize hc : pcells (l.map LE.b) = cc at *
  have ho0 := ho
  have e1 : (n : Int) - 1 = (k : Int) := by omega
  cases ho with
  | none => omega
  | lit _ _ => omega
  | grown hq hn0 hle hl3 hl2 hgq =>
    rename_i q kk cap j
    subst hn hc
    haveI : HGet h q _ := ⟨hgq⟩
    haveI := pget (l := l.map LE.b) (j := j) (i := k) (by omega)
    haveI : IdxOff 0 ((l.length : Int) - 1) 1 k := ⟨by omega⟩
    refine zbcQ_runs ?_
    refine stp ?_
    refine O.cutOwn k ho0 (by omega) ?_ (fun v' ho' hb' => ?_)
    · rw [e1]
      intro m hm
      exact bnd_at' (by omega)
    have hnq : p ≠ q := fun e => (hv q rfl).2 e.symm
    obtain ⟨a3, c3, rfl, _, _⟩ := id ho'.rd
    refine stp ?_
    refine ⟨by simpa using hp, ⟨_, by rw [Heap.get_set, if_pos rfl], ?_, fun i hi => hv i ((hb' i).1 hi)⟩, h1, by simp; omega, h3.set fun _ => h1, fun e he => h8 e (List.mem_of_mem_take he)⟩
    have ek : pcells ((l.take k).map LE.b) = (pcells (l.map LE.b)).take (k * 1) := by rw [Nat.mul_one]; simp [pcells, List.map_take]
    rw [ek, List.length_take, Nat.min_eq_left (by omega)]
    exact ho'.keep (Fr.refl.set (S := fun i => i = p) fun _ => rfl) fun b hb e => (hv b ((hb' b).1 hb)).2 e
set_option maxHeartbeats 4000000 in
theorem lPush_ok {p m : Nat} {x y z : Int} {T : Nat → Prop} {hb h : Heap} {l : List LE} {e : LE} (hs : LSt p m x y z T hb h l) (hl : l.length < 100000) (he : e.b < hb.n ∧ ¬ T e.b ∧ hb.get e.b = .cells e.cells 0) (hT : ∀ i, hb.n ≤ i → T i) :
    MRuns Try.prog T0 87 (.pointer (some ⟨p, 3, none⟩)) "Push" [.iface 74 (.pointer (some ⟨e.b, 0, none⟩))] h (fun r h' => LSt p m x y z T hb h' (l ++ [e])) := by
  obtain ⟨hp, ⟨v, hg, ho, hv⟩, h1, h2, h3, h8⟩ := id hs
  haveI : HGet h p _ := ⟨hg⟩
  haveI : BLt p h := ⟨hp⟩
  refine ⟨fn_zccQ, _, methodOf_ptr (by kernel_rfl) (by kernel_rfl : Try.prog.underlying 87 = some (.pointer 62)), ?_⟩
  have n3 := h3.n
  obtain ⟨a0, c0, rfl, _, _⟩ := id ho.rd
  refine zccQ_runs ?_
  refine stp ?_
  refine D.oneS ?_
  have F0 : Fr (fun _ => False) h (h.push (.cells [.pointer (some ⟨e.b, 0, none⟩)] 0)) := Fr.refl.push
  refine D.appendC (ho.keep F0 fun _ _ => id) one_ptr rfl rfl (by omega) (by omega) (by omega) (fun v' h' q1 q2 q3 => ⟨StabL.ok, ?_⟩)
  have n2 := q2.n
  simp only [Heap.n_push] at n2 q3
  have g2 : h'.get p = .cells (mcells x y z (.slice a0 l.length c0) m) 0 := by rw [q2.get _ (by simp; omega) (fun e => (hv p e).2 rfl), F0.get _ hp id]; exact hg
  haveI : HGet h' p _ := ⟨g2⟩
  obtain ⟨a, c, rfl, _, _⟩ := id q1.rd
  refine stp ?_
  have hnew : ∀ i, ownedBy (.slice a (l.length + 1) c) i → T i ∧ i ≠ p := fun i hi => by
    rcases q3 i hi with h4 | h4
    · exact hv i h4
    · exact ⟨hT i (by omega), by omega⟩
  have ep : pcells (l.map LE.b) ++ [.pointer (some ⟨e.b, 0, none⟩)] = pcells ((l ++ [e]).map LE.b) := by simp [pcells]
  refine ⟨by simp; omega, ⟨_, by rw [Heap.get_set, if_pos rfl], ?_, hnew⟩, h1, by simp; omega, ((h3.trans' (F0.mono fun _ _ e => e.elim)).trans' (q2.mono fun i _ hi => (hv i hi).1)).set fun _ => h1, fun f hf => ?_⟩
  · rw [← ep, List.length_append, List.length_singleton]
    exact q1.keep (Fr.refl.set (S := fun i => i = p) fun _ => rfl) fun i hi e => (hnew i hi).2 e
  · rcases List.mem_append.1 hf with hf | hf
    · exact h8 f hf
    · rw [List.mem_singleton.1 hf]; exact he
theorem eq_ptr {h : Heap} {a b : Nat} {c d : List Value} (ha : h.get a = .cells c 0) (hb : h.get b = .cells d 0) (hc : c ≠ []) (hd : d ≠ []) : EqV h .ptr (.pointer (some ⟨a, 0, none⟩)) (.pointer (some ⟨b, 0, none⟩)) (decide (a = b)) := ⟨by
  have h1 : alive h ⟨a, 0, none⟩ = true := by
    unfold alive
    rw [ha]
    cases c with
    | nil => exact absurd rfl hc
    | cons _ _ => rfl
  have h2 : alive h ⟨b, 0, none⟩ = true := by
    unfold alive
    rw [hb]
    cases d with
    | nil => exact absurd rfl hd
    | cons _ _ => rfl
  show (if alive h ⟨a, 0, none⟩ && alive h ⟨b, 0, none⟩ then some ((a == b) && ((0 : Nat) == 0)) else none) = some (decide (a = b))
  rw [h1, h2]
  have e : (a == b) = decide (a = b) := by rw [Bool.eq_iff_iff]; simp
  rw [e]
  simp⟩
def HasC (h : Heap) (b : Nat) : Prop := ∃ c, h.get b = .cells c 0 ∧ c ≠ []
set_option maxHeartbeats 4000000 in
theorem Index_ok {h : Heap} {v : Value} {S : List Nat} {i : Nat} (hv : Rd h 1 v (pcells S) S.length) (hl : S.length < 100000) (hi : i < S.length) (hf : ∀ k, k < i → at' S k ≠ at' S i) (hc : ∀ e ∈ S, HasC h e) :
    Runs Try.prog T0 (.fn fn_zkcQ) [v, .pointer (some ⟨at' S i, 0, none⟩)] h (fun r h' => r = .int .i64 i ∧ h' = h) (fun _ _ => False) := by
  obtain ⟨a, cap, rfl, hlen, hcx⟩ := hv
  obtain ⟨b, o, sp, rfl, hb, hcc⟩ := hcx (by omega)
  refine zkcQ_runs ?_
  refine stp ?_
  refine loop1 zkcQ_l0_M 8 (fun q v8 hx => ∃ k : Nat, k ≤ i ∧ q = i - k ∧ v8 = .int .i64 k ∧ hx = h) ?_ i ⟨0, by omega, rfl, rfl, rfl⟩
  rintro m v8 h' x4 x5 x9 x10 x11 x12 x13 x14 x15 x16 x17 x18 ⟨k, hk, rfl, rfl, rfl⟩
  have hat : ∀ {k : Nat}, k < S.length → Cell h' b (o + k) (.pointer (some ⟨at' S k, 0, none⟩)) := fun hk => pcell_at hcc rfl hk
  haveI := hat (show k < S.length by omega)
  haveI g1 : ∀ {ts : List Value} {h : Heap} {O : Oper} {x z : Operand} [Ev ts x (.int .i64 (k : Nat))] [Ev ts z (.int .i64 (S.length : Nat))], XOp Try.prog ts h (.bin .lss O x z) (.bool true) h := xlss1 (by omega)
  obtain ⟨c1, e1, n1⟩ := hc _ (at_mem hi)
  obtain ⟨c2, e2, n2⟩ := hc _ (at_mem (show k < S.length by omega))
  haveI := eq_ptr e1 e2 n1 n2
  refine stp ?_
  refine C.if (fun h1 => ?_) (fun h1 => ?_)
  · refine stp ?_
    have : k = i := by
      rcases Nat.lt_or_eq_of_le hk with e | e
      · exact absurd h1.symm (hf k e)
      · exact e
    rw [this]
    exact ⟨rfl, rfl⟩
  · refine stp ?_
    have : k ≠ i := fun e => h1 (by rw [e])
    exact loop1a 8 (i - (k + 1)) (by omega) ⟨k + 1, by omega, rfl, rfl, rfl⟩
end Go.Proofs.Ytoadcfjkkoemdaa.A

namespace Go.Proofs.Ytoadcfjkkoemdaa.A
open Go Go.Vm
set_option maxRecDepth 10000
set_option linter.unusedVariables false
abbrev LE.ent (e : LE) : Ent := ⟨e.id, .pointer (some ⟨e.b, 0, none⟩), e.t⟩
structure LE.At (h : Heap) (e : LE) : Prop where
  lt : e.b < h.n
  get : h.get e.b = .cells e.cells 0
  own : Own h 1 e.w (bcells e.bs) e.bs.length
def LE.mine (e : LE) (i : Nat) : Prop := i = e.b ∨ ownedBy e.w i
theorem LE.At.keep {S : Nat → Prop} {h h' : Heap} {e : LE} (he : e.At h) (hf : Fr S h h') (hs : ∀ i, e.mine i → ¬ S i) : e.At h' :=
  ⟨hf.lt he.lt, by rw [hf.get _ he.lt (hs _ (.inl rfl))]; exact he.get, he.own.keep hf fun i hi => hs i (.inr hi)⟩
theorem LE.At.mlt {h : Heap} {e : LE} (he : e.At h) {i : Nat} (hi : e.mine i) : i < h.n := by
  rcases hi with rfl | hi
  · exact he.lt
  · exact he.own.lt hi
structure MAt (h : Heap) (p m c : Nat) (x y z : Int) (u : Value) (S l : List LE) : Prop where
  pl : p < h.n
  ml : m < h.n
  pm : p ≠ m
  gp : h.get p = .cells (mcells x y z u m) 0
  gm : h.get m = .map (ents (l.map LE.ent)) c
  ok : EntsOK (l.map LE.ent) c
  pe : S.Perm l
  hp : HeapP ltL 0 S.length S
  ou : Own h 1 u (pcells (S.map LE.b)) S.length
  ats : ∀ e ∈ l, e.At h
  su : ∀ i, ownedBy u i → i ≠ p ∧ i ≠ m
  sp : ∀ e ∈ l, ∀ i, e.mine i → i ≠ p ∧ i ≠ m ∧ ¬ ownedBy u i
  nd : (l.map LE.b).Nodup
  sv : ∀ e ∈ l, ∀ e' ∈ l, ¬ ownedBy e.w e'.b
  dj : ∀ e ∈ l, ∀ e' ∈ l, e.b ≠ e'.b → ∀ i, ownedBy e.w i → ¬ ownedBy e'.w i
def MW (p m : Nat) (u : Value) (i : Nat) : Prop := i = p ∨ i = m ∨ ownedBy u i
def MMine (p m : Nat) (u : Value) (l : List LE) (i : Nat) : Prop := MW p m u i ∨ ∃ e ∈ l, e.mine i
section
variable {h h' : Heap} {p m c : Nat} {x y z : Int} {u : Value} {S l : List LE}
theorem MAt.keep {T : Nat → Prop} (hs : MAt h p m c x y z u S l) (hf : Fr T h h') (hn : ∀ i, MMine p m u l i → ¬ T i) : MAt h' p m c x y z u S l :=
  ⟨hf.lt hs.pl, hf.lt hs.ml, hs.pm, by rw [hf.get _ hs.pl (hn _ (.inl (.inl rfl)))]; exact hs.gp, by rw [hf.get _ hs.ml (hn _ (.inl (.inr (.inl rfl))))]; exact hs.gm, hs.ok, hs.pe, hs.hp,
    hs.ou.keep hf fun i hi => hn i (.inl (.inr (.inr hi))), fun e he => (hs.ats e he).keep hf fun i hi => hn i (.inr ⟨e, he, hi⟩), hs.su, hs.sp, hs.nd, hs.sv, hs.dj⟩
theorem MAt.mlt (hs : MAt h p m c x y z u S l) {i : Nat} (hi : MMine p m u l i) : i < h.n := by
  rcases hi with (rfl | rfl | hi) | ⟨e, he, hi⟩
  · exact hs.pl
  · exact hs.ml
  · exact hs.ou.lt hi
  · exact (hs.ats e he).mlt hi
theorem MAt.ids (hs : MAt h p m c x y z u S l) : (l.map LE.id).Nodup := by have := hs.ok.k; rw [List.map_map] at this; exact this
theorem nodup_inj {α β : Type} {f : α → β} {l : List α} (h : (l.map f).Nodup) {a b : α} (ha : a ∈ l) (hb : b ∈ l) (e : f a = f b) : a = b := by
  induction l with
  | nil => simp at ha
  | cons x l ih =>
    simp only [List.map_cons, List.nodup_cons] at h
    rcases List.mem_cons.1 ha with h1 | h1 <;> rcases List.mem_cons.1 hb with h2 | h2
    · rw [h1, h2]
    · subst h1; exact absurd (List.mem_map.2 ⟨b, h2, e.symm⟩) h.1
    · subst h2; exact absurd (List.mem_map.2 ⟨a, h1, e⟩) h.1
    · exact ih h.2 h1 h2
def lessL (k : Int) (l : List LE) : List LE := l.filter fun s => !decide (s.id = k)
def dueL (k d : Int) (l : List LE) : List LE := l.map fun s => if s.id = k then { s with due := d } else s
theorem less_perm {e : LE} {S' : List LE} (hn : (l.map LE.id).Nodup) (hp : (e :: S').Perm l) : S'.Perm (lessL e.id l) := by
  have hn2 : ((e :: S').map LE.id).Nodup := ((hp.map LE.id).nodup_iff).2 hn
  rw [List.map_cons, List.nodup_cons] at hn2
  have h1 : (lessL e.id (e :: S')) = S' := by
    unfold lessL
    rw [List.filter_cons]
    have : (!decide (e.id = e.id)) = false := by simp
    rw [this, if_neg (by decide)]
    refine List.filter_eq_self.2 fun s hs => ?_
    simp only [Bool.not_eq_true', decide_eq_false_iff_not]
    exact fun q => hn2.1 (List.mem_map.2 ⟨s, hs, q⟩)
  have h2 := hp.filter fun s => !decide (s.id = e.id)
  have h3 : (lessL e.id (e :: S')).Perm (lessL e.id l) := h2
  rw [h1] at h3
  exact h3
theorem set_due {e : LE} {d : Int} {i : Nat} (hn : (S.map LE.id).Nodup) (hi : i < S.length) (he : at' S i = e) : S.set i { e with due := d } = dueL e.id d S := by
  have e0 : at' S i = S[i] := by simp only [at', List.getD_eq_getElem?_getD, List.getElem?_eq_getElem hi, Option.getD_some]
  unfold dueL
  refine List.ext_getElem (by simp) fun j h3 h4 => ?_
  rw [List.getElem_set, List.getElem_map]
  rw [List.length_set] at h3
  by_cases hij : i = j
  · subst hij
    rw [if_pos rfl, ← e0, he, if_pos rfl]
  · rw [if_neg hij, if_neg]
    intro hk
    have h5 := List.pairwise_iff_getElem.1 hn
    have hid : e.id = S[i].id := by rw [← e0, he]
    have hk := hk.trans hid
    rcases Nat.lt_or_gt_of_ne hij with h6 | h6
    · exact h5 i j (by simpa using hi) (by simpa using h3) h6 (by simpa using hk.symm)
    · exact h5 j i (by simpa using h3) (by simpa using hi) h6 (by simpa using hk)
theorem mem_at {α : Type} [Inhabited α] {l : List α} {a : α} (h : a ∈ l) : ∃ i, i < l.length ∧ at' l i = a := by
  obtain ⟨i, hi, rfl⟩ := List.getElem_of_mem h
  exact ⟨i, hi, by simp only [at', List.getD_eq_getElem?_getD, List.getElem?_eq_getElem hi, Option.getD_some]⟩
theorem at_ne {α β : Type} [Inhabited α] {f : α → β} {l : List α} (hn : (l.map f).Nodup) {i k : Nat} (hi : i < l.length) (hk : k < i) : f (at' l k) ≠ f (at' l i) := by
  have e0 : at' l i = l[i] := by simp only [at', List.getD_eq_getElem?_getD, List.getElem?_eq_getElem hi, Option.getD_some]
  have e1 : at' l k = l[k]'(by omega) := by simp only [at', List.getD_eq_getElem?_getD, List.getElem?_eq_getElem (show k < l.length by omega), Option.getD_some]
  rw [e0, e1]
  have := List.pairwise_iff_getElem.1 hn k i (by simp; omega) (by simpa using hi) hk
  simpa using this
theorem MAt.index (hs : MAt h p m c x y z u S l) {e : LE} (he : e ∈ l) (hl : l.length < 100000) : ∃ i, i < S.length ∧ at' S i = e ∧ ∀ {h' : Heap}, Rd h' 1 u (pcells (S.map LE.b)) S.length → (∀ f ∈ S, HasC h' f.b) →
    Runs Try.prog T0 (.fn fn_zkcQ) [u, .pointer (some ⟨e.b, 0, none⟩)] h' (fun r h'' => r = .int .i64 i ∧ h'' = h') (fun _ _ => False) := by
  obtain ⟨i, hi, hei⟩ := mem_at (hs.pe.mem_iff.2 he)
  have hn : (S.map LE.b).Nodup := ((hs.pe.map LE.b).nodup_iff).2 hs.nd
  have hml : (S.map LE.b).length = S.length := List.length_map _
  have hsl := hs.pe.length_eq
  refine ⟨i, hi, hei, fun {h'} hr hc => ?_⟩
  have := Index_ok (h := h') (v := u) (S := S.map LE.b) (i := i) (by rw [hml]; exact hr) (by omega) (by omega) (fun k hk => by
    rw [at_map LE.b (by omega), at_map LE.b hi]
    exact at_ne hn hi hk) (fun b hb => by
    obtain ⟨f, hf, rfl⟩ := List.mem_map.1 hb
    exact hc f hf)
  rw [at_map LE.b hi, hei] at this
  exact this
set_option maxHeartbeats 8000000 in
theorem gone_ok {e : LE} (hs : MAt h p m c x y z u S l) (he : e ∈ l) (hl : l.length < 100000) :
    Runs Try.prog T0 (.fn fn_zqbQ) [.pointer (some ⟨p, 0, none⟩), .pointer (some ⟨e.b, 0, none⟩)] h
      (fun r h' => r = .int .i64 0 ∧ ∃ u' S', MAt h' p m c x y z u' S' (lessL e.id l) ∧ Fr (MW p m u) h h' ∧ ∀ i, ownedBy u' i → ownedBy u i ∨ h.n ≤ i) (fun _ _ => False) := by
  have hea := hs.ats e he
  have hsl := hs.pe.length_eq
  obtain ⟨i, hi, hei, hix⟩ := hs.index he hl
  haveI : HGet h p _ := ⟨hs.gp⟩
  haveI : HGet h m _ := ⟨hs.gm⟩
  haveI : HGet h e.b _ := ⟨hea.get⟩
  haveI : BNe p m := ⟨hs.pm⟩
  haveI : BNe m p := ⟨fun q => hs.pm q.symm⟩
  refine zqbQ_runs ?_
  refine stp ?_
  refine D.one0 (k := XOp.deleteYes (l := l.map LE.ent) (c := c) (e := e.ent) (List.mem_map.2 ⟨e, he, rfl⟩) hs.ok rfl) rfl ?_
  have e3 : (l.map LE.ent).filter (fun x => !decide (x.k = e.ent.k)) = (lessL e.id l).map LE.ent := by unfold lessL; rw [List.filter_map]; rfl
  have fm : Fr (fun i => i = m) h (h.set m (.map (ents ((lessL e.id l).map LE.ent)) c)) := Fr.refl.set fun _ => rfl
  have gm1 : (h.set m (.map (ents ((lessL e.id l).map LE.ent)) c)).get m = .map (ents ((lessL e.id l).map LE.ent)) c := by rw [Heap.get_set, if_pos rfl]
  have nm : (h.set m (.map (ents ((lessL e.id l).map LE.ent)) c)).n = h.n := rfl
  rw [e3]
  generalize h.set m (.map (ents ((lessL e.id l).map LE.ent)) c) = h1 at *
  have gp1 : h1.get p = _ := (fm.get _ hs.pl hs.pm).trans hs.gp
  have ou1 := hs.ou.keep fm fun j hj => (hs.su j hj).2
  have ats1 : ∀ f ∈ l, f.At h1 := fun f hf => (hs.ats f hf).keep fm fun j hj => (hs.sp f hf j hj).2.1
  have hst : LSt p m x y z (fun i => i = p ∨ ownedBy u i ∨ h1.n ≤ i) h1 h1 S := ⟨fm.lt hs.pl, ⟨u, gp1, ou1, fun j hj => ⟨.inr (.inl hj), (hs.su j hj).1⟩⟩, .inl rfl, by omega, Fr.refl, fun f hf => by
    have hf := hs.pe.mem_iff.1 hf
    have h2 := hs.sp f hf f.b (.inl rfl)
    have h3 := (ats1 f hf).lt
    exact ⟨h3, fun q => Or.elim q h2.1 fun q => q.elim h2.2.2 fun q => by omega, (ats1 f hf).get⟩⟩
  obtain ⟨au, cu, rfl, _, _⟩ := id hs.ou.rd
  haveI : HGet h1 p _ := ⟨gp1⟩
  refine stp ?_
  refine D.callX (hix ou1.rd fun f hf => ⟨_, (ats1 f (hs.pe.mem_iff.1 hf)).get, by simp⟩) (fun r g hr => ?_) (fun r g hr => ?_) (fun _ _ hx => hx.elim)
  · obtain ⟨rfl, rfl⟩ := hr
    exact StabL.ok
  obtain ⟨rfl, rfl⟩ := hr
  refine stp ?_
  obtain ⟨r1, r2, r3, r4⟩ := rem_spec ltL_ord hs.hp hi
  refine D.callX (hRemove_ok letters_heap hst hi (R := fun r hx => LSt p m x y z (fun i => i = p ∨ ownedBy (.slice au S.length cu) i ∨ g.n ≤ i) g hx ((remF ltL S i).take (S.length - 1))) (fun hx h2 => by
    have h3 := lPop_ok h2 (by omega)
    rw [r1] at h3
    exact h3)) (fun r g hr => rfl) (fun r h2 hr => ?_) (fun _ _ hx => hx.elim)
  refine stp ?_
  obtain ⟨q1, ⟨u', q2, q3, q4⟩, q5, q6, q7, q8⟩ := hr
  have n7 := q7.n
  refine ⟨rfl, u', _, ⟨q1, q7.lt (fm.lt hs.ml), hs.pm, q2, ?_, ?_, ?_, ?_, q3, fun f hf => ?_, fun j hj => ⟨(q4 j hj).2, fun q => ?_⟩, fun f hf j hj => ?_, hs.nd.sublist ((List.filter_sublist).map _), fun f hf f' hf' => hs.sv f (List.mem_filter.1 hf).1 f' (List.mem_filter.1 hf').1, fun f hf f' hf' => hs.dj f (List.mem_filter.1 hf).1 f' (List.mem_filter.1 hf').1⟩, ?_, fun j hj => ?_⟩
  · rw [q7.get _ (fm.lt hs.ml) (fun q => Or.elim q (fun q => hs.pm q.symm) fun q => q.elim (fun q => (hs.su m q).2 rfl) fun q => by have := fm.lt hs.ml; omega)]
    exact gm1
  · rw [← e3]; exact hs.ok.filter _
  · refine less_perm hs.ids (List.Perm.trans ?_ hs.pe)
    rw [← hei]
    exact r3
  · rw [List.length_take, r1, Nat.min_eq_left (by omega)]
    exact r4
  · have hf := (List.mem_filter.1 hf).1
    refine (ats1 f hf).keep q7 fun j hj => ?_
    have h2 := hs.sp f hf j hj
    have h3 := (ats1 f hf).mlt hj
    exact fun q => Or.elim q h2.1 fun q => q.elim h2.2.2 fun q => by omega
  · have := (q4 j hj).1
    rcases this with e1 | e1 | e1
    · exact hs.pm (by rw [← e1, q])
    · exact (hs.su j e1).2 q
    · have := hs.ml; omega
  · have hf := (List.mem_filter.1 hf).1
    have h2 := hs.sp f hf j hj
    have h3 := (ats1 f hf).mlt hj
    refine ⟨h2.1, h2.2.1, fun q => ?_⟩
    rcases (q4 j q).1 with e1 | e1 | e1
    · exact h2.1 e1
    · exact h2.2.2 e1
    · omega
  · refine (fm.mono fun j _ q => .inr (.inl q)).trans q7 fun j hj q => ?_
    rcases q with q | q | q
    · exact .inl q
    · exact .inr (.inr q)
    · omega
  · rcases (q4 j hj).1 with e1 | e1 | e1
    · exact absurd e1 (q4 j hj).2
    · exact .inl e1
    · exact .inr (by omega)
end
end Go.Proofs.Ytoadcfjkkoemdaa.A

namespace Go.Proofs.Ytoadcfjkkoemdaa.A
open Go Go.Vm
set_option maxRecDepth 10000
set_option linter.unusedVariables false
section
variable {h h' : Heap} {p m c : Nat} {x y z : Int} {u : Value} {S l : List LE}
theorem due_ents (k d : Int) (l : List LE) : (dueL k d l).map LE.ent = l.map LE.ent := by
  unfold dueL
  rw [List.map_map]
  refine List.map_congr_left fun s _ => ?_
  show (if s.id = k then { s with due := d } else s : LE).ent = s.ent
  split <;> rfl
theorem due_bs (k d : Int) (l : List LE) : (dueL k d l).map LE.b = l.map LE.b := by
  unfold dueL
  rw [List.map_map]
  refine List.map_congr_left fun s _ => ?_
  show (if s.id = k then { s with due := d } else s : LE).b = s.b
  split <;> rfl
theorem due_mem {k d : Int} {l : List LE} {f : LE} (hf : f ∈ dueL k d l) : ∃ s ∈ l, f.b = s.b ∧ f.w = s.w ∧ f.bs = s.bs ∧ (s.id = k ∧ f = { s with due := d } ∨ s.id ≠ k ∧ f = s) := by
  obtain ⟨s, hs, rfl⟩ := List.mem_map.1 hf
  refine ⟨s, hs, ?_⟩
  by_cases hk : s.id = k
  · rw [if_pos hk]
    exact ⟨rfl, rfl, rfl, .inl ⟨hk, rfl⟩⟩
  · rw [if_neg hk]
    exact ⟨rfl, rfl, rfl, .inr ⟨hk, rfl⟩⟩
theorem due_len (k d : Int) (l : List LE) : (dueL k d l).length = l.length := List.length_map _
set_option maxHeartbeats 8000000 in
theorem moved_ok {e : LE} {d : Int} (hs : MAt h p m c x y z u S l) (he : e ∈ l) (hl : l.length < 100000) :
    Runs Try.prog T0 (.fn fn_zsbQ) [.pointer (some ⟨p, 0, none⟩), .pointer (some ⟨e.b, 0, none⟩), .int .i64 d] h
      (fun r h' => ∃ u' S', MAt h' p m c x y z u' S' (dueL e.id d l) ∧ Fr (fun i => MW p m u i ∨ i = e.b) h h' ∧ ∀ i, ownedBy u' i → ownedBy u i ∨ h.n ≤ i) (fun _ _ => False) := by
  have hea := hs.ats e he
  have hsl := hs.pe.length_eq
  obtain ⟨i, hi, hei, hix⟩ := hs.index he hl
  haveI : HGet h p _ := ⟨hs.gp⟩
  haveI : HGet h e.b _ := ⟨hea.get⟩
  have hne := hs.sp e he e.b (.inl rfl)
  haveI : BNe p e.b := ⟨fun q => hne.1 q.symm⟩
  haveI : BNe e.b p := ⟨hne.1⟩
  refine zsbQ_runs ?_
  have hew : ∀ {v : Value}, e.w = v → e.cells = lcells e.id e.fr e.to e.due v := fun q => by rw [← q]
  obtain ⟨aw, cw, ew, _, _⟩ := id hea.own.rd
  refine stp ?_
  have fm : Fr (fun i => i = e.b) h (h.set e.b (.cells (lcells e.id e.fr e.to d e.w) 0)) := Fr.refl.set fun _ => rfl
  have ge1 : (h.set e.b (.cells (lcells e.id e.fr e.to d e.w) 0)).get e.b = .cells (lcells e.id e.fr e.to d e.w) 0 := by rw [Heap.get_set, if_pos rfl]
  have nm : (h.set e.b (.cells (lcells e.id e.fr e.to d e.w) 0)).n = h.n := rfl
  generalize h.set e.b (.cells (lcells e.id e.fr e.to d e.w) 0) = h1 at *
  have gp1 : h1.get p = _ := (fm.get _ hs.pl (fun q => hne.1 q.symm)).trans hs.gp
  have gm1 : h1.get m = _ := (fm.get _ hs.ml (fun q => hne.2.1 q.symm)).trans hs.gm
  have ou1 := hs.ou.keep fm fun j hj q => hne.2.2 (by rw [← q]; exact hj)
  have hids : (S.map LE.id).Nodup := ((hs.pe.map LE.id).nodup_iff).2 hs.ids
  have hset := set_due (d := d) hids hi hei
  have ats1 : ∀ f ∈ dueL e.id d l, f.At h1 := fun f hf => by
    obtain ⟨s, hs2, b1, b2, b3, hc⟩ := due_mem hf
    have hsa := hs.ats s hs2
    have hown : Own h1 1 s.w (bcells s.bs) s.bs.length := hsa.own.keep fm fun j hj q => hs.sv s hs2 e he (by rw [← q]; exact hj)
    refine ⟨by rw [b1]; exact fm.lt hsa.lt, ?_, by rw [b2, b3]; exact hown⟩
    rcases hc with ⟨hk, hf⟩ | ⟨hk, hf⟩
    · have hse : s = e := nodup_inj hs.ids hs2 he hk
      subst hf
      subst hse
      exact ge1
    · subst hf
      rw [fm.get _ hsa.lt (fun q => hk (congrArg LE.id (nodup_inj hs.nd hs2 he q)))]
      exact hsa.get
  have hpe1 : (dueL e.id d S).Perm (dueL e.id d l) := hs.pe.map _
  have hst : LSt p m x y z (fun i => i = p ∨ ownedBy u i ∨ h1.n ≤ i) h1 h1 (dueL e.id d S) := ⟨fm.lt hs.pl, ⟨u, gp1, by rw [due_bs, due_len]; exact ou1, fun j hj => ⟨.inr (.inl hj), (hs.su j hj).1⟩⟩, .inl rfl, by rw [due_len]; omega, Fr.refl, fun f hf => by
    have hf := hpe1.mem_iff.1 hf
    obtain ⟨s, hs2, b1, _⟩ := due_mem hf
    have h2 := hs.sp s hs2 s.b (.inl rfl)
    have h3 := (ats1 f hf).lt
    rw [← b1] at h2
    exact ⟨h3, fun q => Or.elim q h2.1 fun q => q.elim h2.2.2 fun q => by omega, (ats1 f hf).get⟩⟩
  obtain ⟨au, cu, rfl, _, _⟩ := id hs.ou.rd
  haveI : HGet h1 p _ := ⟨gp1⟩
  refine stp ?_
  refine D.callX (hix ou1.rd fun f hf => by
    have hf := hs.pe.mem_iff.1 hf
    by_cases hk : f.id = e.id
    · rw [nodup_inj hs.ids hf he hk]
      exact ⟨_, ge1, by simp⟩
    · exact ⟨_, (fm.get _ (hs.ats f hf).lt (fun q => hk (congrArg LE.id (nodup_inj hs.nd hf he q)))).trans (hs.ats f hf).get, by simp⟩) (fun r g hr => ?_) (fun r g hr => ?_) (fun _ _ hx => hx.elim)
  · obtain ⟨rfl, rfl⟩ := hr
    exact StabL.ok
  obtain ⟨rfl, rfl⟩ := hr
  refine stp ?_
  obtain ⟨r1, r2, r3⟩ := fix_spec ltL_ord (y := { e with due := d }) hs.hp hi
  rw [hset] at r1 r2 r3
  refine D.callX (hFix_ok letters_heap hst (by rw [due_len]; exact hi)) (fun r g hr => rfl) (fun r h2 hr => ?_) (fun _ _ hx => hx.elim)
  refine stp ?_
  obtain ⟨q1, ⟨u', q2, q3, q4⟩, q5, q6, q7, q8⟩ := hr
  have n7 := q7.n
  have hml1 := fm.lt hs.ml
  refine ⟨u', _, ⟨q1, q7.lt hml1, hs.pm, q2, ?_, by rw [due_ents]; exact hs.ok, r2.trans hpe1, by rw [r1]; exact r3, q3, fun f hf => ?_, fun j hj => ⟨(q4 j hj).2, fun q => ?_⟩, fun f hf j hj => ?_, by rw [due_bs]; exact hs.nd, fun f hf f' hf' => ?_, fun f hf f' hf' hne2 i => ?_⟩, ?_, fun j hj => ?_⟩
  · rw [q7.get _ hml1 (fun q => Or.elim q (fun q => hs.pm q.symm) fun q => q.elim (fun q => (hs.su m q).2 rfl) fun q => by omega), due_ents]
    exact gm1
  · obtain ⟨s, hs2, b1, b2, _⟩ := due_mem hf
    refine (ats1 f hf).keep q7 fun j hj => ?_
    have h3 := (ats1 f hf).mlt hj
    have hj : s.mine j := by
      rcases hj with hj | hj
      · exact .inl (by rw [hj, b1])
      · exact .inr (by rw [← b2]; exact hj)
    have h2 := hs.sp s hs2 j hj
    exact fun q => Or.elim q h2.1 fun q => q.elim h2.2.2 fun q => by omega
  · rcases (q4 j hj).1 with e1 | e1 | e1
    · exact hs.pm (by rw [← e1, q])
    · exact (hs.su j e1).2 q
    · omega
  · obtain ⟨s, hs2, b1, b2, _⟩ := due_mem hf
    have h3 := (ats1 f hf).mlt hj
    have hj : s.mine j := by
      rcases hj with hj | hj
      · exact .inl (by rw [hj, b1])
      · exact .inr (by rw [← b2]; exact hj)
    have h2 := hs.sp s hs2 j hj
    refine ⟨h2.1, h2.2.1, fun q => ?_⟩
    rcases (q4 j q).1 with e1 | e1 | e1
    · exact h2.1 e1
    · exact h2.2.2 e1
    · omega
  · obtain ⟨s, hs2, b1, b2, _⟩ := due_mem hf
    obtain ⟨s', hs2', b1', _⟩ := due_mem hf'
    rw [b2, b1']
    exact hs.sv s hs2 s' hs2'
  · obtain ⟨s, hs2, b1, b2, _⟩ := due_mem hf
    obtain ⟨s', hs2', b1', b2', _⟩ := due_mem hf'
    rw [b2, b2']
    exact hs.dj s hs2 s' hs2' (by rw [← b1, ← b1']; exact hne2) i
  · refine (fm.mono fun j _ q => .inr q).trans q7 fun j hj q => ?_
    rcases q with q | q | q
    · exact .inl (.inl q)
    · exact .inl (.inr (.inr q))
    · omega
  · rcases (q4 j hj).1 with e1 | e1 | e1
    · exact absurd e1 (q4 j hj).2
    · exact .inl e1
    · exact .inr (by omega)
set_option maxHeartbeats 8000000 in
theorem lay_ok {f t d i0 : Int} {v : Value} {bs : List UInt8} (hs : MAt h p m c x y z u S l) (hl : l.length < 100000) (hy : 0 ≤ y ∧ y < 1000000) (hid : ∀ e ∈ l, e.id ≤ y) (hv : Rd h 1 v (bcells bs) bs.length) (hbl : bs.length < 1048576) (hvp : ∀ i, blockOf v i → i ≠ p) :
    Runs Try.prog T0 (.fn fn_zrbQ) [.pointer (some ⟨p, 0, none⟩), .agg ⟨lcells i0 f t d v⟩] h
      (fun r h' => r = .int .i64 (y + 1) ∧ ∃ u' S' b w, MAt h' p m (c + 1) x (y + 1) z u' S' (l ++ [⟨b, c, y + 1, f, t, d, bs, w⟩]) ∧ Fr (MW p m u) h h' ∧ (∀ i, ownedBy u' i → ownedBy u i ∨ h.n ≤ i) ∧ h.n ≤ b ∧ ∀ i, ownedBy w i → h.n ≤ i) (fun _ _ => False) := by
  obtain ⟨a, cap, rfl, hlen, hc⟩ := id hv
  have hpl := hs.pl
  have hml := hs.ml
  have hne := hs.pm
  have hsl := hs.pe.length_eq
  haveI : HGet h p _ := ⟨hs.gp⟩
  haveI : BLt p h := ⟨hs.pl⟩
  refine zrbQ_runs ?_
  refine stp ?_
  generalize hv0 : Value.slice a bs.length cap = v at *
  haveI : CellsOf v [v] := by rw [← hv0]; infer_instance
  haveI : One1 v := by rw [← hv0]; infer_instance
  have F0 : Fr (fun i => i = p) h ((h.push (.cells (lcells i0 f t d v) 0)).set p (.cells (mcells x (y + 1) z u m) 0)) := Fr.refl.push.set fun _ => rfl
  have g0 : ((h.push (.cells (lcells i0 f t d v) 0)).set p (.cells (mcells x (y + 1) z u m) 0)).get h.n = .cells (lcells i0 f t d v) 0 := by rw [Heap.get_set, if_neg (by omega), Heap.get_push, if_pos rfl]
  have gp0 : ((h.push (.cells (lcells i0 f t d v) 0)).set p (.cells (mcells x (y + 1) z u m) 0)).get p = .cells (mcells x (y + 1) z u m) 0 := by rw [Heap.get_set, if_pos rfl]
  have n0 : ((h.push (.cells (lcells i0 f t d v) 0)).set p (.cells (mcells x (y + 1) z u m) 0)).n = h.n + 1 := rfl
  generalize (h.push (.cells (lcells i0 f t d v) 0)).set p (.cells (mcells x (y + 1) z u m) 0) = h0 at *
  have gm0 : h0.get m = _ := (F0.get _ hml (fun e => hne e.symm)).trans hs.gm
  have hrd0 : Rd h0 1 v (bcells bs) bs.length := hv.keep F0 fun i hi e => hvp i hi e
  haveI : HGet h0 p _ := ⟨gp0⟩
  haveI : HGet h0 h.n _ := ⟨g0⟩
  haveI : BLt h.n h0 := ⟨by omega⟩
  haveI : BLt p h0 := ⟨by omega⟩
  refine D.callX (Clone_ok hrd0 hbl) (fun r h1 hr => ?_) (fun r h1 hr => ?_) (fun _ _ hx => hx.elim)
  · obtain ⟨_, hf, _⟩ := hr
    haveI : HGet h1 p _ := hf.keep ⟨gp0⟩ (by omega) id
    exact StabL.ok
  obtain ⟨ow, f1, nw⟩ := hr
  have F1 := F0.trans' (f1.mono fun _ _ e => e.elim)
  haveI g1 : HGet h1 h.n _ := f1.keep ⟨g0⟩ (by omega) id
  haveI gp1 : HGet h1 p _ := f1.keep ⟨gp0⟩ (by omega) id
  haveI gm1 : HGet h1 m _ := f1.keep ⟨gm0⟩ (by omega) id
  have n1 := f1.n
  haveI : BLt h.n h1 := ⟨by omega⟩
  obtain ⟨a1, c1, rfl, _, _⟩ := id ow.rd
  haveI : BNe p h.n := ⟨by omega⟩
  haveI : BNe h.n p := ⟨by omega⟩
  haveI : BNe m h.n := ⟨by omega⟩
  haveI : BNe h.n m := ⟨by omega⟩
  refine stp ?_
  refine D.one0 (k := XOp.mapAdd (l := l.map LE.ent) (c := c) (r := m) ?_) rfl ?_
  · exact fun q hq => by
      obtain ⟨s, hs2, rfl⟩ := List.mem_map.1 hq
      have := hid s hs2
      show s.id ≠ y + 1
      omega
  refine stp ?_
  have F2 : ∀ {A B : AObj}, Fr (fun i => i = h.n ∨ i = m) h1 ((h1.set h.n A).set m B) := fun {A B} => (Fr.refl.set fun _ => .inl rfl).set fun _ => .inr rfl
  have ow2 : ∀ {A B : AObj}, Own ((h1.set h.n A).set m B) 1 (.slice a1 bs.length c1) (bcells bs) bs.length := fun {A B} => ow.keep F2 fun i hi e => by have := nw i hi; omega
  have gp2 : ∀ {A B : AObj}, ((h1.set h.n A).set m B).get p = .cells (mcells x (y + 1) z u m) 0 := fun {A B} => by rw [F2.get _ (by omega) (by omega)]; exact gp1.eq
  have g2 : ∀ {A B : AObj}, ((h1.set h.n A).set m B).get h.n = A := fun {A B} => by rw [Heap.get_set, if_neg (by omega), Heap.get_set, if_pos rfl]
  have gm2 : ∀ {A B : AObj}, ((h1.set h.n A).set m B).get m = B := fun {A B} => by rw [Heap.get_set, if_pos rfl]
  have n2 : ∀ {A B : AObj}, ((h1.set h.n A).set m B).n = h1.n := fun {A B} => rfl
  have F2' : Fr (fun i => i = h.n ∨ i = m) h1 ((h1.set h.n (.cells (lcells (y + 1) f t d (.slice a1 bs.length c1)) 0)).set m (.map (ents (l.map LE.ent ++ [⟨y + 1, .pointer (some ⟨h.n, 0, none⟩), c⟩])) (c + 1))) := F2
  have ow2' := ow2 (A := .cells (lcells (y + 1) f t d (.slice a1 bs.length c1)) 0) (B := .map (ents (l.map LE.ent ++ [⟨y + 1, .pointer (some ⟨h.n, 0, none⟩), c⟩])) (c + 1))
  have gp2' := gp2 (A := .cells (lcells (y + 1) f t d (.slice a1 bs.length c1)) 0) (B := .map (ents (l.map LE.ent ++ [⟨y + 1, .pointer (some ⟨h.n, 0, none⟩), c⟩])) (c + 1))
  have g2' := g2 (A := .cells (lcells (y + 1) f t d (.slice a1 bs.length c1)) 0) (B := .map (ents (l.map LE.ent ++ [⟨y + 1, .pointer (some ⟨h.n, 0, none⟩), c⟩])) (c + 1))
  have gm2' := gm2 (A := .cells (lcells (y + 1) f t d (.slice a1 bs.length c1)) 0) (B := .map (ents (l.map LE.ent ++ [⟨y + 1, .pointer (some ⟨h.n, 0, none⟩), c⟩])) (c + 1))
  have n2' := n2 (A := .cells (lcells (y + 1) f t d (.slice a1 bs.length c1)) 0) (B := .map (ents (l.map LE.ent ++ [⟨y + 1, .pointer (some ⟨h.n, 0, none⟩), c⟩])) (c + 1))
  clear F2 ow2 gp2 g2 gm2 n2
  generalize (h1.set h.n (.cells (lcells (y + 1) f t d (.slice a1 bs.length c1)) 0)).set m (.map (ents (l.map LE.ent ++ [⟨y + 1, .pointer (some ⟨h.n, 0, none⟩), c⟩])) (c + 1)) = h2 at *
  have hs1o : ∀ j, j < h.n → j ≠ p → j ≠ m → h2.get j = h.get j := fun j h3 h4 h5 => by
    rw [F2'.get _ (by omega) (by omega), F1.get _ h3 h4]
  have FF : Fr (fun i => i = p ∨ i = m) h h2 := (F1.mono fun _ _ e => .inl e).trans F2' fun i hi e => by omega
  obtain ⟨e, he⟩ : ∃ e : LE, e = ⟨h.n, c, y + 1, f, t, d, bs, .slice a1 bs.length c1⟩ := ⟨_, rfl⟩
  have hatl : ∀ s ∈ l, s.At h2 := fun s hs2 => (hs.ats s hs2).keep FF fun j hj q => by
    have := hs.sp s hs2 j hj
    exact q.elim this.1 this.2.1
  have hate : e.At h2 := by subst he; exact ⟨by show h.n < h2.n; omega, g2', ow2'⟩
  have hTl : ∀ s ∈ l, ¬ (s.b = p ∨ ownedBy u s.b ∨ h2.n ≤ s.b) := fun s hs2 q => by
    have h3 := hs.sp s hs2 s.b (.inl rfl)
    have h4 := (hs.ats s hs2).lt
    exact Or.elim q h3.1 fun q => q.elim h3.2.2 fun q => by omega
  have hTe : ¬ (e.b = p ∨ ownedBy u e.b ∨ h2.n ≤ e.b) := fun q => by
    subst he
    rcases q with q | q | q
    · have q : h.n = p := q; omega
    · exact Nat.lt_irrefl _ (hs.ou.lt q)
    · have q : h2.n ≤ h.n := q; omega
  have hst : LSt p m x (y + 1) z (fun i => i = p ∨ ownedBy u i ∨ h2.n ≤ i) h2 h2 S := ⟨by omega, ⟨u, gp2', hs.ou.keep FF (fun j hj q => by have := hs.su j hj; exact q.elim this.1 this.2), fun j hj => ⟨.inr (.inl hj), (hs.su j hj).1⟩⟩, .inl rfl, by omega, Fr.refl, fun s hs2 => by
    have hs2 := hs.pe.mem_iff.1 hs2
    exact ⟨(hatl s hs2).lt, hTl s hs2, (hatl s hs2).get⟩⟩
  refine O.call' (hPush_ok letters_heap (e := e) hst (by
    have := lPush_ok (e := e) hst (by omega) ⟨hate.lt, hTe, hate.get⟩ (fun i hi => .inr (.inr hi))
    subst he
    exact this)) (fun r h3 hr => ?_)
  obtain ⟨q1, ⟨u', q2, q3, q4⟩, q5, q6, q7, q8⟩ := hr
  have n7 := q7.n
  obtain ⟨r1, r2, r3⟩ := push_spec ltL_ord (x := e) hs.hp
  have hTm : ¬ (m = p ∨ ownedBy u m ∨ h2.n ≤ m) := fun q => Or.elim q (fun q => hne q.symm) fun q => q.elim (fun q => (hs.su m q).2 rfl) fun q => by omega
  have g4 := q7.get h.n (by omega) (by subst he; exact hTe)
  rw [g2'] at g4
  haveI : HGet h3 h.n _ := ⟨g4⟩
  refine stp ?_
  have hee : l.map LE.ent ++ [⟨y + 1, .pointer (some ⟨h.n, 0, none⟩), c⟩] = (l ++ [e]).map LE.ent := by rw [List.map_append]; subst he; rfl
  have hnew : ∀ j, e.mine j → h.n ≤ j := fun j hj => by
    subst he
    rcases hj with hj | hj
    · have hj : j = h.n := hj; omega
    · have := nw j hj; omega
  have hlt2 : ∀ j, e.mine j → j < h2.n := fun j hj => hate.mlt hj
  refine ⟨rfl, u', pushF ltL S e, h.n, .slice a1 bs.length c1, ?_, ?_, fun j hj => ?_, Nat.le_refl _, fun j hj => by have := nw j hj; omega⟩
  · rw [← he]
    have hmem : ∀ {s : LE}, s ∈ l ++ [e] → s ∈ l ∨ s = e := fun {s} hq => (List.mem_append.1 hq).imp id List.mem_singleton.1
    have hmine : ∀ s ∈ l ++ [e], ∀ j, s.mine j → j ≠ p ∧ j ≠ m ∧ ¬ ownedBy u j ∧ j < h2.n := fun s hq j hj => by
      rcases hmem hq with hq | hq
      · have h5 := hs.sp s hq j hj
        have h6 := (hs.ats s hq).mlt hj
        exact ⟨h5.1, h5.2.1, h5.2.2, by omega⟩
      · subst hq
        have h5 := hnew j hj
        exact ⟨by omega, by omega, fun q => by have := hs.ou.lt q; omega, hlt2 j hj⟩
    refine ⟨q1, q7.lt (by omega), hne, q2, by rw [q7.get _ (by omega) hTm, gm2', hee], ?_, r2.trans ((List.Perm.cons _ hs.pe).trans (List.perm_append_comm (l₁ := [e]))), by rw [r1]; exact r3, q3, fun s hq => ?_, fun j hj => ⟨(q4 j hj).2, fun q => ?_⟩, fun s hq j hj => ?_, ?_, fun s hq s' hq' => ?_, fun s hq s' hq' hne2 i q q' => ?_⟩
    · rw [← hee]
      exact hs.ok.add fun q hq => by
        obtain ⟨s, hs2, rfl⟩ := List.mem_map.1 hq
        have := hid s hs2
        show s.id ≠ y + 1
        omega
    · have hat : s.At h2 := (hmem hq).elim (hatl s) fun q => by rw [q]; exact hate
      refine hat.keep q7 fun j hj => ?_
      have h5 := hmine s hq j hj
      exact fun q => Or.elim q h5.1 fun q => q.elim h5.2.2.1 fun q => by omega
    · rcases (q4 j hj).1 with e1 | e1 | e1
      · exact hne (by rw [← e1, q])
      · exact (hs.su j e1).2 q
      · omega
    · have h5 := hmine s hq j hj
      refine ⟨h5.1, h5.2.1, fun q => ?_⟩
      rcases (q4 j q).1 with e1 | e1 | e1
      · exact h5.1 e1
      · exact h5.2.2.1 e1
      · omega
    · rw [List.map_append, List.nodup_append]
      refine ⟨hs.nd, by simp, fun i hi k hk => ?_⟩
      obtain ⟨s, hs2, rfl⟩ := List.mem_map.1 hi
      rw [List.map_singleton, List.mem_singleton] at hk
      have := (hs.ats s hs2).lt
      have := hnew e.b (.inl rfl)
      omega
    · rcases hmem hq with k1 | k1 <;> rcases hmem hq' with k2 | k2
      · exact hs.sv s k1 s' k2
      · intro q
        have h7 := (hs.ats s k1).own.lt q
        have h8 := hnew s'.b (.inl (by rw [k2]))
        omega
      · intro q
        have h7 := hnew s'.b (.inr (by rw [← k1]; exact q))
        have h8 := (hs.ats s' k2).lt
        omega
      · rw [k1, k2]
        subst he
        intro q
        have q := nw _ q
        have q : h0.n ≤ h.n := q
        omega
    · rcases hmem hq with k1 | k1 <;> rcases hmem hq' with k2 | k2
      · exact hs.dj s k1 s' k2 hne2 i q q'
      · have h7 := (hs.ats s k1).own.lt q
        have h8 := hnew i (.inr (by rw [← k2]; exact q'))
        omega
      · have h7 := hnew i (.inr (by rw [← k1]; exact q))
        have h8 := (hs.ats s' k2).own.lt q'
        omega
      · exact hne2 (by rw [k1, k2])
  · refine (FF.mono fun j _ q => q.elim .inl fun q => .inr (.inl q)).trans q7 fun j hj q => ?_
    rcases q with q | q | q
    · exact .inl q
    · exact .inr (.inr q)
    · omega
  · rcases (q4 j hj).1 with e1 | e1 | e1
    · exact absurd e1 (q4 j hj).2
    · exact .inl e1
    · exact .inr (by omega)
end
end Go.Proofs.Ytoadcfjkkoemdaa.A
