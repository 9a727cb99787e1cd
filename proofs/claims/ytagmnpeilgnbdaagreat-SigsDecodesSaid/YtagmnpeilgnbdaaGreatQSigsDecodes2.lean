/- Contracts of functions, over the machine. -/
import Derived.Test.YtagmnpeilgnbdaaGreatQSigsDecodes1
import Derived.Test.YtagmnpeilgnbdaaGreatVK
import Derived.Test.YtagmnpeilgnbdaaGreatVJ
set_option linter.unusedSimpArgs false
set_option linter.unusedSectionVars false
noncomputable section
namespace Go.Proofs.YtagmnpeilgnbdaaGreat.A
open Go Go.Vm
set_option maxRecDepth 10000
set_option linter.unusedVariables false
section
variable {P : Program} {ts : List Value} {h : Heap} {x y : Operand} {t t' ty : TypeId} {A : Bool} {l : List Value} {tl : List LK}
instance (priority := high) xnotT [e : Ev ts x (.bool true)] : XOp P ts h (.raw (so (.unOp .not t x) ty)) (.bool false) h := (XOp.notB (A := true) : XOp P ts h (.raw (so (.unOp .not t x) ty)) (.bool (!true)) h)
instance (priority := high) xnotF [e : Ev ts x (.bool false)] : XOp P ts h (.raw (so (.unOp .not t x) ty)) (.bool true) h := (XOp.notB (A := false) : XOp P ts h (.raw (so (.unOp .not t x) ty)) (.bool (!false)) h)
instance (priority := high) xneqF [i : IsBoolT P t] [e : Ev ts x (.bool A)] [e' : Ev ts y (.bool A)] : XOp P ts h (.bin .neq (so (.binOp .neq t x y t') ty) x y) (.bool false) h := by
  have := (XOp.neqB : XOp P ts h (.bin .neq (so (.binOp .neq t x y t') ty) x y) (.bool (!(A == A))) h)
  rw [beq_self_eq_true] at this
  exact this
instance (priority := high) xneqS [i : TLeaves P t tl] [e : Ev ts x (.agg ⟨l⟩)] [e' : Ev ts y (.agg ⟨l⟩)] [g : GrL l] [k : KL tl l] : XOp P ts h (.bin .neq (so (.binOp .neq t x y t') ty) x y) (.bool false) h := by
  have := (XOp.neqAgg : XOp P ts h (.bin .neq (so (.binOp .neq t x y t') ty) x y) (.bool (!same l l)) h)
  rw [same_self] at this
  exact this
theorem xneqI0 {p q : Int} {O : Oper} (hp : p = q) [e1 : Ev ts x (.int .i64 p)] [e2 : Ev ts y (.int .i64 q)] : XOp P ts h (.bin .neq O x y) (.bool false) h := by
  have := (XOp.neqI : XOp P ts h (.bin .neq O x y) (.bool (!decide (p = q))) h)
  rw [decide_eq_true hp] at this
  exact this
theorem xneqI1 {p q : Int} {O : Oper} (hp : p ≠ q) [e1 : Ev ts x (.int .i64 p)] [e2 : Ev ts y (.int .i64 q)] : XOp P ts h (.bin .neq O x y) (.bool true) h := by
  have := (XOp.neqI : XOp P ts h (.bin .neq O x y) (.bool (!decide (p = q))) h)
  rw [decide_eq_false hp] at this
  exact this
theorem xlss0 {p q : Int} {O : Oper} (hp : ¬ p < q) [e1 : Ev ts x (.int .i64 p)] [e2 : Ev ts y (.int .i64 q)] : XOp P ts h (.bin .lss O x y) (.bool false) h := by
  have := (XOp.lssI : XOp P ts h (.bin .lss O x y) (.bool (decide (p < q))) h)
  rw [decide_eq_false hp] at this
  exact this
theorem xgtr0 {p q : Int} {O : Oper} (hp : ¬ q < p) [e1 : Ev ts x (.int .i64 p)] [e2 : Ev ts y (.int .i64 q)] : XOp P ts h (.bin .gtr O x y) (.bool false) h := by
  have := (XOp.gtrI : XOp P ts h (.bin .gtr O x y) (.bool (decide (q < p))) h)
  rw [decide_eq_false hp] at this
  exact this
theorem xeql0 {p q : Int} {O : Oper} (hp : p ≠ q) [e1 : Ev ts x (.int .i64 p)] [e2 : Ev ts y (.int .i64 q)] : XOp P ts h (.bin .eql O x y) (.bool false) h := by
  have := (XOp.eqlI : XOp P ts h (.bin .eql O x y) (.bool (decide (p = q))) h)
  rw [decide_eq_false hp] at this
  exact this
theorem xeql1 {p q : Int} {O : Oper} (hp : p = q) [e1 : Ev ts x (.int .i64 p)] [e2 : Ev ts y (.int .i64 q)] : XOp P ts h (.bin .eql O x y) (.bool true) h := by
  have := (XOp.eqlI : XOp P ts h (.bin .eql O x y) (.bool (decide (p = q))) h)
  rw [decide_eq_true hp] at this
  exact this
end
end Go.Proofs.YtagmnpeilgnbdaaGreat.A

namespace Go.Proofs.YtagmnpeilgnbdaaGreat.A
open Go Go.Vm
set_option maxRecDepth 10000
set_option linter.unusedVariables false
set_option linter.unusedSimpArgs false
section
variable {P : Program} {ts : List Value} {h : Heap} {x y : Operand} {t t' ty : TypeId} {A : Bool}
instance (priority := high) xeqlT [i : IsBoolT P t] [e : Ev ts x (.bool A)] [e' : Ev ts y (.bool A)] : XOp P ts h (.bin .eql (so (.binOp .eql t x y t') ty) x y) (.bool true) h := by
  have := (XOp.eqlB : XOp P ts h (.bin .eql (so (.binOp .eql t x y t') ty) x y) (.bool (A == A)) h)
  rw [beq_self_eq_true] at this
  exact this
theorem xlss1 {p q : Int} {O : Oper} (hp : p < q) [e1 : Ev ts x (.int .i64 p)] [e2 : Ev ts y (.int .i64 q)] : XOp P ts h (.bin .lss O x y) (.bool true) h := by
  have := (XOp.lssI : XOp P ts h (.bin .lss O x y) (.bool (decide (p < q))) h)
  rw [decide_eq_true hp] at this
  exact this
theorem xgtr1 {p q : Int} {O : Oper} (hp : q < p) [e1 : Ev ts x (.int .i64 p)] [e2 : Ev ts y (.int .i64 q)] : XOp P ts h (.bin .gtr O x y) (.bool true) h := by
  have := (XOp.gtrI : XOp P ts h (.bin .gtr O x y) (.bool (decide (q < p))) h)
  rw [decide_eq_true hp] at this
  exact this
end
end Go.Proofs.YtagmnpeilgnbdaaGreat.A

namespace Go.Proofs.YtagmnpeilgnbdaaGreat.A
open Go Go.Vm
set_option maxRecDepth 10000
set_option linter.unusedVariables false
section
variable {α : Type} [Inhabited α] {lt : α → α → Bool}
abbrev at' (l : List α) (i : Nat) : α := l.getD i default
theorem at_set {l : List α} {i k : Nat} {x : α} (hi : i < l.length) : at' (l.set i x) k = if k = i then x else at' l k := by
  simp only [at', List.getD_eq_getElem?_getD, List.getElem?_set]
  by_cases h : i = k
  · subst h; simp [hi]
  · rw [if_neg h, if_neg (fun e => h e.symm)]
theorem at_mem {l : List α} {i : Nat} (hi : i < l.length) : at' l i ∈ l := by
  simp only [at', List.getD_eq_getElem?_getD, List.getElem?_eq_getElem hi, Option.getD_some]
  exact List.getElem_mem hi
def swp (l : List α) (i j : Nat) : List α := (l.set i (at' l j)).set j (at' l i)
theorem swp_len {l : List α} {i j : Nat} : (swp l i j).length = l.length := by simp [swp]
theorem swp_at {l : List α} {i j k : Nat} (hi : i < l.length) (hj : j < l.length) : at' (swp l i j) k = if k = j then at' l i else if k = i then at' l j else at' l k := by
  unfold swp
  rw [at_set (by simpa using hj), at_set hi]
theorem swp_perm {l : List α} {i j : Nat} (hi : i < l.length) (hj : j < l.length) : (swp l i j).Perm l := by
  classical
  rw [List.perm_iff_count]
  intro b
  have e1 : at' l i = l[i] := by simp only [at', List.getD_eq_getElem?_getD, List.getElem?_eq_getElem hi, Option.getD_some]
  have e2 : at' l j = l[j] := by simp only [at', List.getD_eq_getElem?_getD, List.getElem?_eq_getElem hj, Option.getD_some]
  unfold swp
  rw [e1, e2, List.count_set (by simpa using hj), List.count_set hi]
  have c1 : l[i] = b → 0 < l.count b := fun e => List.count_pos_iff.2 (by rw [← e]; exact List.getElem_mem hi)
  rw [List.getElem_set]
  by_cases h : i = j
  · subst h
    simp only [if_true]
    by_cases h1 : l[i] = b
    · have := c1 h1; simp only [h1, beq_self_eq_true, if_true]; omega
    · have : (l[i] == b) = false := by simpa using h1
      simp only [this]; simp
  · rw [if_neg h]
    by_cases h1 : l[i] = b <;> by_cases h2 : l[j] = b
    · have := c1 h1; simp only [h1, h2, beq_self_eq_true, if_true]; omega
    · have h2' : (l[j] == b) = false := by simpa using h2
      have := c1 h1
      simp only [h1, h2', beq_self_eq_true, if_true]; simp; omega
    · have h1' : (l[i] == b) = false := by simpa using h1
      simp only [h1', h2, beq_self_eq_true, if_true]; simp
    · have h1' : (l[i] == b) = false := by simpa using h1
      have h2' : (l[j] == b) = false := by simpa using h2
      simp only [h1', h2']; simp
structure Ord (lt : α → α → Bool) : Prop where
  asy : ∀ a b, lt a b = true → lt b a = false
  tr : ∀ a b c, lt b a = false → lt c b = false → lt c a = false
abbrev edge (lt : α → α → Bool) (l : List α) (k : Nat) : Prop := lt (at' l k) (at' l ((k - 1) / 2)) = false
def HeapP (lt : α → α → Bool) (lo n : Nat) (l : List α) : Prop := ∀ k, 0 < k → k < n → lo ≤ (k - 1) / 2 → edge lt l k
def kid (lt : α → α → Bool) (l : List α) (i n : Nat) : Nat := if 2 * i + 2 < n ∧ lt (at' l (2 * i + 2)) (at' l (2 * i + 1)) = true then 2 * i + 2 else 2 * i + 1
def downF (lt : α → α → Bool) : Nat → List α → Nat → Nat → List α × Nat
  | 0, l, i, _ => (l, i)
  | m + 1, l, i, n => if n ≤ 2 * i + 1 then (l, i) else if lt (at' l (kid lt l i n)) (at' l i) then downF lt m (swp l i (kid lt l i n)) (kid lt l i n) n else (l, i)
structure DInv (lt : α → α → Bool) (lo n i : Nat) (b : Prop) (l : List α) : Prop where
  a : ∀ k, 0 < k → k < n → lo ≤ (k - 1) / 2 → (k - 1) / 2 ≠ i → (k = i → b) → edge lt l k
  c : ∀ k, 0 < k → k < n → (k - 1) / 2 = i → 0 < i → lo ≤ (i - 1) / 2 → lt (at' l k) (at' l ((i - 1) / 2)) = false
theorem kid_lt {l : List α} {i n : Nat} (h : 2 * i + 1 < n) : kid lt l i n < n ∧ (kid lt l i n - 1) / 2 = i ∧ i < kid lt l i n := by
  unfold kid
  split
  · rename_i h1; exact ⟨h1.1, by omega, by omega⟩
  · exact ⟨h, by omega, by omega⟩
theorem kid_least (O : Ord lt) {l : List α} {i n k : Nat} (hk : k < n) (h0 : 0 < k) (hp : (k - 1) / 2 = i) : lt (at' l k) (at' l (kid lt l i n)) = false := by
  have hirr : ∀ a, lt a a = false := fun a => by
    cases h : lt a a with
    | false => rfl
    | true => rw [← O.asy a a h, h]
  unfold kid
  have : k = 2 * i + 1 ∨ k = 2 * i + 2 := by omega
  split
  · rename_i h1
    rcases this with rfl | rfl
    · exact O.asy _ _ h1.2
    · exact hirr _
  · rename_i h1
    rcases this with rfl | rfl
    · exact hirr _
    · have : ¬ lt (at' l (2 * i + 2)) (at' l (2 * i + 1)) = true := fun h => h1 ⟨hk, h⟩
      simpa using this
theorem DInv.step (O : Ord lt) {lo n i : Nat} {b : Prop} {l : List α} (h : DInv lt lo n i b l) (hl : n ≤ l.length) (hn : 2 * i + 1 < n) (hlo : lo ≤ i) (hlt : lt (at' l (kid lt l i n)) (at' l i) = true) : DInv lt lo n (kid lt l i n) True (swp l i (kid lt l i n)) := by
  obtain ⟨k1, k2, k3⟩ := kid_lt (lt := lt) (l := l) hn
  have hmin := fun {k : Nat} (a : k < n) (b : 0 < k) (c : (k - 1) / 2 = i) => kid_least O (l := l) a b c
  generalize kid lt l i n = j at *
  have ha := fun k => swp_at (l := l) (i := i) (j := j) (k := k) (by omega) (by omega)
  refine ⟨fun k h0 hk hlk hp _ => ?_, fun k h0 hk hp _ hlk => ?_⟩
  · show lt (at' (swp l i j) k) (at' (swp l i j) ((k - 1) / 2)) = false
    rw [ha, ha, if_neg hp]
    by_cases e1 : k = j
    · rw [if_pos e1, if_pos (by rw [e1]; exact k2)]
      exact O.asy _ _ hlt
    · rw [if_neg e1]
      by_cases e2 : k = i
      · rw [if_pos e2, if_neg (by omega), e2]
        exact h.c j (by omega) k1 k2 (by omega) (by rw [← e2]; exact hlk)
      · rw [if_neg e2]
        by_cases e3 : (k - 1) / 2 = i
        · rw [if_pos e3]
          exact hmin hk h0 e3
        · rw [if_neg e3]
          exact h.a k h0 hk hlk e3 fun e => absurd e e2
  · rw [ha, ha, k2, if_neg (by omega), if_neg (by omega), if_neg (by omega), if_pos rfl]
    have := h.a k h0 hk (by omega) (by omega) (fun e => by omega)
    show lt (at' l k) (at' l j) = false
    rw [← hp]
    exact this
theorem down_spec (O : Ord lt) : ∀ (m : Nat) (l : List α) (i n lo : Nat) (b : Prop), DInv lt lo n i b l → n ≤ l.length → lo ≤ i → n - i < m →
    (downF lt m l i n).1.length = l.length ∧ (downF lt m l i n).1.Perm l ∧ (∀ k, n ≤ k → at' (downF lt m l i n).1 k = at' l k) ∧ i ≤ (downF lt m l i n).2 ∧ ((downF lt m l i n).2 = i → (downF lt m l i n).1 = l) ∧
    (∀ k, 0 < k → k < n → lo ≤ (k - 1) / 2 → (k = i → b ∨ i < (downF lt m l i n).2) → edge lt (downF lt m l i n).1 k) := by
  intro m
  induction m with
  | zero => intro l i n lo b h hl hlo hm; omega
  | succ m ih =>
    intro l i n lo b h hl hlo hm
    unfold downF
    split
    · rename_i h1
      refine ⟨rfl, .refl _, fun _ _ => rfl, Nat.le_refl _, fun _ => rfl, fun k h0 hk hlk hb => ?_⟩
      exact h.a k h0 hk hlk (by omega) fun e => (hb e).elim id fun e => absurd e (Nat.lt_irrefl _)
    · rename_i h1
      have h1 : 2 * i + 1 < n := by omega
      obtain ⟨k1, k2, k3⟩ := kid_lt (lt := lt) (l := l) h1
      split
      · rename_i h2
        have h3 := h.step O hl h1 hlo h2
        have hk := ih (swp l i (kid lt l i n)) (kid lt l i n) n lo True h3 (by rw [swp_len]; exact hl) (by omega) (by omega)
        generalize kid lt l i n = j at *
        obtain ⟨a1, a2, a3, a4, a5, a6⟩ := hk
        refine ⟨by rw [a1, swp_len], a2.trans (swp_perm (by omega) (by omega)), fun k hk => ?_, by omega, fun e => by omega, fun k h0 hk hlk _ => a6 k h0 hk hlk fun _ => .inl trivial⟩
        rw [a3 k hk, swp_at (by omega) (by omega), if_neg (by omega), if_neg (by omega)]
      · rename_i h2
        refine ⟨rfl, .refl _, fun _ _ => rfl, Nat.le_refl _, fun _ => rfl, fun k h0 hk hlk hb => ?_⟩
        by_cases e : (k - 1) / 2 = i
        · have h4 : lt (at' l (kid lt l i n)) (at' l i) = false := by simpa using h2
          show lt (at' l k) (at' l ((k - 1) / 2)) = false
          rw [e]
          exact O.tr _ _ _ h4 (kid_least O hk h0 e)
        · exact h.a k h0 hk hlk e fun e => (hb e).elim id fun e => absurd e (Nat.lt_irrefl _)
structure UInv (lt : α → α → Bool) (n j : Nat) (l : List α) : Prop where
  a : ∀ k, 0 < k → k < n → k ≠ j → edge lt l k
  c : ∀ k, 0 < k → k < n → (k - 1) / 2 = j → 0 < j → lt (at' l k) (at' l ((j - 1) / 2)) = false
theorem UInv.step (O : Ord lt) {n j : Nat} {l : List α} (h : UInv lt n j l) (hl : n ≤ l.length) (hj : j < n) (h0 : 0 < j) (hlt : lt (at' l j) (at' l ((j - 1) / 2)) = true) : UInv lt n ((j - 1) / 2) (swp l ((j - 1) / 2) j) := by
  generalize hi : (j - 1) / 2 = i at *
  have ha := fun k => swp_at (l := l) (i := i) (j := j) (k := k) (by omega) (by omega)
  refine ⟨fun k h1 hk hne => ?_, fun k h1 hk hp h2 => ?_⟩
  · show lt (at' (swp l i j) k) (at' (swp l i j) ((k - 1) / 2)) = false
    rw [ha, ha]
    by_cases e1 : k = j
    · rw [if_pos e1, if_neg (by omega), if_pos (by rw [e1]; exact hi)]
      exact O.asy _ _ hlt
    · rw [if_neg e1, if_neg hne]
      by_cases e2 : (k - 1) / 2 = j
      · rw [if_pos e2]
        have := h.c k h1 hk e2 h0
        rw [hi] at this
        exact this
      · rw [if_neg e2]
        by_cases e3 : (k - 1) / 2 = i
        · rw [if_pos e3]
          have := h.a k h1 hk e1
          rw [edge, e3] at this
          exact O.tr _ _ _ (O.asy _ _ hlt) this
        · rw [if_neg e3]
          exact h.a k h1 hk e1
  · have h4 : lt (at' l i) (at' l ((i - 1) / 2)) = false := h.a i h2 (by omega) (by omega)
    rw [ha, ha, if_neg (by omega : (i - 1) / 2 ≠ j), if_neg (by omega : (i - 1) / 2 ≠ i)]
    by_cases e1 : k = j
    · rw [if_pos e1]; exact h4
    · rw [if_neg e1, if_neg (by omega)]
      have := h.a k h1 hk e1
      rw [edge, hp] at this
      exact O.tr _ _ _ h4 this
def initG (lt : α → α → Bool) : Nat → List α → List α
  | 0, l => l
  | i + 1, l => initG lt i (downF lt (l.length + 1) l i l.length).1
theorem initG_spec (O : Ord lt) : ∀ (i : Nat) (l : List α), HeapP lt i l.length l → (initG lt i l).length = l.length ∧ (initG lt i l).Perm l ∧ HeapP lt 0 l.length (initG lt i l) := by
  intro i
  induction i with
  | zero => intro l h; exact ⟨rfl, .refl _, h⟩
  | succ i ih =>
    intro l h
    unfold initG
    have hd : DInv lt i l.length i False l := ⟨fun k h0 hk hlk hp _ => h k h0 hk (by omega), fun k h0 hk hp hi hlo => by omega⟩
    obtain ⟨a1, a2, a3, a4, a5, a6⟩ := down_spec O (l.length + 1) l i l.length i False hd (Nat.le_refl _) (Nat.le_refl _) (by omega)
    generalize (downF lt (l.length + 1) l i l.length).2 = i2 at *
    generalize (downF lt (l.length + 1) l i l.length).1 = l2 at *
    obtain ⟨b1, b2, b3⟩ := ih l2 (fun k h0 hk hlk => a6 k h0 (by omega) hlk fun e => by omega)
    exact ⟨by omega, b2.trans a2, by rw [← a1]; exact b3⟩
end
end Go.Proofs.YtagmnpeilgnbdaaGreat.A

namespace Go.Proofs.YtagmnpeilgnbdaaGreat.A
open Go Go.Vm
set_option maxRecDepth 10000
set_option linter.unusedVariables false
def cutQ1 (m : List Nat) (ts : List Value) (ds : List Deferred) (rd : Option Nat) (e0 : Exit) (E : Value → Heap → Prop) (Q : QP) : QP := fun e s =>
  (e = e0 ∧ ∃ v h us, s = ⟨fillM m [v] us ts, ds, h, rd⟩ ∧ E v h) ∨ Q e s
def cutQ2 (m : List Nat) (ts : List Value) (ds : List Deferred) (rd : Option Nat) (e0 : Exit) (E : Value → Value → Heap → Prop) (Q : QP) : QP := fun e s =>
  (e = e0 ∧ ∃ v w h us, s = ⟨fillM m [v, w] us ts, ds, h, rd⟩ ∧ E v w h) ∨ Q e s
section
variable {P : Program} {T : Table} {c : ACode} {ts us : List Value} {ds : List Deferred} {h : Heap} {rd : Option Nat} {Q : QP} {m : List Nat} {e0 : Exit}
theorem cutQ1.out {E : Value → Heap → Prop} (i0 : Nat) {v : Value} [LGet us i0 v] (hE : E v h) (ha : fillM m [v] us ts = us := by rfl) : cutQ1 m ts ds rd e0 E Q e0 ⟨us, ds, h, rd⟩ :=
  .inl ⟨rfl, v, h, us, by rw [ha], hE⟩
theorem cutQ1.pass {E : Value → Heap → Prop} {e : Exit} {s : St} (hq : Q e s) : cutQ1 m ts ds rd e0 E Q e s := .inr hq
theorem cut1 (m : List Nat) (e0 : Exit) (E : Value → Heap → Prop) (hc : RunC P T c ⟨ts, ds, h, rd⟩ (cutQ1 m ts ds rd e0 E Q)) (hk : ∀ v h', allM m [v] ts fun l => E v h' → Q e0 ⟨l, ds, h', rd⟩) : RunC P T c ⟨ts, ds, h, rd⟩ Q :=
  hc.mono fun e s hq => by
    rcases hq with ⟨rfl, v, h', us, rfl, hE⟩ | hq
    · exact allM_fill (hk v h') us hE
    · exact hq
theorem cutQ2.out {E : Value → Value → Heap → Prop} (i0 i1 : Nat) {v w : Value} [LGet us i0 v] [LGet us i1 w] (hE : E v w h) (ha : fillM m [v, w] us ts = us := by rfl) : cutQ2 m ts ds rd e0 E Q e0 ⟨us, ds, h, rd⟩ :=
  .inl ⟨rfl, v, w, h, us, by rw [ha], hE⟩
theorem cutQ2.pass {E : Value → Value → Heap → Prop} {e : Exit} {s : St} (hq : Q e s) : cutQ2 m ts ds rd e0 E Q e s := .inr hq
theorem cut2 (m : List Nat) (e0 : Exit) (E : Value → Value → Heap → Prop) (hc : RunC P T c ⟨ts, ds, h, rd⟩ (cutQ2 m ts ds rd e0 E Q)) (hk : ∀ v w h', allM m [v, w] ts fun l => E v w h' → Q e0 ⟨l, ds, h', rd⟩) : RunC P T c ⟨ts, ds, h, rd⟩ Q :=
  hc.mono fun e s hq => by
    rcases hq with ⟨rfl, v, w, h', us, rfl, hE⟩ | hq
    · exact allM_fill (hk v w h') us hE
    · exact hq
end
end Go.Proofs.YtagmnpeilgnbdaaGreat.A

namespace Go.Proofs.YtagmnpeilgnbdaaGreat.A
open Go Go.Vm
set_option maxRecDepth 10000
set_option linter.unusedVariables false
section
variable {α : Type} [Inhabited α] {lt : α → α → Bool} {a b : Nat} {l m : List α}
inductive Sw (a b : Nat) : List α → List α → Prop
  | refl {l : List α} : Sw a b l l
  | swp {l m : List α} {i j : Nat} (h : Sw a b l m) (i1 : a ≤ i) (i2 : i < b) (j1 : a ≤ j) (j2 : j < b) : Sw a b l (swp m i j)
theorem Sw.len (h : Sw a b l m) : m.length = l.length := by
  induction h with
  | refl => rfl
  | swp h _ _ _ _ ih => rw [swp_len, ih]
theorem Sw.perm (hb : b ≤ l.length) (h : Sw a b l m) : m.Perm l := by
  induction h with
  | refl => exact .refl _
  | swp h i1 i2 j1 j2 ih =>
    have := h.len
    exact (swp_perm (by omega) (by omega)).trans ih
theorem Sw.out (hb : b ≤ l.length) (h : Sw a b l m) {k : Nat} (hk : k < a ∨ b ≤ k) : at' m k = at' l k := by
  induction h with
  | refl => rfl
  | swp h i1 i2 j1 j2 ih =>
    have := h.len
    rw [swp_at (by omega) (by omega), if_neg (by omega), if_neg (by omega)]
    exact ih
theorem Sw.inn (hb : b ≤ l.length) (h : Sw a b l m) : ∀ {k : Nat}, a ≤ k → k < b → ∃ k', a ≤ k' ∧ k' < b ∧ at' m k = at' l k' := by
  induction h with
  | refl => exact fun {k} h1 h2 => ⟨k, h1, h2, rfl⟩
  | swp h i1 i2 j1 j2 ih =>
    intro k h1 h2
    have := h.len
    rw [swp_at (by omega) (by omega)]
    split
    · exact ih i1 i2
    · split
      · exact ih j1 j2
      · exact ih h1 h2
theorem Sw.trans {n : List α} (h : Sw a b l m) (h2 : Sw a b m n) : Sw a b l n := by
  induction h2 with
  | refl => exact h
  | swp h2 i1 i2 j1 j2 ih => exact .swp ih i1 i2 j1 j2
theorem Sw.mono {a' b' : Nat} (h : Sw a b l m) (h1 : a' ≤ a) (h2 : b ≤ b') : Sw a' b' l m := by
  induction h with
  | refl => exact .refl
  | swp h i1 i2 j1 j2 ih => exact .swp ih (by omega) (by omega) (by omega) (by omega)
def Srt (lt : α → α → Bool) (a b : Nat) (l : List α) : Prop := ∀ p q, a ≤ p → p < q → q < b → lt (at' l q) (at' l p) = false
def Hole (lt : α → α → Bool) (a b j : Nat) (l : List α) : Prop := ∀ p q, a ≤ p → p < q → q < b → q ≠ j → lt (at' l q) (at' l p) = false
def CutP (lt : α → α → Bool) (a b c : Nat) (l : List α) : Prop := ∀ p q, a ≤ p → p < c → c ≤ q → q < b → lt (at' l q) (at' l p) = false
theorem Srt.one : Srt lt a (a + 1) l := fun p q h1 h2 h3 => by omega
theorem Srt.hole {i : Nat} (h : Srt lt a i l) : Hole lt a (i + 1) i l := fun p q h1 h2 h3 h4 => h p q h1 h2 (by omega)
theorem Hole.step (O : Ord lt) {j : Nat} (h : Hole lt a b j l) (hb : b ≤ l.length) (h1 : a < j) (h2 : j < b) (h3 : lt (at' l j) (at' l (j - 1)) = true) : Hole lt a b (j - 1) (swp l j (j - 1)) := by
  intro p q hp hpq hq hqj
  rw [swp_at (by omega) (by omega), swp_at (by omega) (by omega), if_neg hqj]
  by_cases e1 : q = j
  · rw [if_pos e1]
    by_cases e2 : p = j - 1
    · rw [if_pos e2]
      exact O.asy _ _ h3
    · rw [if_neg e2, if_neg (by omega)]
      exact h p (j - 1) hp (by omega) (by omega) (by omega)
  · rw [if_neg e1]
    by_cases e2 : p = j - 1
    · rw [if_pos e2]
      exact h j q (by omega) (by omega) hq e1
    · rw [if_neg e2]
      by_cases e3 : p = j
      · rw [if_pos e3]
        exact h (j - 1) q (by omega) (by omega) hq e1
      · rw [if_neg e3]
        exact h p q hp hpq hq e1
theorem Hole.done (O : Ord lt) {j : Nat} (h : Hole lt a b j l) (hd : j ≤ a ∨ lt (at' l j) (at' l (j - 1)) = false) : Srt lt a b l := by
  intro p q hp hpq hq
  by_cases e : q = j
  · subst e
    rcases hd with hd | hd
    · omega
    · by_cases e2 : p = q - 1
      · rw [e2]; exact hd
      · exact O.tr _ _ _ (h p (q - 1) hp (by omega) (by omega) (by omega)) hd
  · exact h p q hp hpq hq e
theorem Srt.ext (O : Ord lt) {i : Nat} (h : Srt lt a i l) (hi : a < i) (hd : lt (at' l i) (at' l (i - 1)) = false) : Srt lt a (i + 1) l := Hole.done O h.hole (.inr hd)
theorem Srt.sub {a' b' : Nat} (h : Srt lt a b l) (h1 : a ≤ a') (h2 : b' ≤ b) : Srt lt a' b' l := fun p q e1 e2 e3 => h p q (by omega) e2 (by omega)
theorem Srt.sw {x y : Nat} (h : Srt lt a b l) (hs : Sw x y l m) (hy : y ≤ l.length) (hd : b ≤ x ∨ y ≤ a) : Srt lt a b m := fun p q e1 e2 e3 => by
  rw [hs.out hy (by omega), hs.out hy (by omega)]
  exact h p q e1 e2 e3
theorem CutP.sw {x y c : Nat} (h : CutP lt a b c l) (hs : Sw x y l m) (hy : y ≤ l.length) (h1 : a ≤ x) (h2 : y ≤ b) (hd : y ≤ c ∨ c ≤ x) : CutP lt a b c m := fun p q e1 e2 e3 e4 => by
  have key : ∀ {k : Nat}, ∃ k', at' m k = at' l k' ∧ (k < c → k' < c) ∧ (c ≤ k → c ≤ k') ∧ (a ≤ k → a ≤ k') ∧ (k < b → k' < b) := fun {k} => by
    by_cases hk : x ≤ k ∧ k < y
    · obtain ⟨k', q1, q2, q3⟩ := hs.inn hy hk.1 hk.2
      exact ⟨k', q3, by omega, by omega, by omega, by omega⟩
    · exact ⟨k, hs.out hy (by omega), id, id, id, id⟩
  obtain ⟨p', f1, f2, f3, f4, f5⟩ := key (k := p)
  obtain ⟨q', g1, g2, g3, g4, g5⟩ := key (k := q)
  rw [f1, g1]
  exact h p' q' (f4 e1) (f2 e2) (g3 e3) (g5 e4)
theorem Srt.join {c : Nat} (h1 : Srt lt a c l) (h2 : Srt lt c b l) (h3 : CutP lt a b c l) : Srt lt a b l := fun p q e1 e2 e3 => by
  by_cases hq : q < c
  · exact h1 p q e1 e2 hq
  · by_cases hp : p < c
    · exact h3 p q e1 hp (by omega) e3
    · exact h2 p q (by omega) e2 e3
theorem cut_at {c : Nat} (O : Ord lt) (hc : c < b) (h1 : ∀ k, a ≤ k → k < c → lt (at' l c) (at' l k) = false) (h2 : ∀ k, c < k → k < b → lt (at' l k) (at' l c) = false) : CutP lt a b c l ∧ CutP lt a b (c + 1) l := by
  refine ⟨fun p q e1 e2 e3 e4 => ?_, fun p q e1 e2 e3 e4 => ?_⟩
  · by_cases e : q = c
    · rw [e]; exact h1 p e1 e2
    · exact O.tr _ _ _ (h1 p e1 e2) (h2 q (by omega) e4)
  · by_cases e : p = c
    · rw [e]; exact h2 q (by omega) e4
    · exact O.tr _ _ _ (h1 p e1 (by omega)) (h2 q (by omega) e4)
end
section
variable {α : Type} [Inhabited α] {lt : α → α → Bool} {a b : Nat} {l m : List α}
abbrev gtF (lt : α → α → Bool) : α → α → Bool := fun x y => lt y x
theorem Ord.gt (O : Ord lt) : Ord (gtF lt) := ⟨fun a b h => O.asy b a h, fun a b c h1 h2 => O.tr c b a h2 h1⟩
theorem Ord.irr (O : Ord lt) (x : α) : lt x x = false := by
  cases h : lt x x with
  | false => rfl
  | true => rw [← O.asy x x h, h]
theorem down_sw : ∀ (q : Nat) (l : List α) (i n : Nat), Sw 0 n l (downF lt q l i n).1
  | 0, _, _, _ => .refl
  | q + 1, l, i, n => by
    unfold downF
    split
    · exact .refl
    · rename_i h1
      have := kid_lt (lt := lt) (l := l) (i := i) (n := n) (by omega)
      split
      · exact Sw.trans (.swp .refl (by omega) (by omega) (by omega) (by omega)) (down_sw q _ _ _)
      · exact .refl
theorem initG_sw : ∀ (k : Nat) (l : List α), Sw 0 l.length l (initG lt k l)
  | 0, _ => .refl
  | k + 1, l => by
    unfold initG
    have h := down_sw (lt := lt) (l.length + 1) l k l.length
    have h2 := initG_sw k (downF lt (l.length + 1) l k l.length).1
    rw [h.len] at h2
    exact h.trans h2
theorem heap_root (O : Ord lt) {n : Nat} (h : HeapP lt 0 n l) (k : Nat) (hk : k < n) : lt (at' l k) (at' l 0) = false := by
  induction k using Nat.strongRecOn with
  | _ k ih =>
    by_cases h0 : k = 0
    · rw [h0]; exact O.irr _
    · exact O.tr _ _ _ (ih ((k - 1) / 2) (by omega) (by omega)) (h k (by omega) hk (by omega))
structure HS (lt : α → α → Bool) (n : Nat) (l : List α) : Prop where
  hp : HeapP (gtF lt) 0 n l
  so : Srt lt n l.length l
  cu : CutP lt 0 l.length n l
theorem HS.start (O : Ord lt) {k : Nat} (hk : l.length ≤ 2 * k) : HS lt l.length (initG (gtF lt) k l) := by
  obtain ⟨h1, h2, h3⟩ := initG_spec O.gt k l (fun j h0 hj hk2 => by omega)
  exact ⟨h3, fun p q e1 e2 e3 => by omega, fun p q e1 e2 e3 e4 => by omega⟩
theorem HS.step (O : Ord lt) {n q : Nat} (h : HS lt (n + 1) l) (hn : n + 1 ≤ l.length) (hq : n < q) : HS lt n (downF (gtF lt) q (swp l 0 n) 0 n).1 := by
  have hsw := fun k => swp_at (l := l) (i := 0) (j := n) (k := k) (by omega) (by omega)
  have hd : DInv (gtF lt) 0 n 0 True (swp l 0 n) := ⟨fun k h0 hk _ hp _ => by
    show gtF lt (at' (swp l 0 n) k) (at' (swp l 0 n) ((k - 1) / 2)) = false
    rw [hsw, hsw, if_neg (by omega), if_neg (by omega), if_neg (by omega), if_neg hp]
    exact h.hp k h0 (by omega) (by omega), fun k h0 hk hp hi => by omega⟩
  obtain ⟨a1, _, a3, _, _, a6⟩ := down_spec O.gt q (swp l 0 n) 0 n 0 True hd (by rw [swp_len]; omega) (by omega) (by omega)
  have hin := down_sw (lt := gtF lt) q (swp l 0 n) 0 n
  rw [swp_len] at a1
  generalize (downF (gtF lt) q (swp l 0 n) 0 n).1 = l2 at *
  have hroot := fun k hk => heap_root O.gt h.hp k hk
  have top : ∀ j, n ≤ j → at' l2 j = if j = n then at' l 0 else at' l j := fun j hj => by
    rw [a3 j hj, hsw]
    split
    · rfl
    · rename_i e
      by_cases e0 : j = 0
      · omega
      · rw [if_neg e0]
  refine ⟨fun k h0 hk hlk => a6 k h0 hk hlk fun _ => .inl trivial, fun p r e1 e2 e3 => ?_, fun p r e1 e2 e3 e4 => ?_⟩
  · rw [a1] at e3
    rw [top p e1, top r (by omega), if_neg (by omega)]
    split
    · exact h.cu 0 r (by omega) (by omega) (by omega) e3
    · exact h.so p r (by omega) e2 e3
  · rw [a1] at e4
    obtain ⟨p', _, p2, p3⟩ := hin.inn (by rw [swp_len]; omega) (k := p) (by omega) e2
    have p4 : ∃ p'', p'' < n + 1 ∧ at' l2 p = at' l p'' := by
      rw [p3, hsw, if_neg (by omega)]
      split
      · exact ⟨n, by omega, rfl⟩
      · exact ⟨p', by omega, rfl⟩
    obtain ⟨p'', p5, p6⟩ := p4
    rw [p6, top r e3]
    split
    · exact hroot p'' p5
    · exact h.cu p'' r (by omega) p5 (by omega) e4
theorem HS.done (h : HS lt 0 l) : Srt lt 0 l.length l := h.so
section
variable {pre s post : List α}
theorem part_at {k : Nat} (hk : k < s.length) : at' (pre ++ (s ++ post)) (pre.length + k) = at' s k := by
  simp only [at', List.getD_eq_getElem?_getD]
  rw [List.getElem?_append_right (by omega), show pre.length + k - pre.length = k from by omega, List.getElem?_append_left hk]
theorem set_part {k : Nat} {x : α} (hk : k < s.length) : (pre ++ (s ++ post)).set (pre.length + k) x = pre ++ (s.set k x ++ post) := by
  rw [List.set_append, if_neg (by omega), show pre.length + k - pre.length = k from by omega, List.set_append, if_pos hk]
theorem swp_part {i j : Nat} (hi : i < s.length) (hj : j < s.length) : swp (pre ++ (s ++ post)) (pre.length + i) (pre.length + j) = pre ++ (swp s i j ++ post) := by
  unfold swp
  rw [part_at hi, part_at hj, set_part hi, set_part (by simpa using hj)]
theorem Sw.part {n : Nat} {t : List α} (h : Sw 0 n s t) (hn : n ≤ s.length) : Sw pre.length (pre.length + n) (pre ++ (s ++ post)) (pre ++ (t ++ post)) := by
  induction h with
  | refl => exact .refl
  | swp h i1 i2 j1 j2 ih =>
    have := h.len
    rw [← swp_part (by omega) (by omega)]
    exact .swp ih (by omega) (by omega) (by omega) (by omega)
theorem Srt.part (h : Srt lt 0 s.length s) : Srt lt pre.length (pre.length + s.length) (pre ++ (s ++ post)) := fun p q e1 e2 e3 => by
  obtain ⟨p', rfl⟩ : ∃ p', p = pre.length + p' := ⟨p - pre.length, by omega⟩
  obtain ⟨q', rfl⟩ : ∃ q', q = pre.length + q' := ⟨q - pre.length, by omega⟩
  rw [part_at (by omega), part_at (by omega)]
  exact h p' q' (by omega) (by omega) (by omega)
theorem part_of {a b : Nat} (hab : a ≤ b) (hb : b ≤ l.length) : ∃ pre s post, l = pre ++ (s ++ post) ∧ pre.length = a ∧ s.length = b - a :=
  ⟨l.take a, (l.drop a).take (b - a), l.drop b, by
    rw [show l.drop b = (l.drop a).drop (b - a) from by rw [List.drop_drop]; congr 1; omega, List.take_append_drop, List.take_append_drop], by rw [List.length_take]; omega, by rw [List.length_take, List.length_drop]; omega⟩
end
end
section
variable {α : Type} [Inhabited α] {lt : α → α → Bool} {a b : Nat} {l m : List α}
structure PI (lt : α → α → Bool) (a b i j : Nat) (l : List α) : Prop where
  i0 : a < i
  j0 : j < b
  ij : i ≤ j + 1
  le : ∀ k, a < k → k < i → lt (at' l k) (at' l a) = true
  ge : ∀ k, j < k → k < b → lt (at' l k) (at' l a) = false
structure Part (lt : α → α → Bool) (a b c : Nat) (l : List α) : Prop where
  ac : a ≤ c
  cb : c < b
  le : ∀ k, a ≤ k → k < c → lt (at' l k) (at' l c) = true
  ge : ∀ k, c < k → k < b → lt (at' l k) (at' l c) = false
theorem PI.start (h : a < b) : PI lt a b (a + 1) (b - 1) l := ⟨by omega, by omega, by omega, fun k h1 h2 => by omega, fun k h1 h2 => by omega⟩
theorem PI.left {i j : Nat} (h : PI lt a b i j l) (hij : i ≤ j) (hl : lt (at' l i) (at' l a) = true) : PI lt a b (i + 1) j l :=
  ⟨by have := h.i0; omega, h.j0, by omega, fun k h1 h2 => by
    by_cases e : k = i
    · rw [e]; exact hl
    · exact h.le k h1 (by omega), h.ge⟩
theorem PI.right {i j : Nat} (h : PI lt a b i j l) (hij : i ≤ j) (hl : lt (at' l j) (at' l a) = false) : PI lt a b i (j - 1) l :=
  ⟨h.i0, by have := h.j0; omega, by have := h.i0; omega, h.le, fun k h1 h2 => by
    by_cases e : k = j
    · rw [e]; exact hl
    · exact h.ge k (by omega) h2⟩
theorem PI.change {i j : Nat} (h : PI lt a b i j l) (hb : b ≤ l.length) (hij : i ≤ j) (h1 : lt (at' l i) (at' l a) = false) (h2 : lt (at' l j) (at' l a) = true) : PI lt a b (i + 1) (j - 1) (swp l i j) ∧ i < j := by
  have hne : i ≠ j := fun e => by rw [e, h2] at h1; cases h1
  have hi := h.i0
  have hj := h.j0
  have hs := fun k => swp_at (l := l) (i := i) (j := j) (k := k) (by omega) (by omega)
  have ha : at' (swp l i j) a = at' l a := by rw [hs, if_neg (by omega), if_neg (by omega)]
  refine ⟨⟨by omega, by omega, by omega, fun k e1 e2 => ?_, fun k e1 e2 => ?_⟩, by omega⟩
  · rw [ha, hs, if_neg (by omega)]
    split
    · exact h2
    · exact h.le k e1 (by omega)
  · rw [ha, hs]
    split
    · exact h1
    · rw [if_neg (by omega)]
      exact h.ge k (by omega) e2
theorem PI.done {i j : Nat} (h : PI lt a b i j l) (hb : b ≤ l.length) (hij : j < i) : Part lt a b j (swp l j a) := by
  have hi := h.i0
  have hj := h.j0
  have hj2 := h.ij
  have hs := fun k => swp_at (l := l) (i := j) (j := a) (k := k) (by omega) (by omega)
  have hjv : at' (swp l j a) j = at' l a := by
    rw [hs]
    split
    · rename_i e; rw [e]
    · rw [if_pos rfl]
  refine ⟨by omega, hj, fun k e1 e2 => ?_, fun k e1 e2 => ?_⟩
  · rw [hjv, hs]
    split
    · exact h.le j (by omega) (by omega)
    · rw [if_neg (by omega)]
      exact h.le k (by omega) (by omega)
  · rw [hjv, hs, if_neg (by omega), if_neg (by omega)]
    exact h.ge k e1 e2
structure Dist (lt : α → α → Bool) (l : List α) : Prop where
  nd : l.Nodup
  tot : ∀ x ∈ l, ∀ y ∈ l, x ≠ y → lt x y = true ∨ lt y x = true
theorem Dist.perm (h : Dist lt l) (hp : m.Perm l) : Dist lt m := ⟨hp.nodup_iff.2 h.nd, fun x hx y hy => h.tot x (hp.mem_iff.1 hx) y (hp.mem_iff.1 hy)⟩
theorem Dist.ahead (h : Dist lt l) {p q : Nat} (hp : p < l.length) (hq : q < l.length) (hne : p ≠ q) (hf : lt (at' l q) (at' l p) = false) : lt (at' l p) (at' l q) = true := by
  have e : at' l p ≠ at' l q := fun e => by
    have e1 : at' l p = l[p] := by simp only [at', List.getD_eq_getElem?_getD, List.getElem?_eq_getElem hp, Option.getD_some]
    have e2 : at' l q = l[q] := by simp only [at', List.getD_eq_getElem?_getD, List.getElem?_eq_getElem hq, Option.getD_some]
    rw [e1, e2] at e
    rcases Nat.lt_or_gt_of_ne hne with h1 | h1
    · exact (List.pairwise_iff_getElem.1 h.nd p q hp hq h1) e
    · exact (List.pairwise_iff_getElem.1 h.nd q p hq hp h1) e.symm
  rcases h.tot _ (at_mem hp) _ (at_mem hq) e with h1 | h1
  · exact h1
  · rw [h1] at hf; cases hf
def LowP (lt : α → α → Bool) (a b : Nat) (l : List α) : Prop := 0 < a → ∀ k, a ≤ k → k < b → lt (at' l (a - 1)) (at' l k) = true
theorem LowP.sw (h : LowP lt a b l) (hs : Sw a b l m) (hb : b ≤ l.length) : LowP lt a b m := fun h0 k h1 h2 => by
  obtain ⟨k', q1, q2, q3⟩ := hs.inn hb h1 h2
  rw [q3, hs.out hb (by omega)]
  exact h h0 k' q1 q2
theorem LowP.sub {b' : Nat} (h : LowP lt a b l) (hb : b' ≤ b) : LowP lt a b' l := fun h0 k h1 h2 => h h0 k h1 (by omega)
theorem CutP.part {a0 b0 c : Nat} (ha : CutP lt a0 b0 a l) (hb : CutP lt a0 b0 b l) (h : CutP lt a b c l) (h1 : a ≤ c) (h2 : c ≤ b) : CutP lt a0 b0 c l := fun p q e1 e2 e3 e4 => by
  by_cases hp : p < a
  · exact ha p q e1 hp (by omega) e4
  · by_cases hq : b ≤ q
    · exact hb p q e1 (by omega) hq e4
    · exact h p q (by omega) e2 e3 (by omega)
structure PdI (lt : α → α → Bool) (a0 b0 a b : Nat) (l0 l : List α) : Prop where
  h0 : a0 ≤ a
  h1 : a ≤ b
  h2 : b ≤ b0
  sw : Sw a0 b0 l0 l
  sl : Srt lt a0 a l
  sr : Srt lt b b0 l
  ca : CutP lt a0 b0 a l
  cb : CutP lt a0 b0 b l
  lo : LowP lt a b l
theorem PdI.start {a b : Nat} {l : List α} (h : a ≤ b) (hl : LowP lt a b l) : PdI lt a b a b l l := ⟨by omega, h, by omega, .refl, fun p q e1 e2 e3 => by omega, fun p q e1 e2 e3 => by omega, fun p q e1 e2 e3 e4 => by omega, fun p q e1 e2 e3 e4 => by omega, hl⟩
theorem PdI.some {a0 b0 : Nat} {l0 : List α} (h : PdI lt a0 b0 a b l0 l) (hb : b0 ≤ l.length) (hs : Sw a b l m) : PdI lt a0 b0 a b l0 m := by
  have := h.h0; have := h.h1; have := h.h2
  exact ⟨h.h0, h.h1, h.h2, h.sw.trans (hs.mono h.h0 h.h2), h.sl.sw hs (by omega) (by omega), h.sr.sw hs (by omega) (by omega), h.ca.sw hs (by omega) h.h0 h.h2 (by omega), h.cb.sw hs (by omega) h.h0 h.h2 (by omega), h.lo.sw hs (by omega)⟩
theorem PdI.done {a0 b0 : Nat} {l0 : List α} (h : PdI lt a0 b0 a b l0 l) (hs : Srt lt a b l) : Srt lt a0 b0 l := by
  have := h.h0; have := h.h1; have := h.h2
  exact (h.sl.join hs fun p q e1 e2 e3 e4 => h.ca p q e1 e2 e3 (by omega)).join h.sr h.cb
theorem PdI.left (O : Ord lt) {a0 b0 c : Nat} {l0 : List α} (h : PdI lt a0 b0 a b l0 l) (hb : b0 ≤ l.length) (hd : Dist lt l) (hp : Part lt a b c l) (hs : Sw a c l m) (hm : Srt lt a c m) : PdI lt a0 b0 (c + 1) b l0 m := by
  have q0 := h.h0; have q1 := h.h1; have q2 := h.h2; have q3 := hp.ac; have q4 := hp.cb
  obtain ⟨k1, k2⟩ := cut_at O q4 (fun k e1 e2 => O.asy _ _ (hp.le k e1 e2)) hp.ge
  have c1 := CutP.part h.ca h.cb k1 (by omega) (by omega)
  have c2 := CutP.part h.ca h.cb k2 (by omega) (by omega)
  have c1 := c1.sw hs (by omega) (by omega) (by omega) (by omega)
  have c2 := c2.sw hs (by omega) (by omega) (by omega) (by omega)
  have ca := h.ca.sw hs (by omega) (by omega) (by omega) (by omega)
  have cb := h.cb.sw hs (by omega) (by omega) (by omega) (by omega)
  have sl := h.sl.sw hs (by omega) (by omega)
  have sr := h.sr.sw hs (by omega) (by omega)
  refine ⟨by omega, by omega, q2, h.sw.trans (hs.mono (by omega) (by omega)), ?_, sr, c2, cb, fun _ k e1 e2 => ?_⟩
  · exact (sl.join hm fun p q e1 e2 e3 e4 => ca p q e1 e2 e3 (by omega)).join Srt.one fun p q e1 e2 e3 e4 => c1 p q e1 e2 e3 (by omega)
  · rw [show c + 1 - 1 = c from rfl, hs.out (by omega) (by omega), hs.out (by omega) (by omega)]
    exact hd.ahead (by omega) (by omega) (by omega) (hp.ge k (by omega) e2)
theorem PdI.right (O : Ord lt) {a0 b0 c : Nat} {l0 : List α} (h : PdI lt a0 b0 a b l0 l) (hb : b0 ≤ l.length) (hp : Part lt a b c l) (hs : Sw (c + 1) b l m) (hm : Srt lt (c + 1) b m) : PdI lt a0 b0 a c l0 m := by
  have q0 := h.h0; have q1 := h.h1; have q2 := h.h2; have q3 := hp.ac; have q4 := hp.cb
  obtain ⟨k1, k2⟩ := cut_at O q4 (fun k e1 e2 => O.asy _ _ (hp.le k e1 e2)) hp.ge
  have c1 := CutP.part h.ca h.cb k1 (by omega) (by omega)
  have c2 := CutP.part h.ca h.cb k2 (by omega) (by omega)
  have c1 := c1.sw hs (by omega) (by omega) (by omega) (by omega)
  have c2 := c2.sw hs (by omega) (by omega) (by omega) (by omega)
  have ca := h.ca.sw hs (by omega) (by omega) (by omega) (by omega)
  have cb := h.cb.sw hs (by omega) (by omega) (by omega) (by omega)
  have sl := h.sl.sw hs (by omega) (by omega)
  have sr := h.sr.sw hs (by omega) (by omega)
  refine ⟨q0, by omega, by omega, h.sw.trans (hs.mono (by omega) (by omega)), sl, ?_, ca, c1, fun h0 k e1 e2 => ?_⟩
  · refine Srt.join (c := c + 1) Srt.one ?_ fun p q e1 e2 e3 e4 => c2 p q (by omega) e2 e3 (by omega)
    exact hm.join sr fun p q e1 e2 e3 e4 => cb p q (by omega) e2 e3 (by omega)
  · rw [hs.out (by omega) (by omega), hs.out (by omega) (by omega)]
    exact h.lo h0 k e1 (by omega)
theorem PdI.low {a0 b0 c : Nat} {l0 : List α} (h : PdI lt a0 b0 a b l0 l) (hb : b0 ≤ l.length) (hd : Dist lt l) (hp : Part lt a b c l) : LowP lt a c l ∧ LowP lt (c + 1) b l := by
  have q2 := h.h2; have q4 := hp.cb
  exact ⟨h.lo.sub (by omega), fun _ k e1 e2 => hd.ahead (by omega) (by omega) (by omega) (hp.ge k (by omega) e2)⟩
end
end Go.Proofs.YtagmnpeilgnbdaaGreat.A

namespace Go.Proofs.YtagmnpeilgnbdaaGreat.A
open Go Go.Vm
set_option maxRecDepth 10000
set_option linter.unusedVariables false
structure Sg where
  k0 : UInt8
  k1 : UInt8
  k2 : UInt8
  k3 : UInt8
  hash : List UInt8
  sg : Int
  hl : hash.length = 32
instance : Inhabited Sg := ⟨⟨0, 0, 0, 0, List.replicate 32 0, 0, rfl⟩⟩
abbrev Sg.key (s : Sg) : List UInt8 := [s.k0, s.k1, s.k2, s.k3]
def Sg.cells (s : Sg) : List Value := bcells s.key ++ (bcells s.hash ++ [.int .u64 s.sg])
theorem Sg.len (s : Sg) : s.cells.length = 37 := by
  unfold Sg.cells
  rw [List.length_append, List.length_append, bcells_len, bcells_len, s.hl]
  rfl
theorem Sg.ones (s : Sg) : s.cells.all Value.oneCell' = true := by
  unfold Sg.cells
  rw [List.all_append, List.all_append, bcells_one, bcells_one]
  rfl
instance {s : Sg} : LenN s.cells 37 := ⟨s.len⟩
instance {s : Sg} : One s.cells := ⟨s.ones⟩
def gcells (l : List Sg) : List Value := l.flatMap Sg.cells
theorem gcells_cons (s : Sg) (l : List Sg) : gcells (s :: l) = s.cells ++ gcells l := rfl
theorem gcells_append (l m : List Sg) : gcells (l ++ m) = gcells l ++ gcells m := by simp [gcells]
theorem gcells_len : ∀ l : List Sg, (gcells l).length = l.length * 37
  | [] => rfl
  | s :: l => by rw [gcells_cons, List.length_append, gcells_len l, s.len, List.length_cons]; omega
theorem gcells_one : ∀ l : List Sg, (gcells l).all Value.oneCell' = true
  | [] => rfl
  | s :: l => by rw [gcells_cons, List.all_append, s.ones, gcells_one l]; rfl
theorem over_zero : ∀ (b c xs : List Value), b.length = xs.length → over (b ++ c) 0 xs = xs ++ c
  | [], c, [], _ => by cases c <;> rfl
  | _ :: b, c, x :: xs, h => by
    show x :: over (b ++ c) 0 xs = x :: (xs ++ c)
    rw [over_zero b c xs (by simpa using h)]
theorem over_mid2 : ∀ (a b c : List Value) (k : Nat) (xs : List Value), a.length = k → b.length = xs.length → xs ≠ [] → over (a ++ (b ++ c)) k xs = a ++ (xs ++ c)
  | [], b, c, k, xs, ha, hb, _ => by
    subst ha
    exact over_zero b c xs hb
  | y :: a, b, c, 0, xs, ha, _, _ => by simp at ha
  | y :: a, b, c, k + 1, xs, ha, hb, hx => by
    have h1 := over_mid2 a b c k xs (by simpa using ha) hb hx
    cases xs with
    | nil => exact absurd rfl hx
    | cons x xs =>
      show y :: over (a ++ (b ++ c)) k (x :: xs) = y :: (a ++ (x :: xs ++ c))
      rw [h1]
theorem gsplit {l : List Sg} {i : Nat} (hi : i < l.length) : l = l.take i ++ at' l i :: l.drop (i + 1) := by
  have e : at' l i = l[i] := by simp only [at', List.getD_eq_getElem?_getD, List.getElem?_eq_getElem hi, Option.getD_some]
  rw [e, List.getElem_cons_drop, List.take_append_drop]
theorem gsub {l : List Sg} {j : List Value} {i : Nat} (hi : i < l.length) : Sub (gcells l ++ j) (i * 37) 37 (at' l i).cells := by
  have h1 : (gcells (l.take i)).length = i * 37 := by rw [gcells_len, List.length_take]; congr 1; omega
  refine ⟨by rw [List.length_append, gcells_len]; omega, ?_⟩
  have h2 : gcells l ++ j = gcells (l.take i) ++ ((at' l i).cells ++ (gcells (l.drop (i + 1)) ++ j)) := by
    conv => lhs; rw [gsplit hi]
    rw [gcells_append, gcells_cons]
    simp only [List.append_assoc]
  rw [h2, ← h1, List.drop_left]
  have h3 := (at' l i).len
  generalize (at' l i).cells = c at *
  rw [← h3, List.take_left]
theorem gover {l : List Sg} {j : List Value} {i : Nat} {x : Sg} (hi : i < l.length) : Over (gcells l ++ j) (i * 37) x.cells (gcells (l.set i x) ++ j) := by
  have h1 : (gcells (l.take i)).length = i * 37 := by rw [gcells_len, List.length_take]; congr 1; omega
  refine ⟨by rw [List.length_append, gcells_len, x.len]; omega, ?_⟩
  have h2 : gcells l ++ j = gcells (l.take i) ++ ((at' l i).cells ++ (gcells (l.drop (i + 1)) ++ j)) := by
    conv => lhs; rw [gsplit hi]
    rw [gcells_append, gcells_cons]
    simp only [List.append_assoc]
  rw [h2, over_mid2 _ _ _ _ _ h1 (by rw [(at' l i).len, x.len]) (fun e => by have := x.len; rw [e] at this; simp at this), List.set_eq_take_append_cons_drop, if_pos hi, gcells_append, gcells_cons]
  simp only [List.append_assoc]
end Go.Proofs.YtagmnpeilgnbdaaGreat.A

namespace Go.Proofs.YtagmnpeilgnbdaaGreat.A
open Go Go.Vm
set_option maxRecDepth 10000
set_option linter.unusedVariables false
structure PS (q n : Nat) (j : List Value) (G : Sg → Prop) (h0 h : Heap) (l : List Sg) : Prop where
  ln : l.length = n
  lt : q < h.n
  get : h.get q = .cells (gcells l ++ j) 37
  fr : Fr (fun i => i = q) h0 h
  gd : ∀ e ∈ l, G e
structure CmpI (lt : Sg → Sg → Bool) (fd : FuncId) (q : Nat) (G : Sg → Prop) (h0 : Heap) : Prop where
  run : ∀ {h : Heap} {x y : Sg}, Fr (fun i => i = q) h0 h → G x → G y → Runs Tryz.prog T0 (.fn fd) [.agg ⟨x.cells⟩, .agg ⟨y.cells⟩] h (fun r h' => (∃ c : Int, r = .int .i64 c ∧ (c < 0 ↔ lt x y = true)) ∧ Fr (fun _ => False) h h') (fun _ _ => False)
section
variable {lt : Sg → Sg → Bool} {fd : FuncId} {q n a b cap : Nat} {sp : Option Nat} {j : List Value} {G : Sg → Prop} {h0 h : Heap} {l m : List Sg}
theorem PS.keep {h' : Heap} (hs : PS q n j G h0 h l) (hf : Fr (fun _ => False) h h') : PS q n j G h0 h' l := ⟨hs.ln, hf.lt hs.lt, by rw [hf.get _ hs.lt id]; exact hs.get, hs.fr.trans' (hf.mono fun _ _ e => e.elim), hs.gd⟩
theorem PS.swp {x y : Nat} (hs : PS q n j G h0 h l) (hx : x < n) (hy : y < n) : PS q n j G h0 (h.set q (.cells (gcells (swp l x y) ++ j) 37)) (swp l x y) :=
  ⟨by rw [swp_len]; exact hs.ln, by simpa using hs.lt, by rw [Heap.get_set, if_pos rfl], hs.fr.set fun _ => rfl, fun e he => hs.gd e ((swp_perm (by rw [hs.ln]; exact hx) (by rw [hs.ln]; exact hy)).mem_iff.1 he)⟩
theorem PS.cmp {x y : Nat} (hs : PS q n j G h0 h l) (H : CmpI lt fd q G h0) (hx : x < n) (hy : y < n) :
    Runs Tryz.prog T0 (.fn fd) [.agg ⟨(at' l x).cells⟩, .agg ⟨(at' l y).cells⟩] h (fun r h' => (∃ c : Int, r = .int .i64 c ∧ (c < 0 ↔ lt (at' l x) (at' l y) = true)) ∧ PS q n j G h0 h' l) (fun _ _ => False) :=
  (H.run hs.fr (hs.gd _ (at_mem (by rw [hs.ln]; exact hx))) (hs.gd _ (at_mem (by rw [hs.ln]; exact hy)))).mono (fun r h' ⟨h1, h2⟩ => ⟨h1, hs.keep h2⟩) fun _ _ h => h
theorem not_true {p : Bool} {c : Int} (h : c < 0 ↔ p = true) (hc : ¬ c < 0) : p = false := by
  cases p with
  | false => rfl
  | true => exact absurd (h.2 rfl) hc
theorem PS.ov {x y : Nat} (hs : PS q n j G h0 h l) (hx : x < n) (hy : y < n) : HGet h q (.cells (gcells l ++ j) 37) ∧ Sub (gcells l ++ j) (x * 37) 37 (at' l x).cells ∧ Sub (gcells l ++ j) (y * 37) 37 (at' l y).cells ∧
    Over (gcells l ++ j) (x * 37) (at' l y).cells (gcells (l.set x (at' l y)) ++ j) ∧ Over (gcells (l.set x (at' l y)) ++ j) (y * 37) (at' l x).cells (gcells (Go.Proofs.YtagmnpeilgnbdaaGreat.A.swp l x y) ++ j) := by
  have := hs.ln
  exact ⟨⟨hs.get⟩, gsub (by omega), gsub (by omega), gover (by omega), gover (by simp; omega)⟩
set_option maxHeartbeats 4000000 in
theorem reverse_ok (hs : PS q n j G h0 h l) (hab : a ≤ b) (hb : b ≤ n) (hn : n < 100000) :
    Runs Tryz.prog T0 (.fn fn_zvcQ) [.slice (some ⟨q, 0, sp⟩) n cap, .int .i64 a, .int .i64 b, .func (.func fd) ⟨[]⟩ ⟨[]⟩] h (fun _ h' => ∃ m, PS q n j G h0 h' m ∧ Sw a b l m) (fun _ _ => False) := by
  refine zvcQ_runs ?_
  refine stp ?_
  refine loop2 zvcQ_l0_M 8 9 (fun k v4 v5 hx => ∃ (x y : Nat) (m : List Sg), v4 = .int .i64 x ∧ v5 = .int .i64 ((y : Int) - 1) ∧ k = y - x ∧ a ≤ x ∧ y ≤ b ∧ PS q n j G h0 hx m ∧ Sw a b l m) ?_ (b - a) ⟨a, b, l, rfl, rfl, rfl, by omega, by omega, hs, .refl⟩
  rintro m v8 v9 h' x13 x14 x15 x16 x17 x18 x19 x20 x21 x22 x23 x24 x25 x26 x27 x28 x29 x30 x31 x32 x33 ⟨x, y, u, rfl, rfl, rfl, hx, hy, hs, hw⟩
  refine stp ?_
  refine C.if (fun hlt => ?_) (fun hge => ?_)
  · haveI : IdxOff 0 ((y : Int) - 1) 37 ((y - 1) * 37) := ⟨by omega⟩
    obtain ⟨i0, i1, i2, i3, i4⟩ := hs.ov (x := x) (y := y - 1) (by omega) (by omega)
    refine stp ?_
    refine D.one0 StabL.ok ?_
    refine stp ?_
    exact loop2a 8 9 (y - 1 - (x + 1)) (by omega) ⟨x + 1, y - 1, _, rfl, by congr 1; omega, rfl, by omega, by omega, hs.swp (x := x) (y := y - 1) (by omega) (by omega), .swp hw (by omega) (by omega) (by omega) (by omega)⟩
  · refine stp ?_
    exact ⟨u, hs, hw⟩
set_option maxHeartbeats 8000000 in
theorem insertion_ok (H : CmpI lt fd q G h0) (oo : Ord lt) (hs : PS q n j G h0 h l) (hab : a ≤ b) (hb : b ≤ n) (hn : n < 100000) :
    Runs Tryz.prog T0 (.fn fn_zmcQ) [.slice (some ⟨q, 0, sp⟩) n cap, .int .i64 a, .int .i64 b, .func (.func fd) ⟨[]⟩ ⟨[]⟩] h (fun _ h' => ∃ m, PS q n j G h0 h' m ∧ Sw a b l m ∧ Srt lt a b m) (fun _ _ => False) := by
  refine zmcQ_runs ?_
  refine stp ?_
  rw [show ((a : Int) + 1) = ((a + 1 : Nat) : Int) from rfl]
  refine loop1 zmcQ_l1_M 8 (fun k v8 hx => ∃ (i : Nat) (u : List Sg), v8 = .int .i64 i ∧ k = b - i ∧ a < i ∧ PS q n j G h0 hx u ∧ Sw a b l u ∧ (i ≤ b ∨ i = a + 1) ∧ Srt lt a i u) ?_ (b - (a + 1)) ⟨a + 1, l, rfl, rfl, by omega, hs, .refl, .inr rfl, Srt.one⟩
  rintro m v8 h' x9 x12 x13 x14 x15 x16 x17 x18 x19 x20 x21 x22 x23 x24 x25 x26 x27 x28 x29 x30 x31 x32 x33 x34 x35 x36 x37 x38 x39 x40 x41 x42 x43 x44 x45 x46 x47 x48 x49 x50 x51 x52 ⟨i, u, rfl, rfl, hi, hs, hw, hib, hso⟩
  refine stp ?_
  refine C.if (fun hlt => ?_) (fun hge => ?_)
  · refine stp ?_
    refine loop1 zmcQ_l0_M 9 (fun k v9 hx => ∃ (y : Nat) (u : List Sg), v9 = .int .i64 y ∧ k = y ∧ a ≤ y ∧ y ≤ i ∧ PS q n j G h0 hx u ∧ Sw a b l u ∧ Hole lt a (i + 1) y u) ?_ i ⟨i, u, rfl, rfl, by omega, by omega, hs, hw, hso.hole⟩
    clear hs hw hso
    rintro m v9 h' x18 x19 x20 x21 x22 x23 x24 x25 x26 x27 x28 x29 x30 x31 x32 x33 x34 x35 x36 x37 x38 x39 x40 x41 x42 x43 x44 x45 x46 x47 x48 x49 x50 x51 x52 ⟨y, u, rfl, rfl, hay, hyi, hs, hw, hho⟩
    have hul := hs.ln
    rcases Nat.lt_or_ge a m with hy | hy
    · haveI g1 : ∀ {ts : List Value} {h : Heap} {O : Oper} {x z : Operand} [Ev ts x (.int .i64 (m : Nat))] [Ev ts z (.int .i64 (a : Nat))], XOp Tryz.prog ts h (.bin .gtr O x z) (.bool true) h := xgtr1 (by omega)
      haveI : IdxOff 0 ((m : Int) - 1) 37 ((m - 1) * 37) := ⟨by omega⟩
      haveI : InR .i64 ((m : Int) - 1) := inr_i64 (by omega)
      obtain ⟨i0, i1, i2, _, _⟩ := hs.ov (x := m) (y := m - 1) (by omega) (by omega)
      refine stp ?_
      refine D.howT (XOp.mkIndexSl (by omega)) rfl ?_
      refine stp ?_
      refine D.howT (XOp.mkIndexSl (by omega)) rfl ?_
      refine stp ?_
      refine D.callT (hs.cmp H (x := m) (y := m - 1) (by omega) (by omega)) (fun r g hr => rfl) (fun r g hr => ?_)
      obtain ⟨⟨c, rfl, hc⟩, hs2⟩ := hr
      obtain ⟨i0, i1, i2, i3, i4⟩ := hs2.ov (x := m) (y := m - 1) (by omega) (by omega)
      refine stp ?_
      refine C.if (fun h1 => ?_) (fun h1 => ?_)
      · refine stp ?_
        refine D.one0 StabL.ok ?_
        refine stp ?_
        exact loop1a 9 (m - 1) (by omega) ⟨m - 1, _, by congr 1; omega, rfl, by omega, by omega, hs2.swp (x := m) (y := m - 1) (by omega) (by omega), .swp hw (by omega) (by omega) (by omega) (by omega), hho.step oo (by omega) hy (by omega) (hc.1 h1)⟩
      · refine stp ?_
        exact loop1a 8 (b - (i + 1)) (by omega) ⟨i + 1, u, rfl, rfl, by omega, hs2, hw, .inl (by omega), hho.done oo (.inr (not_true hc h1))⟩
    · haveI g1 : ∀ {ts : List Value} {h : Heap} {O : Oper} {x z : Operand} [Ev ts x (.int .i64 (m : Nat))] [Ev ts z (.int .i64 (a : Nat))], XOp Tryz.prog ts h (.bin .gtr O x z) (.bool false) h := xgtr0 (by omega)
      refine stp ?_
      exact loop1a 8 (b - (i + 1)) (by omega) ⟨i + 1, u, rfl, rfl, by omega, hs, hw, .inl (by omega), hho.done oo (.inl hy)⟩
  · refine stp ?_
    exact ⟨u, hs, hw, hso.sub (Nat.le_refl _) (by omega)⟩
set_option maxHeartbeats 8000000 in
theorem sift_ok (H : CmpI lt fd q G h0) {pre s post : List Sg} {i k w : Nat} (hs : PS q n j G h0 h (pre ++ (s ++ post))) (hk : k ≤ s.length) (hi : i ≤ k) (hw : k - i < w) (hn : n < 100000) :
    Runs Tryz.prog T0 (.fn fn_zwcQ) [.slice (some ⟨q, 0, sp⟩) n cap, .int .i64 i, .int .i64 k, .int .i64 pre.length, .func (.func fd) ⟨[]⟩ ⟨[]⟩] h (fun _ h' => PS q n j G h0 h' (pre ++ ((downF (gtF lt) w s i k).1 ++ post))) (fun _ _ => False) := by
  refine zwcQ_runs ?_
  refine stp ?_
  refine loop1 zwcQ_l0_M 10 (fun z v10 hx => ∃ (r : Nat) (t : List Sg), v10 = .int .i64 r ∧ PS q n j G h0 hx (pre ++ (t ++ post)) ∧ t.length = s.length ∧ downF (gtF lt) z t r k = downF (gtF lt) w s i k ∧ r ≤ k ∧ k - r < z) ?_ w ⟨i, s, rfl, hs, rfl, rfl, hi, hw⟩
  rintro m v10 h' x11 x13 x14 x15 x16 x17 x18 x19 x20 x21 x22 x23 x24 x25 x26 x27 x28 x29 x30 x31 x32 x33 x34 x35 x36 x37 x38 x39 x40 x41 x42 x43 x44 x45 x46 x47 x48 x49 x50 x51 x52 x53 x54 x55 x56 x57 x58 x59 x60 x61 x62 x63 x64 x65 x66 x67 x68 x69 x70 x71 x72 x73 x74 x75 x76 x77 x78 x79 x80 x81 ⟨r, t, rfl, hs, htl, he, hr, hz⟩
  obtain ⟨z, rfl⟩ : ∃ z', m = z' + 1 := ⟨m - 1, by omega⟩
  have hln := hs.ln
  rw [List.length_append, List.length_append] at hln
  have ej : ((2 : Int) * (r : Int)) + 1 = ((2 * r + 1 : Nat) : Int) := by omega
  have ej2 : ((2 * r + 1 : Nat) : Int) + 1 = ((2 * r + 2 : Nat) : Int) := by omega
  rw [downF] at he
  haveI : InR .i64 ((2 : Int) * (r : Int)) := inr_i64 (by omega)
  refine stp ?_
  rw [ej]
  refine C.if (fun h1 => ?_) (fun h1 => ?_)
  · refine stp ?_
    rw [if_pos (by omega)] at he
    rw [← he]
    exact hs
  rw [if_neg (by omega)] at he
  have hkid := kid_lt (lt := gtF lt) (l := t) (i := r) (n := k) (by omega)
  have hat : ∀ {x : Nat}, x < t.length → at' (pre ++ (t ++ post)) (pre.length + x) = at' t x := fun hx => part_at hx
  haveI o1 : IdxOff 0 ((pre.length : Int) + ((2 * r + 1 : Nat) : Int)) 37 ((pre.length + (2 * r + 1)) * 37) := ⟨by omega⟩
  haveI o2 : IdxOff 0 ((pre.length : Int) + ((2 * r + 1 : Nat) : Int) + 1) 37 ((pre.length + (2 * r + 2)) * 37) := ⟨by omega⟩
  haveI o3 : IdxOff 0 ((pre.length : Int) + ((2 * r + 2 : Nat) : Int)) 37 ((pre.length + (2 * r + 2)) * 37) := ⟨by omega⟩
  haveI o0 : IdxOff 0 ((pre.length : Int) + (r : Int)) 37 ((pre.length + r) * 37) := ⟨by omega⟩
  haveI r1 : InR .i64 ((pre.length : Int) + ((2 * r + 1 : Nat) : Int)) := inr_i64 (by omega)
  haveI r2 : InR .i64 ((pre.length : Int) + ((2 * r + 2 : Nat) : Int)) := inr_i64 (by omega)
  haveI r0 : InR .i64 ((pre.length : Int) + (r : Int)) := inr_i64 (by omega)
  rcases Nat.lt_or_ge (2 * r + 2) k with h2 | h2
  case' inl =>
    haveI g1 : ∀ {ts : List Value} {h : Heap} {O : Oper} {x z : Operand} [Ev ts x (.int .i64 (((2 * r + 1 : Nat) : Int) + 1))] [Ev ts z (.int .i64 (k : Nat))], XOp Tryz.prog ts h (.bin .lss O x z) (.bool true) h := xlss1 (by omega)
    obtain ⟨i0, i1, i2, _, _⟩ := hs.ov (x := pre.length + (2 * r + 1)) (y := pre.length + (2 * r + 2)) (by omega) (by omega)
    refine stp ?_
    refine D.howT (XOp.mkIndexSl (by omega)) rfl ?_
    refine stp ?_
    refine D.howT (XOp.mkIndexSl (by omega)) rfl ?_
    refine stp ?_
    refine D.callT (hs.cmp H (x := pre.length + (2 * r + 1)) (y := pre.length + (2 * r + 2)) (by omega) (by omega)) (fun r g hr => rfl) (fun r g hr => ?_)
    obtain ⟨⟨c, rfl, hc⟩, hs3⟩ := hr
    rw [hat (by omega), hat (by omega)] at hc
    refine stp ?_
    refine C.if (fun h4 => ?two) (fun h4 => ?one)
  case' two =>
    have hkd : kid (gtF lt) t r k = 2 * r + 2 := by unfold kid; rw [if_pos ⟨by omega, hc.1 h4⟩]
    refine stp ?_
    rw [ej2]
  case' one =>
    have hkd : kid (gtF lt) t r k = 2 * r + 1 := by unfold kid; rw [if_neg (fun e => h4 (hc.2 e.2))]
    refine stp ?_
  case' inr =>
    have hkd : kid (gtF lt) t r k = 2 * r + 1 := by unfold kid; rw [if_neg (fun e => by omega)]
    have hs3 := hs
    haveI g1 : ∀ {ts : List Value} {h : Heap} {O : Oper} {x z : Operand} [Ev ts x (.int .i64 (((2 * r + 1 : Nat) : Int) + 1))] [Ev ts z (.int .i64 (k : Nat))], XOp Tryz.prog ts h (.bin .lss O x z) (.bool false) h := xlss0 (by omega)
    refine stp ?_
  all_goals
    have hkb := hkid.1
    obtain ⟨i0, i1, i2, _, _⟩ := hs3.ov (x := pre.length + r) (y := pre.length + kid (gtF lt) t r k) (by omega) (by omega)
    have hcm := hs3.cmp H (x := pre.length + r) (y := pre.length + kid (gtF lt) t r k) (by omega) (by omega)
    have hcv : lt (at' (pre ++ (t ++ post)) (pre.length + r)) (at' (pre ++ (t ++ post)) (pre.length + kid (gtF lt) t r k)) = gtF lt (at' t (kid (gtF lt) t r k)) (at' t r) := by rw [hat (by omega), hat (by omega)]
    rw [hcv] at hcm
    have hag : kid (gtF lt) t r k ≤ k ∧ k - kid (gtF lt) t r k < z := by omega
    rw [hkd] at he hkid i2 hcm hag hkb
    refine stp ?_
    refine D.callX hcm (fun r g hr => rfl) (fun r g hr => ?_) (fun _ _ hx => hx.elim)
    obtain ⟨⟨c2, rfl, hc2⟩, hs5⟩ := hr
    refine stp ?_
    refine C.ifN (fun h6 => ?_) (fun h6 => ?_)
    · refine stp ?_
      rw [if_neg (by rw [not_true hc2 h6]; decide)] at he
      rw [← he]
      exact hs5
    · rw [if_pos (hc2.1 h6)] at he
      have hsw := swp_part (pre := pre) (s := t) (post := post) (i := r) (j := kid (gtF lt) t r k) (by omega) (by rw [hkd]; omega)
      rw [hkd] at hsw
      obtain ⟨i0, i1, i2, i3, i4⟩ := hs5.ov (x := pre.length + r) (y := pre.length + kid (gtF lt) t r k) (by omega) (by rw [hkd]; omega)
      have hs7 := hs5.swp (x := pre.length + r) (y := pre.length + kid (gtF lt) t r k) (by omega) (by rw [hkd]; omega)
      rw [hkd] at i2 i3 i4 hs7
      refine stp ?_
      refine D.one0 ?_ ?_
      · repeat refine stab_cons inferInstance ?_
        rfl
      refine stp ?_
      rw [hsw] at hs7 ⊢
      exact loop1a 10 z (by omega) ⟨_, _, rfl, hs7, by rw [swp_len]; exact htl, he, hag.1, hag.2⟩
end
end Go.Proofs.YtagmnpeilgnbdaaGreat.A

namespace Go.Proofs.YtagmnpeilgnbdaaGreat.A
open Go Go.Vm
set_option maxRecDepth 10000
set_option linter.unusedVariables false
section
variable {α : Type} [Inhabited α] {lt : α → α → Bool} {t : TypeId} {v : Value} {St : Heap → List α → Prop}
theorem down_len : ∀ (q : Nat) (l : List α) (i n : Nat), (downF lt q l i n).1.length = l.length
  | 0, _, _, _ => rfl
  | q + 1, l, i, n => by
    unfold downF
    split
    · rfl
    · split
      · rw [down_len q, swp_len]
      · rfl
end
end Go.Proofs.YtagmnpeilgnbdaaGreat.A

namespace Go.Proofs.YtagmnpeilgnbdaaGreat.A
open Go Go.Vm
set_option maxRecDepth 10000
set_option linter.unusedVariables false
section
variable {lt : Sg → Sg → Bool} {fd : FuncId} {q n a b cap : Nat} {sp : Option Nat} {j : List Value} {G : Sg → Prop} {h0 h : Heap} {l m : List Sg}
set_option maxHeartbeats 8000000 in
theorem heapsort_ok (H : CmpI lt fd q G h0) (oo : Ord lt) (hs : PS q n j G h0 h l) (hab : a < b) (hb : b ≤ n) (hn : n < 100000) :
    Runs Tryz.prog T0 (.fn fn_zlcQ) [.slice (some ⟨q, 0, sp⟩) n cap, .int .i64 a, .int .i64 b, .func (.func fd) ⟨[]⟩ ⟨[]⟩] h (fun _ h' => ∃ m, PS q n j G h0 h' m ∧ Sw a b l m ∧ Srt lt a b m) (fun _ _ => False) := by
  obtain ⟨pre, s, post, rfl, rfl, hsl⟩ := part_of (Nat.le_of_lt hab) (show b ≤ l.length by rw [hs.ln]; exact hb)
  have hln := hs.ln
  rw [List.length_append, List.length_append] at hln
  have eb : (b : Int) - (pre.length : Int) = ((s.length : Nat) : Int) := by omega
  have ebn : b = pre.length + s.length := by omega
  have e1 : IntKind.i64.wrap (((s.length : Int) - 1).tdiv 2) = (((s.length - 1) / 2 + 1 : Nat) : Int) - 1 := by
    have : ((s.length : Int) - 1).tdiv 2 = (((s.length - 1) / 2 : Nat) : Int) := by
      rw [Int.tdiv_eq_ediv_of_nonneg (by omega)]; omega
    rw [this, (inr_i64 (by omega) : InR .i64 _).eq]
    omega
  refine zlcQ_runs ?_
  refine stp ?_
  rw [eb]
  refine stp ?_
  refine O.how (XOp.quoI (by decide)) ?_
  rw [e1]
  refine stp ?_
  refine loop1 zlcQ_l0_M 11 (fun k v11 hx => ∃ t : List Sg, v11 = .int .i64 ((k : Int) - 1) ∧ PS q n j G h0 hx (pre ++ (t ++ post)) ∧ t.length = s.length ∧ initG (gtF lt) k t = initG (gtF lt) ((s.length - 1) / 2 + 1) s ∧ k ≤ s.length) ?_ ((s.length - 1) / 2 + 1) ⟨s, rfl, hs, rfl, rfl, by omega⟩
  rintro m v11 h' x20 x21 x22 x23 x24 x25 x26 x27 x28 x29 ⟨t, rfl, hs1, htl, he, hk⟩
  refine stp ?_
  refine C.if (fun h2 => ?_) (fun h2 => ?_)
  · obtain ⟨k, rfl⟩ : ∃ k', m = k' + 1 := ⟨m - 1, by omega⟩
    have ek : ((k + 1 : Nat) : Int) - 1 = (k : Int) := by omega
    rw [ek]
    refine stp ?_
    rw [← htl]
    refine O.call' (sift_ok H (w := t.length + 1) (i := k) (k := t.length) hs1 (Nat.le_refl _) (by omega) (by omega) hn) (fun r h3 hs3 => ?_)
    refine stp ?_
    rw [initG] at he
    rw [htl]
    exact loop1a 11 k (by omega) ⟨_, rfl, hs3, by rw [down_len]; exact htl, he, by omega⟩
  obtain rfl : m = 0 := by omega
  rw [initG] at he
  refine stp ?_
  have hst := HS.start oo (l := s) (k := (s.length - 1) / 2 + 1) (by omega)
  have hsw0 := initG_sw (lt := gtF lt) ((s.length - 1) / 2 + 1) s
  rw [← he] at hst hsw0
  refine loop1 zlcQ_l1_M 12 (fun k v12 hx => ∃ t : List Sg, v12 = .int .i64 ((k : Int) - 1) ∧ PS q n j G h0 hx (pre ++ (t ++ post)) ∧ t.length = s.length ∧ Sw 0 s.length s t ∧ HS lt k t ∧ k ≤ s.length) ?_ s.length ⟨t, rfl, hs1, htl, hsw0, hst, Nat.le_refl _⟩
  clear hst hsw0 he
  rintro m v12 h' x32 x33 x34 x35 x36 x37 x38 x39 x40 x41 x42 x43 x44 x45 x46 x47 x48 x49 x50 x51 x52 x53 x54 x55 x56 x57 x58 x59 ⟨t, rfl, hs1, htl, hsw, hst, hk⟩
  refine stp ?_
  refine C.if (fun h2 => ?_) (fun h2 => ?_)
  · obtain ⟨k, rfl⟩ : ∃ k', m = k' + 1 := ⟨m - 1, by omega⟩
    have ek : ((k + 1 : Nat) : Int) - 1 = (k : Int) := by omega
    rw [ek]
    haveI o0 : IdxOff 0 ((pre.length : Int) + (k : Int)) 37 ((pre.length + k) * 37) := ⟨by omega⟩
    haveI r0 : InR .i64 ((pre.length : Int) + (k : Int)) := inr_i64 (by omega)
    have hps := swp_part (pre := pre) (s := t) (post := post) (i := 0) (j := k) (by omega) (by omega)
    rw [Nat.add_zero] at hps
    obtain ⟨i0, i1, i2, i3, i4⟩ := hs1.ov (x := pre.length) (y := pre.length + k) (by omega) (by omega)
    have hs2 := hs1.swp (x := pre.length) (y := pre.length + k) (by omega) (by omega)
    refine stp ?_
    refine D.one0 ?_ ?_
    · repeat refine stab_cons inferInstance ?_
      rfl
    refine stp ?_
    rw [hps] at hs2 ⊢
    refine O.call' (sift_ok H (w := k + 1) (i := 0) (k := k) hs2 (by rw [swp_len]; omega) (by omega) (by omega) hn) (fun r h3 hs3 => ?_)
    refine stp ?_
    have hd := down_sw (lt := gtF lt) (k + 1) (swp t 0 k) 0 k
    exact loop1a 12 k (by omega) ⟨_, rfl, hs3, by rw [down_len, swp_len]; exact htl, (Sw.swp hsw (by omega) (by omega) (by omega) (by omega)).trans (hd.mono (by omega) (by omega)), hst.step oo (by omega) (by omega), by omega⟩
  · obtain rfl : m = 0 := by omega
    refine stp ?_
    have hso := hst.done
    rw [ebn]
    exact ⟨_, hs1, hsw.part (Nat.le_refl _), by rw [← htl]; exact hso.part⟩
theorem PS.keepZ {z : Nat} {h' : Heap} (hs : PS q n j G h0 h l) (hf : Fr (fun i => i = z) h h') (hz : z ≠ q) (h0z : h0.n ≤ z) : PS q n j G h0 h' l :=
  ⟨hs.ln, hf.lt hs.lt, by rw [hf.get _ hs.lt (fun e => hz e.symm)]; exact hs.get, hs.fr.trans hf fun i hi e => by omega, hs.gd⟩
structure CtZ (q z : Nat) (k : Int) (h0 h : Heap) : Prop where
  nq : z ≠ q
  nz : h0.n ≤ z
  lt : z < h.n
  get : h.get z = .cells [.int .i64 k] 0
  k0 : 0 ≤ k
theorem CtZ.keep {z : Nat} {k : Int} {h' : Heap} (hz : CtZ q z k h0 h) (hf : Fr (fun i => i = q) h h') : CtZ q z k h0 h' := ⟨hz.nq, hz.nz, hf.lt hz.lt, by rw [hf.get _ hz.lt hz.nq]; exact hz.get, hz.k0⟩
set_option maxHeartbeats 4000000 in
theorem order2_ok {x y z : Nat} {k : Int} (H : CmpI lt fd q G h0) (hs : PS q n j G h0 h l) (hx : x < n) (hy : y < n) (hn : n < 100000) (hz : CtZ q z k h0 h) (hk : k < 1000) :
    Runs Tryz.prog T0 (.fn fn_zqcQ) [.slice (some ⟨q, 0, sp⟩) n cap, .int .i64 x, .int .i64 y, .pointer (some ⟨z, 0, none⟩), .func (.func fd) ⟨[]⟩ ⟨[]⟩] h
      (fun r h' => ∃ (x' y' : Nat) (k' : Int), r = .tuple ⟨[.int .i64 x', .int .i64 y']⟩ ∧ (x' = x ∧ y' = y ∨ x' = y ∧ y' = x) ∧ PS q n j G h0 h' l ∧ CtZ q z k' h0 h' ∧ k' ≤ k + 1) (fun _ _ => False) := by
  have hnq := hz.nq
  have h0z := hz.nz
  have hk0 := hz.k0
  refine zqcQ_runs ?_
  obtain ⟨i0, i1, i2, _, _⟩ := hs.ov hx hy
  refine stp ?_
  refine D.callX (H.run hs.fr (hs.gd _ (at_mem (i := y) (by rw [hs.ln]; exact hy))) (hs.gd _ (at_mem (i := x) (by rw [hs.ln]; exact hx)))) (fun r g hr => rfl) (fun r g hr => ?_) (fun _ _ hx => hx.elim)
  obtain ⟨⟨c, rfl, hc⟩, f2⟩ := hr
  have hs2 := hs.keep f2
  have hz2 := hz.keep (f2.mono fun _ _ e => e.elim)
  haveI : HGet g z _ := ⟨hz2.get⟩
  refine stp ?_
  refine C.if (fun h1 => ?_) (fun h1 => ?_)
  · refine stp ?_
    have fS : Fr (fun i => i = z) g (g.set z (.cells [.int .i64 (k + 1)] 0)) := Fr.refl.set fun _ => rfl
    exact ⟨y, x, k + 1, rfl, .inr ⟨rfl, rfl⟩, hs2.keepZ fS hnq h0z, ⟨hnq, h0z, fS.lt hz2.lt, by rw [Heap.get_set, if_pos rfl], by omega⟩, by omega⟩
  · refine stp ?_
    exact ⟨x, y, k, rfl, .inl ⟨rfl, rfl⟩, hs2, hz2, by omega⟩
set_option maxHeartbeats 4000000 in
theorem median_ok {x y w z : Nat} {k : Int} (H : CmpI lt fd q G h0) (hs : PS q n j G h0 h l) (hx : x < n) (hy : y < n) (hw : w < n) (hn : n < 100000) (hz : CtZ q z k h0 h) (hk : k < 900) :
    Runs Tryz.prog T0 (.fn fn_zocQ) [.slice (some ⟨q, 0, sp⟩) n cap, .int .i64 x, .int .i64 y, .int .i64 w, .pointer (some ⟨z, 0, none⟩), .func (.func fd) ⟨[]⟩ ⟨[]⟩] h
      (fun r h' => ∃ (c : Nat) (k' : Int), r = .int .i64 c ∧ (c = x ∨ c = y ∨ c = w) ∧ PS q n j G h0 h' l ∧ CtZ q z k' h0 h' ∧ k' ≤ k + 3) (fun _ _ => False) := by
  refine zocQ_runs ?_
  refine stp ?_
  refine O.call' (order2_ok H hs hx hy hn hz (by omega)) (fun r h1 hr => ?_)
  obtain ⟨x1, y1, k1, rfl, e1, hs1, hz1, q1⟩ := hr
  refine stp ?_
  refine O.call' (order2_ok H hs1 (x := y1) (y := w) (by omega) hw hn hz1 (by omega)) (fun r h2 hr => ?_)
  obtain ⟨y2, w2, k2, rfl, e2, hs2, hz2, q2⟩ := hr
  refine stp ?_
  refine O.call' (order2_ok H hs2 (x := x1) (y := y2) (by omega) (by omega) hn hz2 (by omega)) (fun r h3 hr => ?_)
  obtain ⟨x3, y3, k3, rfl, e3, hs3, hz3, q3⟩ := hr
  refine stp ?_
  exact ⟨y3, k3, rfl, by omega, hs3, hz3, by omega⟩
theorem medianA_ok {x z : Nat} {k : Int} (H : CmpI lt fd q G h0) (hs : PS q n j G h0 h l) (h1 : 1 ≤ x) (hx : x + 1 < n) (hn : n < 100000) (hz : CtZ q z k h0 h) (hk : k < 900) :
    Runs Tryz.prog T0 (.fn fn_zncQ) [.slice (some ⟨q, 0, sp⟩) n cap, .int .i64 x, .pointer (some ⟨z, 0, none⟩), .func (.func fd) ⟨[]⟩ ⟨[]⟩] h
      (fun r h' => ∃ (c : Nat) (k' : Int), r = .int .i64 c ∧ (x - 1 ≤ c ∧ c ≤ x + 1) ∧ PS q n j G h0 h' l ∧ CtZ q z k' h0 h' ∧ k' ≤ k + 3) (fun _ _ => False) := by
  have e1 : (x : Int) - 1 = ((x - 1 : Nat) : Int) := by omega
  have e2 : (x : Int) + 1 = ((x + 1 : Nat) : Int) := by omega
  refine zncQ_runs ?_
  refine stp ?_
  rw [e1, e2]
  refine O.call' (median_ok H hs (x := x - 1) (y := x) (w := x + 1) (by omega) (by omega) hx hn hz hk) (fun r h1 hr => ?_)
  obtain ⟨c, k', rfl, e, hs1, hz1, q1⟩ := hr
  refine stp ?_
  exact ⟨c, k', rfl, by omega, hs1, hz1, q1⟩
theorem quo_nat (x k : Nat) (hx : x < 1000000) (hk : 0 < k) : IntKind.i64.wrap ((x : Int).tdiv (k : Int)) = ((x / k : Nat) : Int) := by
  have e : (x : Int).tdiv (k : Int) = ((x / k : Nat) : Int) := by
    rw [Int.tdiv_eq_ediv_of_nonneg (by omega)]
    exact (Int.natCast_ediv x k).symm
  rw [e]
  have := Nat.div_le_self x k
  generalize x / k = y at *
  exact (inr_i64 (by omega)).eq
set_option maxHeartbeats 8000000 in
theorem pivot_ok (H : CmpI lt fd q G h0) (hs : PS q n j G h0 h l) (hab : a < b) (hb : b ≤ n) (hn : n < 100000) (hh : h0.n ≤ h.n) :
    Runs Tryz.prog T0 (.fn fn_zkcQ) [.slice (some ⟨q, 0, sp⟩) n cap, .int .i64 a, .int .i64 b, .func (.func fd) ⟨[]⟩ ⟨[]⟩] h
      (fun r h' => ∃ (c : Nat) (i : Int), r = .tuple ⟨[.int .i64 c, .int .i64 i]⟩ ∧ a ≤ c ∧ c < b ∧ PS q n j G h0 h' l) (fun _ _ => False) := by
  have eb : (b : Int) - (a : Int) = ((b - a : Nat) : Int) := by omega
  have e4 : IntKind.i64.wrap (((b - a : Nat) : Int).tdiv 4) = (((b - a) / 4 : Nat) : Int) := quo_nat (b - a) 4 (by omega) (by omega)
  generalize hd : b - a = d at *
  have m1 : (((d / 4 : Nat) : Int) * 1) = ((d / 4 : Nat) : Int) := by omega
  have m2 : (((d / 4 : Nat) : Int) * 2) = ((d / 4 * 2 : Nat) : Int) := by omega
  have m3 : (((d / 4 : Nat) : Int) * 3) = ((d / 4 * 3 : Nat) : Int) := by omega
  have p1 : (a : Int) + ((d / 4 : Nat) : Int) = ((a + d / 4 : Nat) : Int) := by omega
  have p2 : (a : Int) + ((d / 4 * 2 : Nat) : Int) = ((a + d / 4 * 2 : Nat) : Int) := by omega
  have p3 : (a : Int) + ((d / 4 * 3 : Nat) : Int) = ((a + d / 4 * 3 : Nat) : Int) := by omega
  haveI : InR .i64 (((d / 4 : Nat) : Int) * 1) := inr_i64 (by omega)
  haveI : InR .i64 (((d / 4 : Nat) : Int) * 2) := inr_i64 (by omega)
  haveI : InR .i64 (((d / 4 : Nat) : Int) * 3) := inr_i64 (by omega)
  refine zkcQ_runs ?_
  refine stp ?_
  rw [eb]
  refine stp ?_
  refine O.how (XOp.quoI (by decide)) ?_
  rw [e4]
  refine stp ?_
  rw [m1]
  refine stp ?_
  rw [p1]
  refine O.how (XOp.quoI (by decide)) ?_
  rw [e4]
  refine stp ?_
  rw [m2]
  refine stp ?_
  rw [p2]
  refine O.how (XOp.quoI (by decide)) ?_
  rw [e4]
  refine stp ?_
  rw [m3]
  refine stp ?_
  rw [p3]
  have F1 : Fr (fun _ => False) h (h.push (.cells [.int .i64 0] 0)) := Fr.refl.push
  have hs1 := hs.keep F1
  have hz1 : CtZ q h.n 0 h0 (h.push (.cells [.int .i64 0] 0)) := ⟨by have := hs.lt; omega, hh, by simp, HGet.new.eq, Int.le_refl _⟩
  generalize h.push (.cells [.int .i64 0] 0) = h1 at *
  refine cut1 [0, 0, 0, 0, 0, 0, 0, 0, 0, 0, 0, 0, 1, 2, 1, 0, 0, 0, 0, 0, 0, 0, 0, 0, 0, 0, 0, 0, 0, 0, 0, 0, 0, 0, 0, 1, 1, 1, 1, 1, 1, 1, 1, 1, 1, 1, 1, 1, 1, 1, 1, 1, 1, 1, 1, 0, 0, 0, 0, 0, 0, 0, 0] .normal (fun v hx => ∃ (c : Nat) (k : Int), v = .int .i64 c ∧ a ≤ c ∧ c < b ∧ PS q n j G h0 hx l ∧ CtZ q h.n k h0 hx) ?_ ?_
  · refine C.if (fun h8 => ?_) (fun h8 => ?_)
    · refine stp ?_
      refine C.if (fun h50 => ?_) (fun h50 => ?_)
      · refine stp ?_
        refine O.call' (medianA_ok H hs1 (x := a + d / 4) (by omega) (by omega) hn hz1 (by omega)) (fun r g1 hr => ?_)
        obtain ⟨c1, k1, rfl, b1, hs2, hz2, q1⟩ := hr
        refine stp ?_
        refine O.call' (medianA_ok H hs2 (x := a + d / 4 * 2) (by omega) (by omega) hn hz2 (by omega)) (fun r g2 hr => ?_)
        obtain ⟨c2, k2, rfl, b2, hs3, hz3, q2⟩ := hr
        refine stp ?_
        refine O.call' (medianA_ok H hs3 (x := a + d / 4 * 3) (by omega) (by omega) hn hz3 (by omega)) (fun r g3 hr => ?_)
        obtain ⟨c3, k3, rfl, b3, hs4, hz4, q3⟩ := hr
        refine stp ?_
        refine O.call' (median_ok H hs4 (x := c1) (y := c2) (w := c3) (by omega) (by omega) (by omega) hn hz4 (by omega)) (fun r g4 hr => ?_)
        obtain ⟨c4, k4, rfl, b4, hs5, hz5, q4⟩ := hr
        refine stp ?_
        exact cutQ1.out 13 ⟨c4, k4, rfl, by omega, by omega, hs5, hz5⟩
      · refine stp ?_
        refine O.call' (median_ok H hs1 (x := a + d / 4) (y := a + d / 4 * 2) (w := a + d / 4 * 3) (by omega) (by omega) (by omega) hn hz1 (by omega)) (fun r g4 hr => ?_)
        obtain ⟨c4, k4, rfl, b4, hs5, hz5, q4⟩ := hr
        refine stp ?_
        exact cutQ1.out 13 ⟨c4, k4, rfl, by omega, by omega, hs5, hz5⟩
    · refine stp ?_
      exact cutQ1.out 13 ⟨a + d / 4 * 2, 0, rfl, by omega, by omega, hs1, hz1⟩
  intro v13 h2 x12 x14 x35 x36 x37 x38 x39 x40 x41 x42 x43 x44 x45 x46 x47 x48 x49 x50 x51 x52 x53 x54 ⟨c, k, e13, c1, c2, hs2, hz2⟩
  subst e13
  haveI : HGet h2 h.n _ := ⟨hz2.get⟩
  refine stp ?_
  refine C.if (fun h5 => ?_) (fun h5 => ?_)
  · refine stp ?_
    exact ⟨c, _, rfl, c1, c2, hs2⟩
  · refine stp ?_
    refine C.if (fun h6 => ?_) (fun h6 => ?_)
    · refine stp ?_
      exact ⟨c, _, rfl, c1, c2, hs2⟩
    · refine stp ?_
      exact ⟨c, _, rfl, c1, c2, hs2⟩
end
end Go.Proofs.YtagmnpeilgnbdaaGreat.A

namespace Go.Proofs.YtagmnpeilgnbdaaGreat.A
open Go Go.Vm
set_option maxRecDepth 10000
set_option linter.unusedVariables false
section
variable {lt : Sg → Sg → Bool} {fd : FuncId} {q n a b cap : Nat} {sp : Option Nat} {j : List Value} {G : Sg → Prop} {h0 h : Heap} {l m : List Sg}
structure PQS (q n a b : Nat) (j : List Value) (G : Sg → Prop) (lt : Sg → Sg → Bool) (h0 : Heap) (l : List Sg) (x y : Nat) (h : Heap) (u : List Sg) : Prop where
  ps : PS q n j G h0 h u
  sw : Sw a b l u
  pi : PI lt a b x y u
theorem xleq1 {P : Program} {ts : List Value} {h : Heap} {x y : Operand} {p q : Int} {O : Oper} (hp : p ≤ q) [e1 : Ev ts x (.int .i64 p)] [e2 : Ev ts y (.int .i64 q)] : XOp P ts h (.bin .leq O x y) (.bool true) h := by
  have := (XOp.leqI : XOp P ts h (.bin .leq O x y) (.bool (decide (p ≤ q))) h)
  rw [decide_eq_true hp] at this
  exact this
theorem xleq0 {P : Program} {ts : List Value} {h : Heap} {x y : Operand} {p q : Int} {O : Oper} (hp : ¬ p ≤ q) [e1 : Ev ts x (.int .i64 p)] [e2 : Ev ts y (.int .i64 q)] : XOp P ts h (.bin .leq O x y) (.bool false) h := by
  have := (XOp.leqI : XOp P ts h (.bin .leq O x y) (.bool (decide (p ≤ q))) h)
  rw [decide_eq_false hp] at this
  exact this
set_option maxHeartbeats 16000000 in
theorem partition_ok {p : Nat} (H : CmpI lt fd q G h0) (hs : PS q n j G h0 h l) (hap : a ≤ p) (hpb : p < b) (hb : b ≤ n) (hn : n < 100000) :
    Runs Tryz.prog T0 (.fn fn_zscQ) [.slice (some ⟨q, 0, sp⟩) n cap, .int .i64 a, .int .i64 b, .int .i64 p, .func (.func fd) ⟨[]⟩ ⟨[]⟩] h
      (fun r h' => ∃ (m : List Sg) (c : Nat) (is : Bool), r = .tuple ⟨[.int .i64 c, .bool is]⟩ ∧ PS q n j G h0 h' m ∧ Sw a b l m ∧ Part lt a b c m) (fun _ _ => False) := by
  have eb : (b : Int) - 1 = ((b - 1 : Nat) : Int) := by omega
  refine zscQ_runs ?_
  obtain ⟨i0, i1, i2, i3, i4⟩ := hs.ov (x := a) (y := p) (by omega) (by omega)
  have hs1 := hs.swp (x := a) (y := p) (by omega) (by omega)
  refine stp ?_
  refine D.one0 StabL.ok ?_
  refine stp ?_
  rw [eb]
  have st : PQS q n a b j G lt h0 l (a + 1) (b - 1) _ _ := ⟨hs1, .swp .refl (by omega) (by omega) (by omega) (by omega), PI.start (by omega)⟩
  generalize h.set q (.cells (gcells (Go.Proofs.YtagmnpeilgnbdaaGreat.A.swp l a p) ++ j) 37) = h1 at *
  generalize Go.Proofs.YtagmnpeilgnbdaaGreat.A.swp l a p = l1 at *
  refine cut1 zscQ_l0_M (.exit 0) (fun v hx => ∃ x : Nat, v = .int .i64 x ∧ PQS q n a b j G lt h0 l x (b - 1) hx l1 ∧ (x ≤ b - 1 → lt (at' l1 x) (at' l1 a) = false)) ?_ ?_
  · refine loop1 zscQ_l0_M 12 (fun k v12 hx => ∃ x : Nat, v12 = .int .i64 x ∧ k = b - x ∧ PQS q n a b j G lt h0 l x (b - 1) hx l1) ?_ (b - (a + 1)) ⟨a + 1, rfl, rfl, st⟩
    clear st hs1
    rintro m v12 h' x32 x33 x34 x35 x36 x37 x38 x39 x40 x41 x42 x43 x44 x45 x46 x47 x48 x49 ⟨x, rfl, rfl, st⟩
    have hp := st.pi
    have hp0 := hp.i0
    have hp1 := hp.ij
    rcases Nat.lt_or_ge (b - 1) x with hxy | hxy
    · haveI g1 : ∀ {ts : List Value} {h : Heap} {O : Oper} {y z : Operand} [Ev ts y (.int .i64 (x : Nat))] [Ev ts z (.int .i64 ((b - 1 : Nat) : Int))], XOp Tryz.prog ts h (.bin .leq O y z) (.bool false) h := xleq0 (by omega)
      refine stp ?_
      exact cutQ1.out 12 ⟨x, rfl, st, fun e => by omega⟩
    · haveI g1 : ∀ {ts : List Value} {h : Heap} {O : Oper} {y z : Operand} [Ev ts y (.int .i64 (x : Nat))] [Ev ts z (.int .i64 ((b - 1 : Nat) : Int))], XOp Tryz.prog ts h (.bin .leq O y z) (.bool true) h := xleq1 (by omega)
      obtain ⟨i0, i1, i2, _, _⟩ := st.ps.ov (x := x) (y := a) (by omega) (by omega)
      refine stp ?_
      refine D.howT (XOp.mkIndexSl (by omega)) rfl ?_
      refine stp ?_
      refine D.howT (XOp.mkIndexSl (by omega)) rfl ?_
      refine stp ?_
      refine D.callT (st.ps.cmp H (x := x) (y := a) (by omega) (by omega)) (fun r g hr => rfl) (fun r g hr => ?_)
      obtain ⟨⟨c, rfl, hc⟩, hs2⟩ := hr
      refine stp ?_
      refine C.if (fun h1 => ?_) (fun h1 => ?_)
      · refine stp ?_
        exact loop1a 12 (b - (x + 1)) (by omega) ⟨x + 1, rfl, rfl, hs2, st.sw, hp.left hxy (hc.1 h1)⟩
      · refine stp ?_
        exact cutQ1.out 12 ⟨x, rfl, ⟨hs2, st.sw, hp⟩, fun _ => not_true hc h1⟩
  intro v12 h2 x32 x33 x34 x35 x36 x37 x38 x39 x40 x41 x42 x43 x44 x45 x46 x47 x48 x49 ⟨x, e12, st1, hx1⟩
  subst e12
  clear st hs1
  refine stp ?_
  refine cut1 zscQ_l1_M (.exit 2) (fun v hx => ∃ y : Nat, v = .int .i64 y ∧ PQS q n a b j G lt h0 l x y hx l1 ∧ (x ≤ y → lt (at' l1 y) (at' l1 a) = true)) ?_ ?_
  · refine loop1 zscQ_l1_M 13 (fun k v13 hx => ∃ y : Nat, v13 = .int .i64 y ∧ k = y ∧ PQS q n a b j G lt h0 l x y hx l1) ?_ (b - 1) ⟨b - 1, rfl, rfl, st1⟩
    clear st1
    rintro m v13 h' x50 x51 x52 x53 x54 x55 x56 x57 x58 x59 x60 x61 x62 x63 x64 x65 x66 x67 x68 ⟨y, rfl, rfl, st⟩
    have hp := st.pi
    have hp0 := hp.i0
    have hp1 := hp.j0
    rcases Nat.lt_or_ge m x with hxy | hxy
    · haveI g1 : ∀ {ts : List Value} {h : Heap} {O : Oper} {y z : Operand} [Ev ts y (.int .i64 (x : Nat))] [Ev ts z (.int .i64 (m : Nat))], XOp Tryz.prog ts h (.bin .leq O y z) (.bool false) h := xleq0 (by omega)
      refine stp ?_
      exact cutQ1.out 13 ⟨m, rfl, st, fun e => by omega⟩
    · haveI g1 : ∀ {ts : List Value} {h : Heap} {O : Oper} {y z : Operand} [Ev ts y (.int .i64 (x : Nat))] [Ev ts z (.int .i64 (m : Nat))], XOp Tryz.prog ts h (.bin .leq O y z) (.bool true) h := xleq1 (by omega)
      obtain ⟨i0, i1, i2, _, _⟩ := st.ps.ov (x := m) (y := a) (by omega) (by omega)
      refine stp ?_
      refine D.howT (XOp.mkIndexSl (by omega)) rfl ?_
      refine stp ?_
      refine D.howT (XOp.mkIndexSl (by omega)) rfl ?_
      refine stp ?_
      refine D.callT (st.ps.cmp H (x := m) (y := a) (by omega) (by omega)) (fun r g hr => rfl) (fun r g hr => ?_)
      obtain ⟨⟨c, rfl, hc⟩, hs2⟩ := hr
      refine stp ?_
      refine C.ifN (fun h1 => ?_) (fun h1 => ?_)
      · refine stp ?_
        exact loop1a 13 (m - 1) (by omega) ⟨m - 1, by congr 1; omega, rfl, hs2, st.sw, hp.right hxy (not_true hc h1)⟩
      · refine stp ?_
        exact cutQ1.out 13 ⟨m, rfl, ⟨hs2, st.sw, hp⟩, fun _ => hc.1 h1⟩
  intro v13 h3 x50 x51 x52 x53 x54 x55 x56 x57 x58 x59 x60 x61 x62 x63 x64 x65 x66 x67 x68 ⟨y, e13, st2, hy1⟩
  subst e13
  clear st1
  have hpy := st2.pi
  have hpy0 := hpy.i0
  have hpy1 := hpy.j0
  have hpy2 := hpy.ij
  have hl1 := st2.ps.ln
  refine stp ?_
  refine C.if (fun hgt => ?_) (fun hle => ?_)
  · obtain ⟨i0, i1, i2, i3, i4⟩ := st2.ps.ov (x := y) (y := a) (by omega) (by omega)
    have hs3 := st2.ps.swp (x := y) (y := a) (by omega) (by omega)
    refine stp ?_
    refine D.one0 StabL.ok ?_
    refine stp ?_
    exact ⟨_, y, _, rfl, hs3, .swp st2.sw (by omega) (by omega) (by omega) (by omega), hpy.done (by omega) (by omega)⟩
  refine stp ?_
  obtain ⟨hch, hxy⟩ := hpy.change (by omega) (by omega) (hx1 (by omega)) (hy1 (by omega))
  obtain ⟨i0, i1, i2, i3, i4⟩ := st2.ps.ov (x := x) (y := y) (by omega) (by omega)
  have st3 : PQS q n a b j G lt h0 l (x + 1) (y - 1) _ _ := ⟨st2.ps.swp (x := x) (y := y) (by omega) (by omega), .swp st2.sw (by omega) (by omega) (by omega) (by omega), hch⟩
  refine stp ?_
  refine D.one0 StabL.ok ?_
  refine stp ?_
  rw [show (y : Int) - 1 = ((y - 1 : Nat) : Int) from by omega]
  rw [show (x : Int) + 1 = ((x + 1 : Nat) : Int) from rfl]
  refine loop2 zscQ_l4_M 12 13 (fun k v12 v13 hx => ∃ (x y : Nat) (u : List Sg), v12 = .int .i64 x ∧ v13 = .int .i64 y ∧ k = y + 1 - x ∧ PQS q n a b j G lt h0 l x y hx u) ?_ (y - 1 + 1 - (x + 1)) ⟨x + 1, y - 1, _, rfl, rfl, rfl, st3⟩
  clear st3 hch hxy hpy hpy0 hpy1 hpy2 st2 hle hl1 hx1 hy1
  rintro m v12 v13 h' x105 x106 x107 x108 x109 x110 x111 x112 x113 x114 x115 x116 x117 x118 x119 x120 x121 x122 x123 x124 x125 x126 x127 x128 x129 x130 x131 x132 x133 x134 x135 x136 x137 x138 x139 x140 x141 x142 x143 x144 x145 x146 x147 x148 x149 x150 x151 x152 x153 x154 x155 x156 x157 x158 x159 x160 x161 x162 ⟨x, y, u, rfl, rfl, rfl, st⟩
  refine stp ?_
  refine cut1 zscQ_l2_M (.exit 6) (fun v hx => ∃ x' : Nat, v = .int .i64 x' ∧ x ≤ x' ∧ PQS q n a b j G lt h0 l x' y hx u ∧ (x' ≤ y → lt (at' u x') (at' u a) = false)) ?_ ?_
  · refine loop1 zscQ_l2_M 12 (fun k v12 hx => ∃ x' : Nat, v12 = .int .i64 x' ∧ k = b - x' ∧ x ≤ x' ∧ PQS q n a b j G lt h0 l x' y hx u) ?_ (b - x) ⟨x, rfl, rfl, Nat.le_refl _, st⟩
    clear st
    rintro m v12 h' x105 x106 x107 x108 x109 x110 x111 x112 x113 x114 x115 x116 x117 x118 x119 x120 x121 x122 ⟨x', rfl, rfl, hxx, st⟩
    have hp := st.pi
    have hp0 := hp.i0
    have hp1 := hp.ij
    have hp2 := hp.j0
    rcases Nat.lt_or_ge y x' with hxy | hxy
    · haveI g1 : ∀ {ts : List Value} {h : Heap} {O : Oper} {u z : Operand} [Ev ts u (.int .i64 (x' : Nat))] [Ev ts z (.int .i64 (y : Nat))], XOp Tryz.prog ts h (.bin .leq O u z) (.bool false) h := xleq0 (by omega)
      refine stp ?_
      exact cutQ1.out 12 ⟨x', rfl, hxx, st, fun e => by omega⟩
    · haveI g1 : ∀ {ts : List Value} {h : Heap} {O : Oper} {u z : Operand} [Ev ts u (.int .i64 (x' : Nat))] [Ev ts z (.int .i64 (y : Nat))], XOp Tryz.prog ts h (.bin .leq O u z) (.bool true) h := xleq1 (by omega)
      obtain ⟨i0, i1, i2, _, _⟩ := st.ps.ov (x := x') (y := a) (by omega) (by omega)
      refine stp ?_
      refine D.howT (XOp.mkIndexSl (by omega)) rfl ?_
      refine stp ?_
      refine D.howT (XOp.mkIndexSl (by omega)) rfl ?_
      refine stp ?_
      refine D.callT (st.ps.cmp H (x := x') (y := a) (by omega) (by omega)) (fun r g hr => rfl) (fun r g hr => ?_)
      obtain ⟨⟨c, rfl, hc⟩, hs2⟩ := hr
      refine stp ?_
      refine C.if (fun h1 => ?_) (fun h1 => ?_)
      · refine stp ?_
        exact loop1a 12 (b - (x' + 1)) (by omega) ⟨x' + 1, rfl, rfl, by omega, hs2, st.sw, hp.left hxy (hc.1 h1)⟩
      · refine stp ?_
        exact cutQ1.out 12 ⟨x', rfl, hxx, ⟨hs2, st.sw, hp⟩, fun _ => not_true hc h1⟩
  intro v12 h4 x105 x106 x107 x108 x109 x110 x111 x112 x113 x114 x115 x116 x117 x118 x119 x120 x121 x122 ⟨x', e12, hxx, st1, hx1⟩
  subst e12
  clear st
  refine stp ?_
  refine cut1 zscQ_l3_M (.exit 8) (fun v hx => ∃ y' : Nat, v = .int .i64 y' ∧ y' ≤ y ∧ PQS q n a b j G lt h0 l x' y' hx u ∧ (x' ≤ y' → lt (at' u y') (at' u a) = true)) ?_ ?_
  · refine loop1 zscQ_l3_M 13 (fun k v13 hx => ∃ y' : Nat, v13 = .int .i64 y' ∧ k = y' ∧ y' ≤ y ∧ PQS q n a b j G lt h0 l x' y' hx u) ?_ y ⟨y, rfl, rfl, Nat.le_refl _, st1⟩
    clear st1
    rintro m v13 h' x123 x124 x125 x126 x127 x128 x129 x130 x131 x132 x133 x134 x135 x136 x137 x138 x139 x140 x141 ⟨y', rfl, rfl, hyy, st⟩
    have hp := st.pi
    have hp0 := hp.i0
    have hp1 := hp.j0
    rcases Nat.lt_or_ge m x' with hxy | hxy
    · haveI g1 : ∀ {ts : List Value} {h : Heap} {O : Oper} {u z : Operand} [Ev ts u (.int .i64 (x' : Nat))] [Ev ts z (.int .i64 (m : Nat))], XOp Tryz.prog ts h (.bin .leq O u z) (.bool false) h := xleq0 (by omega)
      refine stp ?_
      exact cutQ1.out 13 ⟨m, rfl, hyy, st, fun e => by omega⟩
    · haveI g1 : ∀ {ts : List Value} {h : Heap} {O : Oper} {u z : Operand} [Ev ts u (.int .i64 (x' : Nat))] [Ev ts z (.int .i64 (m : Nat))], XOp Tryz.prog ts h (.bin .leq O u z) (.bool true) h := xleq1 (by omega)
      obtain ⟨i0, i1, i2, _, _⟩ := st.ps.ov (x := m) (y := a) (by omega) (by omega)
      refine stp ?_
      refine D.howT (XOp.mkIndexSl (by omega)) rfl ?_
      refine stp ?_
      refine D.howT (XOp.mkIndexSl (by omega)) rfl ?_
      refine stp ?_
      refine D.callT (st.ps.cmp H (x := m) (y := a) (by omega) (by omega)) (fun r g hr => rfl) (fun r g hr => ?_)
      obtain ⟨⟨c, rfl, hc⟩, hs2⟩ := hr
      refine stp ?_
      refine C.ifN (fun h1 => ?_) (fun h1 => ?_)
      · refine stp ?_
        exact loop1a 13 (m - 1) (by omega) ⟨m - 1, by congr 1; omega, rfl, by omega, hs2, st.sw, hp.right hxy (not_true hc h1)⟩
      · refine stp ?_
        exact cutQ1.out 13 ⟨m, rfl, hyy, ⟨hs2, st.sw, hp⟩, fun _ => hc.1 h1⟩
  intro v13 h5 x123 x124 x125 x126 x127 x128 x129 x130 x131 x132 x133 x134 x135 x136 x137 x138 x139 x140 x141 ⟨y', e13, hyy, st2, hy1⟩
  subst e13
  clear st1
  have hpy := st2.pi
  have hpy0 := hpy.i0
  have hpy1 := hpy.j0
  have hpy2 := hpy.ij
  have hl1 := st2.ps.ln
  refine stp ?_
  refine C.if (fun hgt => ?_) (fun hle => ?_)
  · obtain ⟨i0, i1, i2, i3, i4⟩ := st2.ps.ov (x := y') (y := a) (by omega) (by omega)
    have hs3 := st2.ps.swp (x := y') (y := a) (by omega) (by omega)
    refine stp ?_
    refine D.one0 StabL.ok ?_
    refine stp ?_
    exact ⟨_, y', _, rfl, hs3, .swp st2.sw (by omega) (by omega) (by omega) (by omega), hpy.done (by omega) (by omega)⟩
  · obtain ⟨hch, hxy⟩ := hpy.change (by omega) (by omega) (hx1 (by omega)) (hy1 (by omega))
    obtain ⟨i0, i1, i2, i3, i4⟩ := st2.ps.ov (x := x') (y := y') (by omega) (by omega)
    have st3 : PQS q n a b j G lt h0 l (x' + 1) (y' - 1) _ _ := ⟨st2.ps.swp (x := x') (y := y') (by omega) (by omega), .swp st2.sw (by omega) (by omega) (by omega) (by omega), hch⟩
    refine stp ?_
    refine D.one0 StabL.ok ?_
    refine stp ?_
    rw [show (y' : Int) - 1 = ((y' - 1 : Nat) : Int) from by omega, show (x' : Int) + 1 = ((x' + 1 : Nat) : Int) from rfl]
    exact loop2a 12 13 (y' - 1 + 1 - (x' + 1)) (by omega) ⟨x' + 1, y' - 1, _, rfl, rfl, rfl, st3⟩
end
end Go.Proofs.YtagmnpeilgnbdaaGreat.A

namespace Go.Proofs.YtagmnpeilgnbdaaGreat.A
open Go Go.Vm
set_option maxRecDepth 10000
set_option linter.unusedVariables false
section
variable {lt : Sg → Sg → Bool} {fd : FuncId} {q n a b cap : Nat} {sp : Option Nat} {j : List Value} {G : Sg → Prop} {h0 h : Heap} {l m : List Sg}
theorem Srt.holeS {i : Nat} (h : Srt lt a i l) (hi : a < i) (hl : i < l.length) : Hole lt a i (i - 1) (swp l i (i - 1)) := fun p q h1 h2 h3 h4 => by
  rw [swp_at hl (by omega), swp_at hl (by omega), if_neg h4, if_neg (by omega), if_neg (by omega), if_neg (by omega)]
  exact h p q h1 h2 h3
set_option maxHeartbeats 16000000 in
theorem partial_ok (H : CmpI lt fd q G h0) (oo : Ord lt) (hs : PS q n j G h0 h l) (hab : a < b) (hb : b ≤ n) (hn : n < 100000) (hlow : LowP lt a b l) :
    Runs Tryz.prog T0 (.fn fn_zrcQ) [.slice (some ⟨q, 0, sp⟩) n cap, .int .i64 a, .int .i64 b, .func (.func fd) ⟨[]⟩ ⟨[]⟩] h
      (fun r h' => ∃ (m : List Sg) (is : Bool), r = .bool is ∧ PS q n j G h0 h' m ∧ Sw a b l m ∧ (is = true → Srt lt a b m)) (fun _ _ => False) := by
  have hl0 := hs.ln
  refine zrcQ_runs ?_
  refine stp ?_
  rw [show (a : Int) + 1 = ((a + 1 : Nat) : Int) from rfl]
  refine loop2 zrcQ_l3_M 9 10 (fun k v9 v10 hx => ∃ (i s : Nat) (u : List Sg), v9 = .int .i64 i ∧ v10 = .int .i64 s ∧ k = 5 - s ∧ s ≤ 5 ∧ a < i ∧ i ≤ b ∧ PS q n j G h0 hx u ∧ Sw a b l u ∧ Srt lt a i u) ?_ 5 ⟨a + 1, 0, l, rfl, rfl, rfl, by omega, by omega, by omega, hs, .refl, Srt.one⟩
  rintro m v9 v10 h' x8 x11 x12 x15 x16 x17 x18 x19 x20 x21 x22 x23 x24 x25 x26 x27 x28 x29 x30 x31 x32 x33 x34 x35 x36 x37 x38 x39 x40 x41 x42 x43 x44 x45 x46 x47 x48 x49 x50 x51 x52 x53 x54 x55 x56 x57 x58 x59 x60 x61 x62 x63 x64 x65 x66 x67 x68 x69 x70 x71 x72 x73 x74 x75 x76 x77 x78 x79 x80 x81 x82 x83 x84 x85 x86 x87 x88 x89 x90 x91 x92 x93 x94 x95 x96 x97 x98 x99 x100 x101 x102 x103 x104 x105 x106 x107 x108 x109 x110 x111 x112 x113 x114 x115 x116 x117 x118 x119 x120 x121 x122 x123 x124 x125 x126 x127 x128 x129 x130 x131 x132 x133 x134 x135 x136 x137 x138 x139 x140 ⟨i, s, u, rfl, rfl, rfl, hs5, hai, hib, hs1, hw, hso⟩
  refine stp ?_
  refine C.if (fun hlt => ?_) (fun hge => ?_)
  case refine_2 =>
    refine stp ?_
    exact ⟨u, false, rfl, hs1, hw, fun e => by cases e⟩
  refine stp ?_
  refine cut1 zrcQ_l0_M (.exit 2) (fun v hx => ∃ i' : Nat, v = .int .i64 i' ∧ a < i' ∧ i' ≤ b ∧ PS q n j G h0 hx u ∧ Srt lt a i' u ∧ (i' < b → lt (at' u i') (at' u (i' - 1)) = true)) ?_ ?_
  · refine loop1 zrcQ_l0_M 9 (fun k v9 hx => ∃ i' : Nat, v9 = .int .i64 i' ∧ k = b - i' ∧ a < i' ∧ i' ≤ b ∧ PS q n j G h0 hx u ∧ Srt lt a i' u) ?_ (b - i) ⟨i, rfl, rfl, hai, hib, hs1, hso⟩
    clear hs1 hso
    rintro m v9 h' x19 x20 x21 x22 x23 x24 x25 x26 x27 x28 x29 x30 x31 x32 x33 x34 x35 x36 x37 x38 ⟨x, rfl, rfl, hax, hxb, hs1, hso⟩
    rcases Nat.lt_or_ge x b with hxy | hxy
    · haveI g1 : ∀ {ts : List Value} {h : Heap} {O : Oper} {y z : Operand} [Ev ts y (.int .i64 (x : Nat))] [Ev ts z (.int .i64 (b : Nat))], XOp Tryz.prog ts h (.bin .lss O y z) (.bool true) h := xlss1 (by omega)
      haveI : IdxOff 0 ((x : Int) - 1) 37 ((x - 1) * 37) := ⟨by omega⟩
      haveI : InR .i64 ((x : Int) - 1) := inr_i64 (by omega)
      obtain ⟨i0, i1, i2, _, _⟩ := hs1.ov (x := x) (y := x - 1) (by omega) (by omega)
      refine stp ?_
      refine D.howT (XOp.mkIndexSl (by omega)) rfl ?_
      refine stp ?_
      refine D.howT (XOp.mkIndexSl (by omega)) rfl ?_
      refine stp ?_
      refine D.callT (hs1.cmp H (x := x) (y := x - 1) (by omega) (by omega)) (fun r g hr => rfl) (fun r g hr => ?_)
      obtain ⟨⟨c, rfl, hc⟩, hs2⟩ := hr
      refine stp ?_
      refine C.ifN (fun h1 => ?_) (fun h1 => ?_)
      · refine stp ?_
        exact loop1a 9 (b - (x + 1)) (by omega) ⟨x + 1, rfl, rfl, by omega, by omega, hs2, hso.ext oo hax (not_true hc h1)⟩
      · refine stp ?_
        exact cutQ1.out 9 ⟨x, rfl, hax, hxb, hs2, hso, fun _ => hc.1 h1⟩
    · haveI g1 : ∀ {ts : List Value} {h : Heap} {O : Oper} {y z : Operand} [Ev ts y (.int .i64 (x : Nat))] [Ev ts z (.int .i64 (b : Nat))], XOp Tryz.prog ts h (.bin .lss O y z) (.bool false) h := xlss0 (by omega)
      refine stp ?_
      exact cutQ1.out 9 ⟨x, rfl, hax, hxb, hs1, hso, fun e => by omega⟩
  intro v9 h2 x19 x20 x21 x22 x23 x24 x25 x26 x27 x28 x29 x30 x31 x32 x33 x34 x35 x36 x37 x38 ⟨x, e9, hax, hxb, hs2, hso2, hle⟩
  subst e9
  clear hs1 hso
  refine stp ?_
  refine C.if (fun heq => ?_) (fun hne => ?_)
  · refine stp ?_
    obtain rfl : x = b := by omega
    exact ⟨u, true, rfl, hs2, hw, fun _ => hso2⟩
  have hxb' : x < b := by omega
  have hle := hle hxb'
  refine stp ?_
  refine C.if (fun h50 => ?_) (fun h50 => ?_)
  · refine stp ?_
    exact ⟨u, false, rfl, hs2, hw, fun e => by cases e⟩
  haveI o1 : IdxOff 0 ((x : Int) - 1) 37 ((x - 1) * 37) := ⟨by omega⟩
  haveI r1 : InR .i64 ((x : Int) - 1) := inr_i64 (by omega)
  obtain ⟨i0, i1, i2, i3, i4⟩ := hs2.ov (x := x) (y := x - 1) (by omega) (by omega)
  have hs3 := hs2.swp (x := x) (y := x - 1) (by omega) (by omega)
  have hw3 : Sw a b l _ := .swp hw (i := x) (j := x - 1) (by omega) (by omega) (by omega) (by omega)
  have hho := hso2.holeS hax (by rw [hs2.ln]; omega)
  refine stp ?_
  refine D.one0 StabL.ok ?_
  refine stp ?_
  generalize h2.set q (.cells (gcells (Go.Proofs.YtagmnpeilgnbdaaGreat.A.swp u x (x - 1)) ++ j) 37) = h3 at *
  generalize Go.Proofs.YtagmnpeilgnbdaaGreat.A.swp u x (x - 1) = u3 at *
  clear i0 i1 i2 i3 i4 hs2 hso2 hle hw
  refine cut1 [0, 0, 0, 0, 0, 0, 0, 0, 0, 0, 0, 2, 0, 0, 0, 0, 0, 0, 0, 0, 0, 0, 0, 0, 0, 0, 0, 0, 0, 0, 0, 0, 0, 0, 0, 0, 0, 0, 0, 0, 0, 0, 0, 0, 0, 0, 0, 0, 0, 0, 0, 0, 0, 0, 0, 0, 0, 0, 0, 0, 0, 0, 0, 0, 0, 0, 1, 1, 1, 1, 1, 1, 1, 1, 1, 1, 1, 1, 1, 1, 1, 1, 1, 1, 1, 1, 1, 1, 1, 1, 1, 1, 1, 1, 1, 1, 1, 1, 1, 1, 1, 0, 0, 0, 0, 0, 0, 0, 0, 0, 0, 0, 0, 0, 0, 0, 0, 0, 0, 0, 0, 0, 0, 0, 0, 0, 0, 0, 0, 0, 0, 0, 0, 0, 0, 0, 0, 0, 0, 0, 0] .normal (fun v hx => ∃ u : List Sg, PS q n j G h0 hx u ∧ Sw a b l u ∧ Srt lt a x u) ?_ ?_
  · refine C.if (fun h4 => ?_) (fun h4 => ?_)
    · refine stp ?_
      rw [show (x : Int) - 1 = ((x - 1 : Nat) : Int) from by omega]
      refine loop1 zrcQ_l1_M 11 (fun k v11 hx => ∃ (y : Nat) (u : List Sg), v11 = .int .i64 y ∧ k = y ∧ a ≤ y ∧ y < x ∧ PS q n j G h0 hx u ∧ Sw a b l u ∧ Hole lt a x y u) ?_ (x - 1) ⟨x - 1, u3, rfl, rfl, by omega, by omega, hs3, hw3, hho⟩
      clear hs3 hw3 hho
      rintro m v11 h' x68 x69 x70 x71 x72 x73 x74 x75 x76 x77 x78 x79 x80 x81 x82 x83 x84 x85 x86 x87 x88 x89 x90 x91 x92 x93 x94 x95 x96 x97 x98 x99 x100 ⟨y, u, rfl, rfl, hay, hyx, hs, hw, hho⟩
      refine stp ?_
      refine C.if (fun h5 => ?_) (fun h5 => ?_)
      · have hul := hs.ln
        have hlw := hlow.sw hw (by omega)
        haveI : IdxOff 0 ((m : Int) - 1) 37 ((m - 1) * 37) := ⟨by omega⟩
        haveI : InR .i64 ((m : Int) - 1) := inr_i64 (by omega)
        obtain ⟨i0, i1, i2, _, _⟩ := hs.ov (x := m) (y := m - 1) (by omega) (by omega)
        refine stp ?_
        refine D.callX (hs.cmp H (x := m) (y := m - 1) (by omega) (by omega)) (fun r g hr => rfl) (fun r g hr => ?_) (fun _ _ hx => hx.elim)
        obtain ⟨⟨c, rfl, hc⟩, hs2⟩ := hr
        obtain ⟨i0, i1, i2, i3, i4⟩ := hs2.ov (x := m) (y := m - 1) (by omega) (by omega)
        refine stp ?_
        refine C.ifN (fun h1 => ?_) (fun h1 => ?_)
        · refine stp ?_
          exact cutQ1.out 11 ⟨u, hs2, hw, hho.done oo (.inr (not_true hc h1))⟩
        · have ham : a < m := by
            rcases Nat.lt_or_ge a m with e | e
            · exact e
            · have e : a = m := by omega
              have h7 := hlw (by omega) a (Nat.le_refl _) hab
              have h8 := hc.1 h1
              rw [← e] at h8
              rw [oo.asy _ _ h7] at h8
              cases h8
          refine stp ?_
          refine D.one0 StabL.ok ?_
          refine stp ?_
          exact loop1a 11 (m - 1) (by omega) ⟨m - 1, _, by congr 1; omega, rfl, by omega, by omega, hs2.swp (x := m) (y := m - 1) (by omega) (by omega), .swp hw (by omega) (by omega) (by omega) (by omega), hho.step oo (by omega) ham (by omega) (hc.1 h1)⟩
      · refine stp ?_
        exact cutQ1.out 11 ⟨u, hs, hw, hho.done oo (.inl (by omega))⟩
    · refine stp ?_
      exact cutQ1.out 11 ⟨u3, hs3, hw3, hho.done oo (.inl (by omega))⟩
  intro v11 h4 x66 x67 x68 x69 x70 x71 x72 x73 x74 x75 x76 x77 x78 x79 x80 x81 x82 x83 x84 x85 x86 x87 x88 x89 x90 x91 x92 x93 x94 x95 x96 x97 x98 x99 x100 ⟨u4, hs4, hw4, hso4⟩
  clear hs3 hw3 hho
  refine stp ?_
  refine C.if (fun h5 => ?_) (fun h5 => ?_)
  · refine stp ?_
    rw [show (x : Int) + 1 = ((x + 1 : Nat) : Int) from rfl]
    refine loop1 zrcQ_l2_M 12 (fun k v12 hx => ∃ (y : Nat) (u : List Sg), v12 = .int .i64 y ∧ k = b - y ∧ x < y ∧ y ≤ b ∧ PS q n j G h0 hx u ∧ Sw a b l u ∧ Srt lt a x u) ?_ (b - (x + 1)) ⟨x + 1, u4, rfl, rfl, by omega, by omega, hs4, hw4, hso4⟩
    clear hs4 hw4 hso4
    rintro m v12 h' x107 x108 x109 x110 x111 x112 x113 x114 x115 x116 x117 x118 x119 x120 x121 x122 x123 x124 x125 x126 x127 x128 x129 x130 x131 x132 x133 x134 x135 x136 x137 x138 x139 x140 ⟨y, u, rfl, rfl, hxy, hyb, hs, hw, hso⟩
    refine stp ?_
    refine C.if (fun h5 => ?_) (fun h5 => ?_)
    · have hul := hs.ln
      haveI : IdxOff 0 ((y : Int) - 1) 37 ((y - 1) * 37) := ⟨by omega⟩
      haveI : InR .i64 ((y : Int) - 1) := inr_i64 (by omega)
      obtain ⟨i0, i1, i2, _, _⟩ := hs.ov (x := y) (y := y - 1) (by omega) (by omega)
      refine stp ?_
      refine D.callX (hs.cmp H (x := y) (y := y - 1) (by omega) (by omega)) (fun r g hr => rfl) (fun r g hr => ?_) (fun _ _ hx => hx.elim)
      obtain ⟨⟨c, rfl, hc⟩, hs2⟩ := hr
      obtain ⟨i0, i1, i2, i3, i4⟩ := hs2.ov (x := y) (y := y - 1) (by omega) (by omega)
      refine stp ?_
      refine C.ifN (fun h1 => ?_) (fun h1 => ?_)
      · refine stp ?_
        exact loop2a 9 10 (5 - (s + 1)) (by omega) ⟨x, s + 1, u, rfl, rfl, rfl, by omega, hax, by omega, hs2, hw, hso⟩
      · refine stp ?_
        refine D.one0 StabL.ok ?_
        refine stp ?_
        exact loop1a 12 (b - (y + 1)) (by omega) ⟨y + 1, _, rfl, rfl, by omega, by omega, hs2.swp (x := y) (y := y - 1) (by omega) (by omega), .swp hw (by omega) (by omega) (by omega) (by omega), hso.sw (x := x) (y := b) (.swp .refl (by omega) (by omega) (by omega) (by omega)) (by omega) (.inl (Nat.le_refl _))⟩
    · refine stp ?_
      exact loop2a 9 10 (5 - (s + 1)) (by omega) ⟨x, s + 1, u, rfl, rfl, rfl, by omega, hax, by omega, hs, hw, hso⟩
  · refine stp ?_
    exact loop2a 9 10 (5 - (s + 1)) (by omega) ⟨x, s + 1, u4, rfl, rfl, rfl, by omega, hax, by omega, hs4, hw4, hso4⟩
end
end Go.Proofs.YtagmnpeilgnbdaaGreat.A

namespace Go.Proofs.YtagmnpeilgnbdaaGreat.A
open Go Go.Vm
set_option maxRecDepth 10000
set_option linter.unusedVariables false
abbrev lenT : List UInt8 := [0, 1, 2, 2, 3, 3, 3, 3, 4, 4, 4, 4, 4, 4, 4, 4, 5, 5, 5, 5, 5, 5, 5, 5, 5, 5, 5, 5, 5, 5, 5, 5, 6, 6, 6, 6, 6, 6, 6, 6, 6, 6, 6, 6, 6, 6, 6, 6, 6, 6, 6, 6, 6, 6, 6, 6, 6, 6, 6, 6, 6, 6, 6, 6, 7, 7, 7, 7, 7, 7, 7, 7, 7, 7, 7, 7, 7, 7, 7, 7, 7, 7, 7, 7, 7, 7, 7, 7, 7, 7, 7, 7, 7, 7, 7, 7, 7, 7, 7, 7, 7, 7, 7, 7, 7, 7, 7, 7, 7, 7, 7, 7, 7, 7, 7, 7, 7, 7, 7, 7, 7, 7, 7, 7, 7, 7, 7, 7, 8, 8, 8, 8, 8, 8, 8, 8, 8, 8, 8, 8, 8, 8, 8, 8, 8, 8, 8, 8, 8, 8, 8, 8, 8, 8, 8, 8, 8, 8, 8, 8, 8, 8, 8, 8, 8, 8, 8, 8, 8, 8, 8, 8, 8, 8, 8, 8, 8, 8, 8, 8, 8, 8, 8, 8, 8, 8, 8, 8, 8, 8, 8, 8, 8, 8, 8, 8, 8, 8, 8, 8, 8, 8, 8, 8, 8, 8, 8, 8, 8, 8, 8, 8, 8, 8, 8, 8, 8, 8, 8, 8, 8, 8, 8, 8, 8, 8, 8, 8, 8, 8, 8, 8, 8, 8, 8, 8, 8, 8, 8, 8, 8, 8, 8, 8, 8, 8, 8, 8, 8, 8, 8, 8, 8, 8, 8, 8]
theorem lenT_all : ∀ n : Fin 256, (lenT.getD n.val 0).toNat ≤ 8 ∧ (1 ≤ n.val → n.val < 2 ^ (lenT.getD n.val 0).toNat ∧ 2 ^ (lenT.getD n.val 0).toNat ≤ 2 * n.val) := by decide +kernel
theorem lenT_ok {n : Nat} (hn : n < 256) : (lenT.getD n 0).toNat ≤ 8 ∧ (1 ≤ n → n < 2 ^ (lenT.getD n 0).toNat ∧ 2 ^ (lenT.getD n 0).toNat ≤ 2 * n) := lenT_all ⟨n, hn⟩
theorem bLen64_ok {h : Heap} {n : Nat} (hn : n < 256) : Runs Tryz.prog T0 (.fn fn_zobQ) [.int .u64 (n : Nat)] h (fun r h' => r = .int .i64 ((lenT.getD n 0).toNat : Nat) ∧ h' = h) (fun _ _ => False) := by
  have hz := (lenT_ok hn).1
  refine zobQ_runs ?_
  refine stp ?_
  refine C.if (fun e => absurd e (by omega)) (fun _ => ?_)
  refine stp ?_
  refine C.if (fun e => absurd e (by omega)) (fun _ => ?_)
  refine stp ?_
  refine C.if (fun e => absurd e (by omega)) (fun _ => ?_)
  refine stp ?_
  refine O.how (XOp.mkIndexStr (k := n) (by kernel_rfl) rfl (by show n < 256; exact hn)) ?_
  generalize hzz : (List.getD _ n 0 : UInt8) = z
  rw [show lenT.getD n 0 = z from hzz] at hz
  clear hzz
  refine stp ?_
  exact ⟨by rw [Int.zero_add], rfl⟩
theorem bLen_ok {h : Heap} {n : Nat} (hn : n < 256) : Runs Tryz.prog T0 (.fn fn_zmbQ) [.int .u64 (n : Nat)] h (fun r h' => r = .int .i64 ((lenT.getD n 0).toNat : Nat) ∧ h' = h) (fun _ _ => False) := by
  refine zmbQ_runs ?_
  refine stp ?_
  refine O.call' (bLen64_ok hn) (fun r h1 hr => ?_)
  obtain ⟨rfl, rfl⟩ := hr
  refine stp ?_
  exact ⟨rfl, rfl⟩
theorem npow_ok {h : Heap} {n : Nat} (hn : n < 256) : Runs Tryz.prog T0 (.fn fn_zpcQ) [.int .i64 (n : Nat)] h (fun r h' => r = .int .u64 ((2 ^ (lenT.getD n 0).toNat : Nat) : Int) ∧ h' = h) (fun _ _ => False) := by
  have hz := (lenT_ok hn).1
  refine zpcQ_runs ?_
  refine stp ?_
  refine O.call' (bLen_ok hn) (fun r h1 hr => ?_)
  obtain ⟨rfl, rfl⟩ := hr
  generalize (lenT.getD n 0).toNat = t at *
  refine stp ?_
  refine O.how (XOp.shl (by omega)) ?_
  refine stp ?_
  refine ⟨?_, rfl⟩
  congr 1
  have h9 : t = 0 ∨ t = 1 ∨ t = 2 ∨ t = 3 ∨ t = 4 ∨ t = 5 ∨ t = 6 ∨ t = 7 ∨ t = 8 := by omega
  rcases h9 with rfl | rfl | rfl | rfl | rfl | rfl | rfl | rfl | rfl <;> decide
set_option maxHeartbeats 4000000 in
theorem xnext_ok {h : Heap} {z : Nat} {w : Int} (hz : h.get z = .cells [.int .u64 w] 0) (hl : z < h.n) :
    Runs Tryz.prog T0 (.fn fn_zxcQ) [.pointer (some ⟨z, 0, none⟩)] h (fun r h' => ∃ w' : Int, r = .int .u64 w' ∧ h'.get z = .cells [.int .u64 w'] 0 ∧ Fr (fun i => i = z) h h') (fun _ _ => False) := by
  haveI : HGet h z _ := ⟨hz⟩
  haveI : BLt z h := ⟨hl⟩
  refine zxcQ_runs ?_
  refine stp ?_
  refine D.how (XOp.shl (by omega)) rfl ?_
  refine stp ?_
  refine D.how XOp.xorI rfl ?_
  generalize IntKind.u64.wrap _ = w1
  refine stp ?_
  refine D.how (XOp.shr (by omega)) rfl ?_
  refine stp ?_
  refine D.how XOp.xorI rfl ?_
  generalize IntKind.u64.wrap _ = w2
  refine stp ?_
  refine D.how (XOp.shl (by omega)) rfl ?_
  refine stp ?_
  refine D.how XOp.xorI rfl ?_
  generalize IntKind.u64.wrap _ = w3
  refine stp ?_
  exact ⟨_, rfl, by rw [Heap.get_set, if_pos rfl], Fr.refl.set fun _ => rfl⟩
theorem and_lt {w : Int} {M : Nat} (h1 : 1 ≤ M) (h2 : M ≤ 512) : ∃ o : Nat, IntKind.u64.wrap ((BitVec.ofInt IntKind.u64.bits w &&& BitVec.ofInt IntKind.u64.bits ((M : Int) - 1)).toNat : Nat) = (o : Int) ∧ o < M := by
  have e : (M : Int) - 1 = ((M - 1 : Nat) : Int) := by omega
  have hb : (BitVec.ofInt IntKind.u64.bits w &&& BitVec.ofInt IntKind.u64.bits ((M : Int) - 1)).toNat ≤ M - 1 := by
    rw [e, BitVec.toNat_and]
    refine Nat.le_trans Nat.and_le_right ?_
    rw [BitVec.ofInt_natCast, BitVec.toNat_ofNat]
    exact Nat.mod_le _ _
  generalize (BitVec.ofInt IntKind.u64.bits w &&& BitVec.ofInt IntKind.u64.bits ((M : Int) - 1)).toNat = o at *
  refine ⟨o, ?_, by omega⟩
  have : 0 ≤ (o : Int) ∧ (o : Int) ≤ 18446744073709551615 := by omega
  exact (inr_u64 this).eq
section
variable {lt : Sg → Sg → Bool} {fd : FuncId} {q n a b cap : Nat} {sp : Option Nat} {j : List Value} {G : Sg → Prop} {h0 h : Heap} {l m : List Sg}
set_option maxHeartbeats 8000000 in
theorem break_ok (hs : PS q n j G h0 h l) (hab : a + 8 ≤ b) (hb : b ≤ n) (hn : n < 256) (hh : h0.n ≤ h.n) :
    Runs Tryz.prog T0 (.fn fn_zjcQ) [.slice (some ⟨q, 0, sp⟩) n cap, .int .i64 a, .int .i64 b, .func (.func fd) ⟨[]⟩ ⟨[]⟩] h (fun _ h' => ∃ m, PS q n j G h0 h' m ∧ Sw a b l m) (fun _ _ => False) := by
  have eb : (b : Int) - (a : Int) = ((b - a : Nat) : Int) := by omega
  generalize hd : b - a = d at *
  have e4 : IntKind.i64.wrap ((d : Int).tdiv 4) = ((d / 4 : Nat) : Int) := quo_nat d 4 (by omega) (by omega)
  have m2 : (((d / 4 : Nat) : Int) * 2) = ((d / 4 * 2 : Nat) : Int) := by omega
  have p2 : (a : Int) + ((d / 4 * 2 : Nat) : Int) - 1 = ((a + d / 4 * 2 - 1 : Nat) : Int) := by omega
  haveI i2 : InR .i64 (((d / 4 : Nat) : Int) * 2) := inr_i64 (by omega)
  obtain ⟨hM1, hM2⟩ := (lenT_ok (n := d) (by omega)).2 (by omega)
  have hnp := fun {h : Heap} => npow_ok (h := h) (n := d) (by omega)
  generalize 2 ^ (lenT.getD d 0).toNat = M at *
  have hql := hs.lt
  have eM : IntKind.u64.wrap ((M : Int) - 1) = (M : Int) - 1 := (inr_u64 (by omega)).eq
  refine zjcQ_runs ?_
  refine stp ?_
  rw [eb]
  refine stp ?_
  refine C.if (fun _ => ?_) (fun e => absurd (show (8 : Int) ≤ (d : Int) by omega) e)
  refine stp ?_
  have F1 : Fr (fun _ => False) h (h.push (.cells [.int .u64 d] 0)) := Fr.refl.push
  have gz : (h.push (.cells [.int .u64 d] 0)).get h.n = .cells [.int .u64 d] 0 := HGet.new.eq
  have nz : (h.push (.cells [.int .u64 d] 0)).n = h.n + 1 := rfl
  have hs1 := hs.keep F1
  generalize h.push (.cells [.int .u64 d] 0) = h1 at *
  refine O.call' hnp (fun r h1 hr => ?_)
  obtain ⟨rfl, rfl⟩ := hr
  refine stp ?_
  refine O.how (XOp.quoI (by decide)) ?_
  rw [e4]
  refine stp ?_
  rw [m2, p2]
  refine loop1 zjcQ_l0_M 11 (fun k v11 hx => ∃ (i : Nat) (w : Int) (u : List Sg), v11 = .int .i64 i ∧ k = a + d / 4 * 2 + 2 - i ∧ a + d / 4 * 2 - 1 ≤ i ∧ hx.get h.n = .cells [.int .u64 w] 0 ∧ h.n < hx.n ∧ PS q n j G h0 hx u ∧ Sw a b l u) ?_ _ ⟨_, _, l, rfl, rfl, Nat.le_refl _, gz, by omega, hs1, .refl⟩
  clear gz nz hs1 F1
  rintro m v11 h' x12 x28 x29 x30 x31 x32 x33 x34 x35 x36 x37 x38 x39 x40 x41 x42 x43 x44 x45 x46 x47 x48 x49 x50 x51 x52 x53 x54 x55 x56 x57 x58 x59 x60 x61 x62 x63 x64 x65 x66 ⟨i, w, u, rfl, rfl, hi, gz, nz, hs1, hw⟩
  refine stp ?_
  refine O.how (XOp.quoI (by decide)) ?_
  rw [e4]
  refine stp ?_
  rw [m2]
  refine stp ?_
  refine C.if (fun hle => ?_) (fun hgt => ?_)
  case refine_2 =>
    refine stp ?_
    exact ⟨u, hs1, hw⟩
  refine stp ?_
  refine O.call' (xnext_ok gz nz) (fun r h2 hr => ?_)
  obtain ⟨w', rfl, gz2, f2⟩ := hr
  have hs2 := hs1.keepZ f2 (by omega) hh
  have nz2 := f2.lt nz
  have hul := hs2.ln
  refine stp ?_
  rw [eM]
  refine O.how XOp.andI ?_
  obtain ⟨o, eo, ho⟩ := and_lt (w := w') (M := M) (by omega) (by omega)
  rw [eo]
  refine stp ?_
  refine cut1 [0, 0, 0, 0, 0, 0, 0, 0, 0, 0, 0, 0, 2, 0, 0, 0, 0, 0, 0, 0, 0, 0, 0, 0, 0, 0, 0, 0, 0, 0, 0, 0, 0, 0, 0, 0, 0, 0, 0, 0, 0, 0, 0, 0, 0, 0, 1, 1, 1, 0, 0, 0, 0, 0, 0, 0, 0, 0, 0, 0, 0, 0, 0, 0, 0, 0, 0] .normal (fun v hx => hx = h2 ∧ ∃ o' : Nat, v = .int .i64 o' ∧ o' < d) ?_ ?_
  · refine C.if (fun h5 => ?_) (fun h5 => ?_)
    · refine stp ?_
      rw [show (o : Int) - (d : Int) = ((o - d : Nat) : Int) from by omega]
      exact cutQ1.out 12 ⟨rfl, o - d, rfl, by omega⟩
    · refine stp ?_
      exact cutQ1.out 12 ⟨rfl, o, rfl, by omega⟩
  intro v12 h3 x46 x47 x48 ⟨e3, o', e12, ho'⟩
  subst e12
  rw [e3]
  clear e3 h3
  haveI o0 : IdxOff 0 ((a : Int) + (o' : Int)) 37 ((a + o') * 37) := ⟨by omega⟩
  haveI r0 : InR .i64 ((a : Int) + (o' : Int)) := inr_i64 (by omega)
  obtain ⟨i0, i1, i2, i3, i4⟩ := hs2.ov (x := i) (y := a + o') (by omega) (by omega)
  have hs3 := hs2.swp (x := i) (y := a + o') (by omega) (by omega)
  refine stp ?_
  refine D.one0 ?_ ?_
  · repeat refine stab_cons inferInstance ?_
    rfl
  refine stp ?_
  exact loop1a 11 (a + d / 4 * 2 + 2 - (i + 1)) (by omega) ⟨i + 1, w', _, rfl, rfl, by omega, by rw [Heap.get_set, if_neg (by omega)]; exact gz2, by simpa using nz2, hs3, .swp hw (by omega) (by omega) (by omega) (by omega)⟩
end
end Go.Proofs.YtagmnpeilgnbdaaGreat.A

namespace Go.Proofs.YtagmnpeilgnbdaaGreat.A
open Go Go.Vm
set_option maxRecDepth 10000
set_option linter.unusedVariables false
section
variable {lt : Sg → Sg → Bool} {fd : FuncId} {q n cap : Nat} {sp : Option Nat} {j : List Value} {G : Sg → Prop} {h0 : Heap}
set_option maxHeartbeats 16000000 in
theorem pdq_ok (H : CmpI lt fd q G h0) (oo : Ord lt) (hn : n < 256) : ∀ (N : Nat) {h : Heap} {l : List Sg} {a b lim : Nat}, b - a ≤ N → PS q n j G h0 h l → a ≤ b → b ≤ n → lim < 1000 → LowP lt a b l → Dist lt l →
    Runs Tryz.prog T0 (.fn fn_zucQ) [.slice (some ⟨q, 0, sp⟩) n cap, .int .i64 a, .int .i64 b, .int .i64 lim, .func (.func fd) ⟨[]⟩ ⟨[]⟩] h (fun _ h' => ∃ m, PS q n j G h0 h' m ∧ Sw a b l m ∧ Srt lt a b m) (fun _ _ => False) := by
  intro N
  induction N using Nat.strongRecOn with
  | _ N ih =>
  intro h l a b lim hN hs hab hb hlim hlow hdist
  have hll := hs.ln
  refine zucQ_runs ?_
  refine stp ?_
  refine loop5 zucQ_l0_M 1 2 3 10 11 (fun k v1 v2 v3 v10 v11 hx => ∃ (a' b' lim' : Nat) (wb wp : Bool) (u : List Sg), v1 = .int .i64 a' ∧ v2 = .int .i64 b' ∧ v3 = .int .i64 lim' ∧ v10 = .bool wb ∧ v11 = .bool wp ∧ k = b' - a' ∧ lim' < 1000 ∧ PS q n j G h0 hx u ∧ PdI lt a b a' b' l u) ?_ (b - a) ⟨a, b, lim, true, true, l, rfl, rfl, rfl, rfl, rfl, rfl, hlim, hs, PdI.start hab hlow⟩
  clear hs hlim
  rintro m v1 v2 v3 v10 v11 h' x12 x13 x14 x15 x16 x17 x18 x19 x20 x21 x22 x23 x24 x25 x26 x27 x28 x29 x30 x31 x32 x33 x34 x35 x36 x37 x38 x39 x40 x41 x42 x43 x44 x45 x46 x47 x48 x49 x50 x51 x52 x53 x54 x55 x56 x57 x58 x59 x60 x61 x62 x63 x64 x65 x66 x67 x68 x69 x70 x71 x72 x73 x74 x75 x76 x77 x78 x79 x80 x81 x82 x83 x84 x85 x86 x87 x88 x89 x90 x91 x92 x93 x94 x95 x96 x97 x98 x99 x100 x101 x102 x103 x104 x105 x106 x107 x108 x109 x110 x111 x112 x113 x114 x115 x116 x117 x118 x119 x120 x121 x122 x123 x124 x125 x126 x127 x128 x129 x130 x131 x132 x133 x134 x135 x136 x137 x138 x139 x140 x141 x142 x143 x144 x145 x146 x147 ⟨a', b', lim, wb, wp, u, rfl, rfl, rfl, rfl, rfl, rfl, hlim, hs, hI⟩
  have q0 := hI.h0
  have q1 := hI.h1
  have q2 := hI.h2
  have hul := hs.ln
  have ed : (b' : Int) - (a' : Int) = ((b' - a' : Nat) : Int) := by omega
  refine stp ?_
  rw [ed]
  refine stp ?_
  refine C.if (fun h12 => ?_) (fun h12 => ?_)
  · refine stp ?_
    refine O.call' (insertion_ok H oo hs q1 (by omega) (by omega)) (fun r h2 hr => ?_)
    obtain ⟨m, hs2, hw, hso⟩ := hr
    refine stp ?_
    have hI2 := hI.some (by omega) hw
    exact ⟨m, hs2, hI2.sw, hI2.done hso⟩
  refine stp ?_
  refine C.if (fun hl0 => ?_) (fun hl0 => ?_)
  · refine stp ?_
    refine O.call' (heapsort_ok H oo hs (by omega) (by omega) (by omega)) (fun r h2 hr => ?_)
    obtain ⟨m, hs2, hw, hso⟩ := hr
    refine stp ?_
    have hI2 := hI.some (by omega) hw
    exact ⟨m, hs2, hI2.sw, hI2.done hso⟩
  refine stp ?_
  refine cut1 [0, 0, 0, 2, 0, 0, 0, 0, 0, 0, 0, 0, 0, 0, 0, 0, 0, 0, 0, 0, 0, 0, 0, 0, 0, 0, 0, 0, 0, 0, 0, 0, 0, 0, 0, 0, 0, 0, 0, 0, 1, 1, 1, 1, 1, 1, 1, 0, 0, 0, 0, 0, 0, 0, 0, 0, 0, 0, 0, 0, 0, 0, 0, 0, 0, 0, 0, 0, 0, 0, 0, 0, 0, 0, 0, 0, 0, 0, 0, 0, 0, 0, 0, 0, 0, 0, 0, 0, 0, 0, 0, 0, 0, 0, 0, 0, 0, 0, 0, 0, 0, 0, 0, 0, 0, 0, 0, 0, 0, 0, 0, 0, 0, 0, 0, 0, 0, 0, 0, 0, 0, 0, 0, 0, 0, 0, 0, 0, 0, 0, 0, 0, 0, 0, 0, 0, 0, 0, 0, 0, 0, 0, 0, 0, 0, 0, 0, 0] .normal (fun v hx => ∃ (lim' : Nat) (u : List Sg), v = .int .i64 lim' ∧ lim' < 1000 ∧ PS q n j G h0 hx u ∧ PdI lt a b a' b' l u) ?_ ?_
  · cases wb with
    | true =>
      refine stp ?_
      exact cutQ1.out 3 ⟨lim, u, rfl, hlim, hs, hI⟩
    | false =>
      refine stp ?_
      refine O.call' (break_ok hs (by omega) (by omega) hn hs.fr.n) (fun r h2 hr => ?_)
      obtain ⟨m, hs2, hw⟩ := hr
      refine stp ?_
      rw [show (lim : Int) - 1 = ((lim - 1 : Nat) : Int) from by omega]
      exact cutQ1.out 3 ⟨lim - 1, m, rfl, by omega, hs2, hI.some (by omega) hw⟩
  clear hs hI hul hl0 hlim
  intro v3 h2 x40 x41 x42 x43 x44 x45 x46 ⟨lim', u, e3, hlim, hs, hI⟩
  subst e3
  have hul := hs.ln
  refine stp ?_
  refine O.call' (pivot_ok H hs (by omega) (by omega) (by omega) hs.fr.n) (fun r h3 hr => ?_)
  obtain ⟨c, hint, rfl, hc1, hc2, hs3⟩ := hr
  refine stp ?_
  refine cut2 [0, 0, 0, 0, 0, 0, 0, 0, 0, 0, 0, 0, 0, 2, 2, 0, 0, 0, 0, 0, 0, 0, 0, 0, 0, 0, 0, 0, 0, 0, 0, 0, 0, 0, 0, 0, 0, 0, 0, 0, 0, 0, 0, 0, 0, 0, 0, 0, 0, 0, 0, 0, 0, 0, 0, 0, 0, 1, 1, 1, 1, 1, 1, 1, 1, 1, 1, 1, 0, 0, 0, 0, 0, 0, 0, 0, 0, 0, 0, 0, 0, 0, 0, 0, 0, 0, 0, 0, 0, 0, 0, 0, 0, 0, 0, 0, 0, 0, 0, 0, 0, 0, 0, 0, 0, 0, 0, 0, 0, 0, 0, 0, 0, 0, 0, 0, 0, 0, 0, 0, 0, 0, 0, 0, 0, 0, 0, 0, 0, 0, 0, 0, 0, 0, 0, 0, 0, 0, 0, 0, 0, 0, 0, 0, 0, 0, 0, 0] .normal (fun v w hx => ∃ (c : Nat) (hint : Int) (u : List Sg), v = .int .i64 c ∧ w = .int .i64 hint ∧ a' ≤ c ∧ c < b' ∧ PS q n j G h0 hx u ∧ PdI lt a b a' b' l u) ?_ ?_
  · refine C.if (fun h4 => ?_) (fun h4 => ?_)
    · refine stp ?_
      refine O.call' (reverse_ok hs3 q1 (by omega) (by omega)) (fun r h4 hr => ?_)
      obtain ⟨m, hs4, hw⟩ := hr
      refine stp ?_
      rw [show (b' : Int) - 1 - ((c : Int) - (a' : Int)) = ((b' - 1 - (c - a') : Nat) : Int) from by omega]
      exact cutQ2.out 13 14 ⟨_, 1, m, rfl, rfl, by omega, by omega, hs4, hI.some (by omega) hw⟩
    · refine stp ?_
      exact cutQ2.out 13 14 ⟨c, hint, u, rfl, rfl, hc1, hc2, hs3, hI⟩
  clear hs hs3 hI hul hc1 hc2
  intro v13 v14 h4 x57 x58 x59 x60 x61 x62 x63 x64 x65 x66 x67 ⟨c, hint, u, e13, e14, hc1, hc2, hs, hI⟩
  subst e13 e14
  have hul := hs.ln
  refine C.next ?_
  refine RunC.seq ?_
  refine cut1 [0, 0, 0, 0, 0, 0, 0, 0, 0, 0, 0, 0, 0, 0, 0, 0, 0, 0, 0, 0, 0, 0, 0, 0, 0, 0, 0, 0, 0, 0, 0, 0, 0, 0, 0, 0, 0, 0, 0, 0, 0, 0, 0, 0, 0, 0, 0, 0, 0, 0, 0, 0, 0, 0, 0, 0, 0, 0, 0, 0, 0, 0, 0, 0, 0, 0, 0, 0, 2, 1, 1, 1, 1, 1, 1, 1, 1, 1, 1, 1, 1, 0, 0, 0, 0, 0, 0, 0, 0, 0, 0, 0, 0, 0, 0, 0, 0, 0, 0, 0, 0, 0, 0, 0, 0, 0, 0, 0, 0, 0, 0, 0, 0, 0, 0, 0, 0, 0, 0, 0, 0, 0, 0, 0, 0, 0, 0, 0, 0, 0, 0, 0, 0, 0, 0, 0, 0, 0, 0, 0, 0, 0, 0, 0, 0, 0, 0, 0] .normal (fun v hx => ∃ u : List Sg, PS q n j G h0 hx u ∧ PdI lt a b a' b' l u) ?_ ?_
  · cases wb with
    | false =>
      refine stp ?_
      exact cutQ1.out 68 ⟨u, hs, hI⟩
    | true =>
    cases wp with
    | false =>
      refine stp ?_
      exact cutQ1.out 68 ⟨u, hs, hI⟩
    | true =>
    refine stp ?_
    refine C.if (fun h5 => ?_) (fun h5 => ?_)
    · refine stp ?_
      refine O.call' (partial_ok H oo hs (by omega) (by omega) (by omega) hI.lo) (fun r h5 hr => ?_)
      obtain ⟨m, is, rfl, hs5, hw, hso⟩ := hr
      have hI2 := hI.some (by omega) hw
      refine stp ?_
      cases is with
      | true =>
        refine stp ?_
        refine cutQ1.pass ?_
        refine stp ?_
        exact ⟨m, hs5, hI2.sw, hI2.done (hso rfl)⟩
      | false =>
        refine stp ?_
        exact cutQ1.out 68 ⟨m, hs5, hI2⟩
    · refine stp ?_
      exact cutQ1.out 68 ⟨u, hs, hI⟩
  clear hs hI hul
  intro v68 h5 x69 x70 x71 x72 x73 x74 x75 x76 x77 x78 x79 x80 ⟨u, hs, hI⟩
  have hul := hs.ln
  refine C.next ?_
  refine RunC.seq ?_
  refine cut1 [0, 0, 0, 0, 0, 0, 0, 0, 0, 0, 0, 0, 0, 0, 0, 0, 0, 0, 0, 0, 0, 0, 0, 0, 0, 0, 0, 0, 0, 0, 0, 0, 0, 0, 0, 0, 0, 0, 0, 0, 0, 0, 0, 0, 0, 0, 0, 0, 0, 0, 0, 0, 0, 0, 0, 0, 0, 0, 0, 0, 0, 0, 0, 0, 0, 0, 0, 0, 0, 0, 0, 0, 0, 0, 0, 0, 0, 0, 0, 0, 0, 2, 1, 1, 1, 1, 1, 1, 1, 1, 1, 1, 1, 1, 1, 1, 1, 1, 0, 0, 0, 0, 0, 0, 0, 0, 0, 0, 0, 0, 0, 0, 0, 0, 0, 0, 0, 0, 0, 0, 0, 0, 0, 0, 0, 0, 0, 0, 0, 0, 0, 0, 0, 0, 0, 0, 0, 0, 0, 0, 0, 0, 0, 0, 0, 0, 0, 0] .normal (fun v hx => PS q n j G h0 hx u) ?_ ?_
  · rcases Nat.eq_zero_or_pos a' with h6 | h6
    · haveI g1 : ∀ {ts : List Value} {h : Heap} {O : Oper} {x z : Operand} [Ev ts x (.int .i64 (a' : Nat))] [Ev ts z (.int .i64 0)], XOp Tryz.prog ts h (.bin .gtr O x z) (.bool false) h := xgtr0 (by omega)
      refine stp ?_
      exact cutQ1.out 81 hs
    · haveI g1 : ∀ {ts : List Value} {h : Heap} {O : Oper} {x z : Operand} [Ev ts x (.int .i64 (a' : Nat))] [Ev ts z (.int .i64 0)], XOp Tryz.prog ts h (.bin .gtr O x z) (.bool true) h := xgtr1 (by omega)
      haveI : IdxOff 0 ((a' : Int) - 1) 37 ((a' - 1) * 37) := ⟨by omega⟩
      haveI : InR .i64 ((a' : Int) - 1) := inr_i64 (by omega)
      obtain ⟨i0, i1, i2, _, _⟩ := hs.ov (x := a' - 1) (y := c) (by omega) (by omega)
      refine stp ?_
      refine D.howT (XOp.mkIndexSl (by omega)) rfl ?_
      refine stp ?_
      refine D.howT (XOp.mkIndexSl (by omega)) rfl ?_
      refine stp ?_
      refine D.callT (hs.cmp H (x := a' - 1) (y := c) (by omega) (by omega)) (fun r g hr => rfl) (fun r g hr => ?_)
      obtain ⟨⟨z, rfl, hz⟩, hs2⟩ := hr
      have hz0 : z < 0 := hz.2 (hI.lo h6 c hc1 hc2)
      haveI g2 : ∀ {ts : List Value} {h : Heap} {O : Oper} {x y : Operand} [Ev ts x (.int .i64 z)] [Ev ts y (.int .i64 0)], XOp Tryz.prog ts h (.bin .lss O x y) (.bool true) h := xlss1 hz0
      refine stp ?_
      exact cutQ1.out 81 hs2
  clear hs
  intro v81 h6 x82 x83 x84 x85 x86 x87 x88 x89 x90 x91 x92 x93 x94 x95 x96 x97 hs
  refine stp ?_
  refine O.call' (partition_ok H hs hc1 hc2 (by omega) (by omega)) (fun r h7 hr => ?_)
  obtain ⟨m, c, is, rfl, hs7, hw, hp⟩ := hr
  have hI7 := hI.some (by omega) hw
  have p1 := hp.ac
  have p2 := hp.cb
  have hml := hs7.ln
  have hd7 := hdist.perm (hI7.sw.perm (by omega))
  obtain ⟨lo1, lo2⟩ := hI7.low (by omega) hd7 hp
  refine stp ?_
  have e8 : IntKind.i64.wrap (((b' - a' : Nat) : Int).tdiv 8) = (((b' - a') / 8 : Nat) : Int) := quo_nat (b' - a') 8 (by omega) (by omega)
  refine O.how (XOp.quoI (by decide)) ?_
  rw [e8]
  refine stp ?_
  refine C.if (fun h8 => ?_) (fun h8 => ?_)
  · refine stp ?_
    refine O.call' (ih (c - a') (by omega) (Nat.le_refl _) hs7 p1 (by omega) hlim lo1 hd7) (fun r h9 hr => ?_)
    obtain ⟨m2, hs9, hw9, hso9⟩ := hr
    refine stp ?_
    exact loop5a 1 2 3 10 11 (b' - (c + 1)) (by omega) ⟨c + 1, b', lim', _, is, m2, rfl, rfl, rfl, rfl, rfl, rfl, hlim, hs9, hI7.left oo (by omega) hd7 hp hw9 hso9⟩
  · refine stp ?_
    rw [show (c : Int) + 1 = ((c + 1 : Nat) : Int) from rfl]
    refine O.call' (ih (b' - (c + 1)) (by omega) (Nat.le_refl _) hs7 (by omega) (by omega) hlim lo2 hd7) (fun r h9 hr => ?_)
    obtain ⟨m2, hs9, hw9, hso9⟩ := hr
    refine stp ?_
    exact loop5a 1 2 3 10 11 (c - a') (by omega) ⟨a', c, lim', _, is, m2, rfl, rfl, rfl, rfl, rfl, rfl, hlim, hs9, hI7.right oo (by omega) hp hw9 hso9⟩
end
end Go.Proofs.YtagmnpeilgnbdaaGreat.A

namespace Go.Proofs.YtagmnpeilgnbdaaGreat.A
open Go Go.Vm
set_option maxRecDepth 10000
set_option linter.unusedVariables false
theorem cmp_cons (a b : UInt8) (l m : List UInt8) : cmpB (a :: l) (b :: m) = if a ≠ b then (if a < b then -1 else 1) else cmpB l m := by
  unfold cmpB Extern.BytealgCompare.cmp
  have s1 : ∀ (x : UInt8) (k : List UInt8), (⟨⟨x :: k⟩⟩ : ByteArray).size = k.length + 1 := fun _ _ => rfl
  have s2 : ∀ (k : List UInt8), (⟨⟨k⟩⟩ : ByteArray).size = k.length := fun _ => rfl
  have g0 : ∀ (x : UInt8) (k : List UInt8), (⟨⟨x :: k⟩⟩ : ByteArray)[0]! = x := fun _ _ => rfl
  have g1 : ∀ (x : UInt8) (k : List UInt8) (i : Nat), (⟨⟨x :: k⟩⟩ : ByteArray)[i + 1]! = (⟨⟨k⟩⟩ : ByteArray)[i]! := fun x k i => by
    by_cases h : i < k.length
    · rw [getElem!_pos (⟨⟨x :: k⟩⟩ : ByteArray) (i + 1) (by rw [s1]; omega), getElem!_pos (⟨⟨k⟩⟩ : ByteArray) i (by rw [s2]; exact h)]
      rfl
    · rw [getElem!_neg (⟨⟨x :: k⟩⟩ : ByteArray) (i + 1) (by rw [s1]; omega), getElem!_neg (⟨⟨k⟩⟩ : ByteArray) i (by rw [s2]; exact h)]
  rw [s1, s1, s2, s2, show min (l.length + 1) (m.length + 1) = min l.length m.length + 1 from by omega, List.range_succ_eq_map, List.find?_cons]
  by_cases h : a = b
  · subst h
    rw [if_neg (show ¬ (a ≠ a) from fun q => q rfl)]
    simp only [g0, bne_self_eq_false]
    rw [List.find?_map]
    have : ((fun i => (⟨⟨a :: l⟩⟩ : ByteArray)[i]! != (⟨⟨a :: m⟩⟩ : ByteArray)[i]!) ∘ Nat.succ) = fun i => (⟨⟨l⟩⟩ : ByteArray)[i]! != (⟨⟨m⟩⟩ : ByteArray)[i]! := by
      funext i
      show ((⟨⟨a :: l⟩⟩ : ByteArray)[i + 1]! != (⟨⟨a :: m⟩⟩ : ByteArray)[i + 1]!) = _
      rw [g1, g1]
    rw [this]
    cases hf : (List.range (min l.length m.length)).find? fun i => (⟨⟨l⟩⟩ : ByteArray)[i]! != (⟨⟨m⟩⟩ : ByteArray)[i]! with
    | none =>
      simp only [Option.map_none]
      have e1 : (l.length + 1 < m.length + 1) = (l.length < m.length) := by simp
      have e2 : (l.length + 1 > m.length + 1) = (l.length > m.length) := by simp
      simp only [e1, e2]
    | some i =>
      simp only [Option.map_some]
      rw [show Nat.succ i = i + 1 from rfl, g1, g1]
  · have e : (a != b) = true := by simpa using h
    rw [if_pos h]
    simp only [g0, e]
def bnum : List UInt8 → Nat
  | [] => 0
  | a :: l => a.toNat * 256 ^ l.length + bnum l
theorem bv_ex : ∃ f : List UInt8 → Nat, ∀ l, f l = bnum l := ⟨_, fun _ => rfl⟩
def bv : List UInt8 → Nat := Classical.choose bv_ex
theorem bv_eq (l : List UInt8) : bv l = bnum l := Classical.choose_spec bv_ex l
theorem bnum_lt : ∀ l : List UInt8, bnum l < 256 ^ l.length
  | [] => by simp [bnum]
  | a :: l => by
    have h1 := bnum_lt l
    have h2 := a.toNat_lt
    show a.toNat * 256 ^ l.length + bnum l < 256 ^ (l.length + 1)
    rw [Nat.pow_succ]
    generalize 256 ^ l.length = P at *
    have h3 : (a.toNat + 1) * P ≤ 256 * P := Nat.mul_le_mul_right P (by omega)
    rw [Nat.add_mul] at h3
    omega
theorem num_two {a b P x y : Nat} (hx : x < P) (hy : y < P) : (a * P + x < b * P + y ↔ a < b ∨ a = b ∧ x < y) ∧ (a * P + x = b * P + y ↔ a = b ∧ x = y) := by
  rcases Nat.lt_trichotomy a b with h | h | h
  · have h1 : (a + 1) * P ≤ b * P := Nat.mul_le_mul_right P (by omega)
    rw [Nat.add_mul] at h1
    exact ⟨⟨fun _ => .inl h, fun _ => by omega⟩, ⟨fun _ => by omega, fun _ => by omega⟩⟩
  · subst h
    exact ⟨⟨fun _ => .inr ⟨rfl, by omega⟩, fun _ => by omega⟩, ⟨fun _ => ⟨rfl, by omega⟩, fun q => by rw [q.2]⟩⟩
  · have h1 : (b + 1) * P ≤ a * P := Nat.mul_le_mul_right P (by omega)
    rw [Nat.add_mul] at h1
    exact ⟨⟨fun _ => by omega, fun _ => by omega⟩, ⟨fun _ => by omega, fun _ => by omega⟩⟩
theorem u8eq {a b : UInt8} : a = b ↔ a.toNat = b.toNat := ⟨fun e => by rw [e], fun e => UInt8.toNat_inj.1 e⟩
theorem cmp_num : ∀ {l m : List UInt8}, l.length = m.length → cmpB l m = if bnum l < bnum m then -1 else if bnum l = bnum m then 0 else 1
  | [], [], _ => rfl
  | a :: l, b :: m, h => by
    have hl : l.length = m.length := by simpa using h
    have h1 := bnum_lt l
    have h2 := bnum_lt m
    rw [← hl] at h2
    have hn := num_two (a := a.toNat) (b := b.toNat) h1 h2
    rw [cmp_cons, cmp_num hl]
    have e1 : bnum (a :: l) = a.toNat * 256 ^ l.length + bnum l := rfl
    have e2 : bnum (b :: m) = b.toNat * 256 ^ l.length + bnum m := by rw [hl]; rfl
    rw [e1, e2]
    simp only [hn.1, hn.2]
    by_cases hab : a = b
    · rw [if_neg (fun q => q hab)]
      subst hab
      simp
    · have hab' : a.toNat ≠ b.toNat := fun q => hab (u8eq.2 q)
      rw [if_pos hab]
      by_cases hlt : a < b
      · have hlt' : a.toNat < b.toNat := hlt
        rw [if_pos hlt, if_pos (.inl hlt')]
      · have hlt' : ¬ a.toNat < b.toNat := hlt
        rw [if_neg hlt, if_neg (by omega), if_neg (by omega)]
  | [], b :: m, h => by simp at h
  | a :: l, [], h => by simp at h
theorem bnum_inj : ∀ {l m : List UInt8}, l.length = m.length → bnum l = bnum m → l = m
  | [], [], _, _ => rfl
  | a :: l, b :: m, h, e => by
    have hl : l.length = m.length := by simpa using h
    have h1 := bnum_lt l
    have h2 := bnum_lt m
    rw [← hl] at h2
    have e2 : a.toNat * 256 ^ l.length + bnum l = b.toNat * 256 ^ l.length + bnum m := by
      have : bnum (b :: m) = b.toNat * 256 ^ l.length + bnum m := by rw [hl]; rfl
      rw [← this]; exact e
    obtain ⟨e3, e4⟩ := (num_two h1 h2).2.1 e2
    rw [u8eq.2 e3, bnum_inj hl e4]
  | [], b :: m, h, _ => by simp at h
  | a :: l, [], h, _ => by simp at h
theorem cmp_bv {l m : List UInt8} (h : l.length = m.length) : cmpB l m = if bv l < bv m then -1 else if bv l = bv m then 0 else 1 := by rw [bv_eq, bv_eq]; exact cmp_num h
theorem bv_inj {l m : List UInt8} (h : l.length = m.length) (e : bv l = bv m) : l = m := bnum_inj h (by rw [← bv_eq, ← bv_eq]; exact e)
def ltG (a b : Sg) : Bool := decide (bv a.key < bv b.key ∨ bv a.key = bv b.key ∧ (bv a.hash < bv b.hash ∨ bv a.hash = bv b.hash ∧ a.sg < b.sg))
theorem ltG_ord : Ord ltG :=
  ⟨fun a b h => by simp only [ltG, decide_eq_true_eq, decide_eq_false_iff_not] at h ⊢; omega, fun a b c h1 h2 => by simp only [ltG, decide_eq_false_iff_not] at h1 h2 ⊢; omega⟩
theorem Sg.ext' {a b : Sg} (h1 : a.key = b.key) (h2 : a.hash = b.hash) (h3 : a.sg = b.sg) : a = b := by
  obtain ⟨a0, a1, a2, a3, ah, a5, al⟩ := a
  obtain ⟨b0, b1, b2, b3, bh, b5, bl⟩ := b
  simp only [Sg.key, List.cons.injEq, and_true] at h1
  obtain ⟨rfl, rfl, rfl, rfl⟩ := h1
  subst h2 h3
  rfl
theorem ltG_tot {a b : Sg} (h : a ≠ b) : ltG a b = true ∨ ltG b a = true := by
  simp only [ltG, decide_eq_true_eq]
  by_cases h1 : bv a.key = bv b.key
  · by_cases h2 : bv a.hash = bv b.hash
    · by_cases h3 : a.sg = b.sg
      · exact absurd (Sg.ext' (bv_inj (l := a.key) (m := b.key) rfl h1) (bv_inj (l := a.hash) (m := b.hash) (by rw [a.hl, b.hl]) h2) h3) h
      · omega
    · omega
  · omega
end Go.Proofs.YtagmnpeilgnbdaaGreat.A

namespace Go.Proofs.YtagmnpeilgnbdaaGreat.A
open Go Go.Vm
set_option maxRecDepth 10000
set_option linter.unusedVariables false
theorem Compare_ok {h : Heap} {v w : Value} {a b : List UInt8} {n m : Nat} (h1 : Rd h 1 v (bcells a) n) (h2 : Rd h 1 w (bcells b) m) :
    Runs Tryz.prog T0 (.fn fn_zaQ) [v, w] h (fun r h' => r = .int .i64 (cmpB a b) ∧ h' = h) (fun _ _ => False) := by
  have h1' := h1
  have h2' := h2
  obtain ⟨a0, c0, rfl, _, _⟩ := h1
  obtain ⟨a1, c1, rfl, _, _⟩ := h2
  refine zaQ_runs ?_
  refine stp ?_
  refine O.how (XOp.mkCompare h1' h2' (by kernel_rfl)) ?_
  refine stp ?_
  exact ⟨rfl, rfl⟩
end Go.Proofs.YtagmnpeilgnbdaaGreat.A

namespace Go.Proofs.YtagmnpeilgnbdaaGreat.A
open Go Go.Vm
set_option maxRecDepth 10000
set_option linter.unusedVariables false
instance subKey {s : Sg} : Sub s.cells 0 4 (bcells s.key) := ⟨by rw [s.len]; omega, rfl⟩
instance subHash {s : Sg} : Sub s.cells 4 32 (bcells s.hash) := ⟨by rw [s.len]; omega, by
  have h := s.hl
  show ((bcells s.hash ++ [Value.int .u64 s.sg])).take 32 = bcells s.hash
  rw [← h, ← bcells_len, List.take_left]⟩
instance getSg {s : Sg} : CGet s.cells 36 (.int .u64 s.sg) := ⟨by
  have h : s.cells = (bcells s.key ++ bcells s.hash) ++ [.int .u64 s.sg] := by unfold Sg.cells; rw [List.append_assoc]
  have h2 : (bcells s.key ++ bcells s.hash).length = 36 := by rw [List.length_append, bcells_len, bcells_len, s.hl]; rfl
  rw [h]
  generalize bcells s.key ++ bcells s.hash = c at *
  have : ∀ (c : List Value) (k : Nat) (v : Value), c.length = k → lget (c ++ [v]) k = v := fun c => by
    induction c with
    | nil => intro k v h; subst h; rfl
    | cons x c ih => intro k v h; subst h; exact ih _ v rfl
  exact this c 36 _ h2, by rw [s.len]; omega⟩
def cmpI (a b : Int) : Int := if a < b then -1 else if b < a then 1 else 0
def orI (a b : Int) : Int := if a = 0 then b else a
theorem isNaNU_ok {h : Heap} {a : Int} : Runs Tryz.prog T0 (.fn fn_zdQ) [.int .u64 a] h (fun r h' => r = .bool false ∧ h' = h) (fun _ _ => False) := by
  refine zdQ_runs ?_
  refine stp ?_
  exact ⟨by simp, rfl⟩
theorem CompareU_ok {h : Heap} {a b : Int} : Runs Tryz.prog T0 (.fn fn_zbQ) [.int .u64 a, .int .u64 b] h (fun r h' => r = .int .i64 (cmpI a b) ∧ h' = h) (fun _ _ => False) := by
  refine zbQ_runs ?_
  refine stp ?_
  refine O.call' isNaNU_ok (fun r h1 hr => ?_)
  obtain ⟨rfl, rfl⟩ := hr
  refine stp ?_
  refine O.call' isNaNU_ok (fun r h1 hr => ?_)
  obtain ⟨rfl, rfl⟩ := hr
  refine stp ?_
  unfold cmpI
  refine C.if (fun h1 => ?_) (fun h1 => ?_)
  · refine stp ?_
    rw [if_pos h1]
    exact ⟨rfl, rfl⟩
  · refine stp ?_
    rw [if_neg h1]
    refine C.if (fun h2 => ?_) (fun h2 => ?_)
    · refine stp ?_
      rw [if_pos h2]
      exact ⟨rfl, rfl⟩
    · refine stp ?_
      rw [if_neg h2]
      exact ⟨rfl, rfl⟩
theorem Or3_ok {h : Heap} {q : Nat} {a b c : Int} (hq : h.get q = .cells [.int .i64 a, .int .i64 b, .int .i64 c] 0) (ql : q < h.n) : Runs Tryz.prog T0 (.fn fn_zcQ) [.slice (some ⟨q, 0, none⟩) 3 3] h (fun r h' => r = .int .i64 (orI a (orI b c)) ∧ h' = h) (fun _ _ => False) := by
  haveI : HGet h q _ := ⟨hq⟩
  refine zcQ_runs ?_
  refine stp ?_
  refine loop1 zcQ_l0_M 8 (fun m v8 hx => hx = h ∧ (m = 3 ∧ v8 = .int .i64 0 ∨ m = 2 ∧ v8 = .int .i64 1 ∧ a = 0 ∨ m = 1 ∧ v8 = .int .i64 2 ∧ a = 0 ∧ b = 0 ∨ m = 0 ∧ v8 = .int .i64 3 ∧ a = 0 ∧ b = 0 ∧ c = 0)) ?_ 3 ⟨rfl, .inl ⟨rfl, rfl⟩⟩
  rintro m v8 h' x2 x5 x9 x10 x11 x12 x13 x14 x15 x16 ⟨rfl, ⟨rfl, rfl⟩ | ⟨rfl, rfl, ha⟩ | ⟨rfl, rfl, ha, hb⟩ | ⟨rfl, rfl, ha, hb, hc⟩⟩
  · refine stp ?_
    refine C.ifN (fun e1 => ?_) (fun e1 => ?_)
    · refine stp ?_
      unfold orI
      rw [if_neg e1]
      exact ⟨rfl, rfl⟩
    · refine stp ?_
      exact loop1a 8 2 (by omega) ⟨rfl, .inr (.inl ⟨rfl, rfl, e1⟩)⟩
  · refine stp ?_
    refine C.ifN (fun e1 => ?_) (fun e1 => ?_)
    · refine stp ?_
      unfold orI
      rw [if_pos ha, if_neg e1]
      exact ⟨rfl, rfl⟩
    · refine stp ?_
      exact loop1a 8 1 (by omega) ⟨rfl, .inr (.inr (.inl ⟨rfl, rfl, ha, e1⟩))⟩
  · refine stp ?_
    refine C.ifN (fun e1 => ?_) (fun e1 => ?_)
    · refine stp ?_
      unfold orI
      rw [if_pos ha, if_pos hb]
      exact ⟨rfl, rfl⟩
    · refine stp ?_
      exact loop1a 8 0 (by omega) ⟨rfl, .inr (.inr (.inr ⟨rfl, rfl, ha, hb, e1⟩))⟩
  · refine stp ?_
    unfold orI
    rw [if_pos ha, if_pos hb, hc]
    exact ⟨rfl, rfl⟩
def cmpG (a b : Sg) : Int := orI (cmpB a.key b.key) (orI (cmpB a.hash b.hash) (cmpI a.sg b.sg))
theorem cmpG_lt (a b : Sg) : cmpG a b < 0 ↔ ltG a b = true := by
  unfold cmpG ltG orI cmpI
  rw [cmp_bv (l := a.key) (m := b.key) rfl, cmp_bv (l := a.hash) (m := b.hash) (by rw [a.hl, b.hl])]
  simp only [decide_eq_true_eq]
  by_cases h1 : bv a.key < bv b.key
  · simp [h1]
  · by_cases h2 : bv a.key = bv b.key
    · by_cases h3 : bv a.hash < bv b.hash
      · simp [h2, h3]
      · by_cases h4 : bv a.hash = bv b.hash
        · by_cases h5 : a.sg < b.sg
          · simp [h2, h4, h5]
          · by_cases h6 : b.sg < a.sg
            · simp [h2, h4, h5, h6]
            · simp [h2, h4, h5, h6]
        · simp [h2, h3, h4]
    · simp [h1, h2]
set_option maxHeartbeats 8000000 in
theorem gcompare_ok {h : Heap} {a b : Sg} : Runs Tryz.prog T0 (.fn fn_zbcQ) [.agg ⟨a.cells⟩, .agg ⟨b.cells⟩] h (fun r h' => r = .int .i64 (cmpG a b) ∧ Fr (fun _ => False) h h') (fun _ _ => False) := by
  have gA : ((h.push (.cells a.cells 0)).push (.cells b.cells 0)).get h.n = .cells a.cells 0 := by rw [Heap.get_push, if_neg (by simp), Heap.get_push, if_pos rfl]
  have gB : ((h.push (.cells a.cells 0)).push (.cells b.cells 0)).get (h.n + 1) = .cells b.cells 0 := by rw [Heap.get_push, if_pos (by simp)]
  have n2 : ((h.push (.cells a.cells 0)).push (.cells b.cells 0)).n = h.n + 2 := rfl
  have F2 : Fr (fun _ => False) h ((h.push (.cells a.cells 0)).push (.cells b.cells 0)) := Fr.refl.push.push
  refine zbcQ_runs ?_
  refine stp ?_
  simp only [Heap.n_push]
  generalize (h.push (.cells a.cells 0)).push (.cells b.cells 0) = h2 at *
  haveI : HGet h2 h.n _ := ⟨gA⟩
  haveI : HGet h2 (h.n + 1) _ := ⟨gB⟩
  have cell : ∀ {b o n : Nat} {c out : List Value}, h2.get b = .cells c 0 → Sub c o n out → cellsAt h2 b o n = some out := fun {b o n c out} hg hs => by
    rw [cellsAt_of (c := c) (by rw [hg]; rfl) hs.le, hs.eq]
  refine stp ?_
  refine D.callX (Compare_ok (a := a.key) (b := b.key) (Rd.mk (n := 4) (by omega) (cell gA subKey)) (Rd.mk (n := 4) (by omega) (cell gB subKey))) (fun r h3 hr => ?_) (fun r h3 hr => ?_) (fun _ _ hx => hx.elim)
  · obtain ⟨rfl, rfl⟩ := hr
    repeat refine stab_cons inferInstance ?_
    rfl
  obtain ⟨rfl, rfl⟩ := hr
  refine stp ?_
  refine D.callX (Compare_ok (a := a.hash) (b := b.hash) (Rd.mk (n := 32) (by omega) (cell gA subHash)) (Rd.mk (n := 32) (by omega) (cell gB subHash))) (fun r h4 hr => ?_) (fun r h4 hr => ?_) (fun _ _ hx => hx.elim)
  · obtain ⟨rfl, rfl⟩ := hr
    repeat refine stab_cons inferInstance ?_
    rfl
  obtain ⟨rfl, rfl⟩ := hr
  refine stp ?_
  refine D.callX CompareU_ok (fun r h5 hr => rfl) (fun r h5 hr => ?_) (fun _ _ hx => hx.elim)
  obtain ⟨rfl, rfl⟩ := hr
  refine stp ?_
  refine D.callX (Or3_ok (q := h5.n) (by rw [Heap.get_push, if_pos rfl]) (by simp)) (fun r h6 hr => rfl) (fun r h6 hr => ?_) (fun _ _ hx => hx.elim)
  obtain ⟨rfl, rfl⟩ := hr
  refine stp ?_
  exact ⟨rfl, F2.push⟩
end Go.Proofs.YtagmnpeilgnbdaaGreat.A

namespace Go.Proofs.YtagmnpeilgnbdaaGreat.A
open Go Go.Vm
set_option maxRecDepth 10000
set_option linter.unusedVariables false
instance leavesG : TLeaves Tryz.prog 54 (u8s 32 ++ (u8s 4 ++ (.i .u64 :: []))) := ⟨by kernel_rfl, by kernel_rfl, by kernel_rfl⟩
instance klG {s : Sg} : KL (u8s 32 ++ (u8s 4 ++ (.i .u64 :: []))) s.cells := ⟨by
  have h1 : KLp (u8s 4) (bcells s.key) := ⟨rfl, rfl, rfl, rfl, trivial⟩
  have h2 : KLp (u8s 32) (bcells s.hash) := by
    have h := s.hl
    have : ∀ (l : List UInt8) (n : Nat), l.length = n → KLp (u8s n) (bcells l) := fun l => by
      induction l with
      | nil => intro n h; subst h; trivial
      | cons a l ih => intro n h; subst h; exact ⟨rfl, ih _ rfl⟩
    exact this _ _ h
  have h3 : KLp [.i .u64] [Value.int .u64 s.sg] := ⟨rfl, trivial⟩
  have h4 := h1.append (h2.append h3)
  have e : u8s 4 ++ (u8s 32 ++ [LK.i .u64]) = u8s 32 ++ (u8s 4 ++ (.i .u64 :: [])) := rfl
  rw [e] at h4
  exact h4⟩
theorem groundG (s : Sg) : ground (.agg ⟨s.cells⟩) = true := by
  have h : ∀ l : List UInt8, ∀ r : List Value, groundL r = true → groundL (bcells l ++ r) = true := fun l r hr => by
    induction l with
    | nil => exact hr
    | cons a l ih => simpa [bcells, groundL, ground] using ih
  have h1 : groundL s.cells = true := by
    unfold Sg.cells
    exact h _ _ (h _ _ rfl)
  simpa [ground, groundA] using h1
theorem Sg.cells_inj {a b : Sg} (h : a.cells = b.cells) : a = b := by
  have hb : ∀ {l m : List UInt8}, bcells l = bcells m → l = m := fun {l} => by
    induction l with
    | nil => intro m h; cases m with | nil => rfl | cons _ _ => simp [bcells] at h
    | cons x l ih =>
      intro m h
      cases m with
      | nil => simp [bcells] at h
      | cons y m =>
        simp only [bcells, List.map_cons, List.cons.injEq, Value.int.injEq, true_and] at h
        have h1 : x.toNat = y.toNat := by omega
        rw [UInt8.toNat_inj.1 h1, ih h.2]
  unfold Sg.cells at h
  obtain ⟨h1, h2⟩ := List.append_inj h (by rw [bcells_len, bcells_len]; rfl)
  obtain ⟨h3, h4⟩ := List.append_inj h2 (by rw [bcells_len, bcells_len, a.hl, b.hl])
  refine Sg.ext' (hb h1) (hb h3) ?_
  simpa using h4
structure GEnt where
  s : Sg
  t : Nat
def GEnt.me (e : GEnt) : MapEntry := { key := .agg ⟨e.s.cells⟩, val := .agg ⟨[]⟩, born := e.t }
def gents (l : List GEnt) : List MapEntry := l.map GEnt.me
theorem gents_append {l m : List GEnt} : gents (l ++ m) = gents l ++ gents m := by simp [gents]
structure GOK (l : List GEnt) (c : Nat) : Prop where
  k : (l.map (·.s)).Nodup
  t : (l.map (·.t)).Nodup
  lt : ∀ e ∈ l, e.t < c
theorem GOK.nil {c : Nat} : GOK [] c := ⟨List.nodup_nil, List.nodup_nil, by simp⟩
theorem GOK.add {l : List GEnt} {c : Nat} {s : Sg} (h : GOK l c) (hn : ∀ e ∈ l, e.s ≠ s) : GOK (l ++ [⟨s, c⟩]) (c + 1) := by
  refine ⟨?_, ?_, fun e he => ?_⟩
  · rw [List.map_append, List.nodup_append]
    refine ⟨h.k, by simp, fun a ha b hb => ?_⟩
    obtain ⟨e, he, rfl⟩ := List.mem_map.1 ha
    simp only [List.map_cons, List.map_nil, List.mem_singleton] at hb
    subst hb
    exact hn e he
  · rw [List.map_append, List.nodup_append]
    refine ⟨h.t, by simp, fun a ha b hb => ?_⟩
    obtain ⟨e, he, rfl⟩ := List.mem_map.1 ha
    simp only [List.map_cons, List.map_nil, List.mem_singleton] at hb
    subst hb
    have := h.lt e he
    omega
  · rcases List.mem_append.1 he with he | he
    · have := h.lt e he; omega
    · simp only [List.mem_singleton] at he
      subst he
      show c < c + 1
      omega
theorem l32ex {l : List UInt8} (h : l.length = 32) : ∃ a0 a1 a2 a3 a4 a5 a6 a7 a8 a9 b0 b1 b2 b3 b4 b5 b6 b7 b8 b9 c0 c1 c2 c3 c4 c5 c6 c7 c8 c9 d0 d1, l = [a0, a1, a2, a3, a4, a5, a6, a7, a8, a9, b0, b1, b2, b3, b4, b5, b6, b7, b8, b9, c0, c1, c2, c3, c4, c5, c6, c7, c8, c9, d0, d1] := by
  have step : ∀ {n : Nat} {l : List UInt8}, l.length = n + 1 → ∃ a m, l = a :: m ∧ m.length = n := fun {n l} h => by
    cases l with
    | nil => simp at h
    | cons a m => exact ⟨a, m, rfl, by simpa using h⟩
  obtain ⟨a0, l1, rfl, h1⟩ := step h
  obtain ⟨a1, l2, rfl, h2⟩ := step h1
  obtain ⟨a2, l3, rfl, h3⟩ := step h2
  obtain ⟨a3, l4, rfl, h4⟩ := step h3
  obtain ⟨a4, l5, rfl, h5⟩ := step h4
  obtain ⟨a5, l6, rfl, h6⟩ := step h5
  obtain ⟨a6, l7, rfl, h7⟩ := step h6
  obtain ⟨a7, l8, rfl, h8⟩ := step h7
  obtain ⟨a8, l9, rfl, h9⟩ := step h8
  obtain ⟨a9, l10, rfl, h10⟩ := step h9
  obtain ⟨b0, l11, rfl, h11⟩ := step h10
  obtain ⟨b1, l12, rfl, h12⟩ := step h11
  obtain ⟨b2, l13, rfl, h13⟩ := step h12
  obtain ⟨b3, l14, rfl, h14⟩ := step h13
  obtain ⟨b4, l15, rfl, h15⟩ := step h14
  obtain ⟨b5, l16, rfl, h16⟩ := step h15
  obtain ⟨b6, l17, rfl, h17⟩ := step h16
  obtain ⟨b7, l18, rfl, h18⟩ := step h17
  obtain ⟨b8, l19, rfl, h19⟩ := step h18
  obtain ⟨b9, l20, rfl, h20⟩ := step h19
  obtain ⟨c0, l21, rfl, h21⟩ := step h20
  obtain ⟨c1, l22, rfl, h22⟩ := step h21
  obtain ⟨c2, l23, rfl, h23⟩ := step h22
  obtain ⟨c3, l24, rfl, h24⟩ := step h23
  obtain ⟨c4, l25, rfl, h25⟩ := step h24
  obtain ⟨c5, l26, rfl, h26⟩ := step h25
  obtain ⟨c6, l27, rfl, h27⟩ := step h26
  obtain ⟨c7, l28, rfl, h28⟩ := step h27
  obtain ⟨c8, l29, rfl, h29⟩ := step h28
  obtain ⟨c9, l30, rfl, h30⟩ := step h29
  obtain ⟨d0, l31, rfl, h31⟩ := step h30
  obtain ⟨d1, l32, rfl, h32⟩ := step h31
  obtain rfl := List.length_eq_zero_iff.1 h32
  exact ⟨_, _, _, _, _, _, _, _, _, _, _, _, _, _, _, _, _, _, _, _, _, _, _, _, _, _, _, _, _, _, _, _, rfl⟩
theorem gcheck (b : Bool) (s : Sg) : pr Tryz.prog (Instr.checkKey b 10000 54 (.agg ⟨s.cells⟩)) = some (.ok ()) := by
  obtain ⟨k0, k1, k2, k3, hash, x, hl⟩ := s
  obtain ⟨a0, a1, a2, a3, a4, a5, a6, a7, a8, a9, b0, b1, b2, b3, b4, b5, b6, b7, b8, b9, c0, c1, c2, c3, c4, c5, c6, c7, c8, c9, d0, d1, rfl⟩ := l32ex hl
  show pr Tryz.prog (Instr.checkKey b 10000 54 (.agg ⟨[.int .u8 k0.toNat, .int .u8 k1.toNat, .int .u8 k2.toNat, .int .u8 k3.toNat, .int .u8 a0.toNat, .int .u8 a1.toNat, .int .u8 a2.toNat, .int .u8 a3.toNat, .int .u8 a4.toNat, .int .u8 a5.toNat, .int .u8 a6.toNat, .int .u8 a7.toNat, .int .u8 a8.toNat, .int .u8 a9.toNat, .int .u8 b0.toNat, .int .u8 b1.toNat, .int .u8 b2.toNat, .int .u8 b3.toNat, .int .u8 b4.toNat, .int .u8 b5.toNat, .int .u8 b6.toNat, .int .u8 b7.toNat, .int .u8 b8.toNat, .int .u8 b9.toNat, .int .u8 c0.toNat, .int .u8 c1.toNat, .int .u8 c2.toNat, .int .u8 c3.toNat, .int .u8 c4.toNat, .int .u8 c5.toNat, .int .u8 c6.toNat, .int .u8 c7.toNat, .int .u8 c8.toNat, .int .u8 c9.toNat, .int .u8 d0.toNat, .int .u8 d1.toNat, .int .u64 x]⟩)) = _
  clear hl
  kernel_rfl
theorem gask_no {s : Sg} : ∀ {l : List GEnt} (i : Nat), (∀ e ∈ l, e.s ≠ s) → pr Tryz.prog (Instr.findAsking 54 (.agg ⟨s.cells⟩) (gents l) i) = some (.ok none)
  | [], i, _ => rfl
  | e :: l, i, h => by
    show pr Tryz.prog (Op.equal 54 (.agg ⟨s.cells⟩) (.agg ⟨e.s.cells⟩) >>= fun b => if b then pure (some (i, Value.agg ⟨[]⟩)) else Instr.findAsking 54 (.agg ⟨s.cells⟩) (gents l) (i + 1)) = _
    rw [pr_bindE, pr_eql_agg]
    have : same s.cells e.s.cells = false := same_ne.2 fun q => h e (by simp) (Sg.cells_inj q).symm
    rw [this]
    exact gask_no (i + 1) fun x hx => h x (by simp [hx])
theorem gask_yes {s : Sg} : ∀ {l : List GEnt} (i : Nat), (∃ e ∈ l, e.s = s) → ∃ j, pr Tryz.prog (Instr.findAsking 54 (.agg ⟨s.cells⟩) (gents l) i) = some (.ok (some (j, .agg ⟨[]⟩)))
  | [], i, h => by obtain ⟨e, he, _⟩ := h; simp at he
  | e :: l, i, h => by
    show ∃ j, pr Tryz.prog (Op.equal 54 (.agg ⟨s.cells⟩) (.agg ⟨e.s.cells⟩) >>= fun b => if b then pure (some (i, Value.agg ⟨[]⟩)) else Instr.findAsking 54 (.agg ⟨s.cells⟩) (gents l) (i + 1)) = _
    rw [pr_bindE, pr_eql_agg]
    by_cases hs : e.s = s
    · rw [hs, same_self]
      exact ⟨i, rfl⟩
    · have : same s.cells e.s.cells = false := same_ne.2 fun q => hs (Sg.cells_inj q).symm
      rw [this]
      refine gask_yes (i + 1) ?_
      obtain ⟨x, hx, hxs⟩ := h
      rcases List.mem_cons.1 hx with q | q
      · exact absurd (by rw [← q]; exact hxs) hs
      · exact ⟨x, q, hxs⟩
theorem gfind_no {s : Sg} {l : List GEnt} (h : ∀ e ∈ l, e.s ≠ s) : findM Tryz.prog (.slice 54) (.agg ⟨s.cells⟩) (gents l) = some none := by
  have hg : (ground (.agg ⟨s.cells⟩) && (gents l).all fun e => ground e.key) = true := by
    rw [groundG, Bool.true_and, List.all_eq_true]
    intro e he
    obtain ⟨x, hx, rfl⟩ := List.mem_map.1 he
    exact groundG x.s
  simp only [findM, hg, if_true, gcheck, gask_no 0 h]
theorem gfind_yes {s : Sg} {l : List GEnt} (h : ∃ e ∈ l, e.s = s) : ∃ j, findM Tryz.prog (.slice 54) (.agg ⟨s.cells⟩) (gents l) = some (some (j, .agg ⟨[]⟩)) := by
  have hg : (ground (.agg ⟨s.cells⟩) && (gents l).all fun e => ground e.key) = true := by
    rw [groundG, Bool.true_and, List.all_eq_true]
    intro e he
    obtain ⟨x, hx, rfl⟩ := List.mem_map.1 he
    exact groundG x.s
  obtain ⟨j, hj⟩ := gask_yes 0 h
  exact ⟨j, by simp only [findM, hg, if_true, gcheck, hj]⟩
section
variable {ts : List Value} {h : Heap} {m x y : Operand} {zero : Value} {r c : Nat} {l : List GEnt} {s : Sg}
theorem XOp.glookNo (hn : ∀ e ∈ l, e.s ≠ s) [e : Ev ts m (.map (some r))] [g : HGet h r (.map (gents l) c)] [f : Ev ts x (.agg ⟨s.cells⟩)] : XOp Tryz.prog ts h (.lookup (.slice 54) zero true m x) (.tuple ⟨[zero, .bool false]⟩) h := ⟨rfl, by
  simp only [xop, e.eq, f.eq, mapAt, g.eq, gfind_no hn, if_true]⟩
theorem XOp.glookYes (hn : ∃ e ∈ l, e.s = s) [e : Ev ts m (.map (some r))] [g : HGet h r (.map (gents l) c)] [f : Ev ts x (.agg ⟨s.cells⟩)] : XOp Tryz.prog ts h (.lookup (.slice 54) zero true m x) (.tuple ⟨[.agg ⟨[]⟩, .bool true]⟩) h := ⟨rfl, by
  obtain ⟨j, hj⟩ := gfind_yes hn
  simp only [xop, e.eq, f.eq, mapAt, g.eq, hj, if_true]⟩
theorem XOp.gadd (hn : ∀ e ∈ l, e.s ≠ s) [e : Ev ts m (.map (some r))] [g : HGet h r (.map (gents l) c)] [f : Ev ts x (.agg ⟨s.cells⟩)] [f2 : Ev ts y (.agg ⟨[]⟩)] : XOp Tryz.prog ts h (.mapUpdate (.slice 54) m x y) undef (h.set r (.map (gents (l ++ [⟨s, c⟩])) (c + 1))) := ⟨rfl, by
  simp only [xop, e.eq, f.eq, f2.eq, mapAt, g.eq, gfind_no hn, gents_append]; rfl⟩
end
end Go.Proofs.YtagmnpeilgnbdaaGreat.A

namespace Go.Proofs.YtagmnpeilgnbdaaGreat.A
open Go Go.Vm
set_option maxRecDepth 10000
set_option linter.unusedVariables false
def leftG (l : List GEnt) (seen : List Nat) : List GEnt := l.filter fun e => !seen.contains e.t
theorem next_gs {h : Heap} {r m c : Nat} {l : List GEnt} {seen : List Nat} (gi : h.get r = .mapIter (some m) c seen c) (gm : h.get m = .map (gents l) c) (hl : ∀ e ∈ l, e.t < c) :
    nextAt h (.pointer (some ⟨r, 0, none⟩)) = some (if leftG l seen = [] then [(.tuple ⟨[.bool false]⟩, h)] else (leftG l seen).map fun e => (.tuple ⟨[.bool true, .agg ⟨e.s.cells⟩, .agg ⟨[]⟩]⟩, h.set r (.mapIter (some m) c (seen ++ [e.t]) c))) := by
  have hm : ∀ x ∈ gents l, x.born < c := fun x hx => by
    obtain ⟨e, he, rfl⟩ := List.mem_map.1 hx
    exact hl e he
  have hleft : (gents l).filter (fun en => !seen.contains en.born) = gents (leftG l seen) := by
    unfold gents leftG
    rw [List.filter_map]
    rfl
  have hold : (gents (leftG l seen)).filter (fun en => decide (en.born < c)) = gents (leftG l seen) := List.filter_eq_self.2 fun x hx => by
    obtain ⟨e, he, rfl⟩ := List.mem_map.1 hx
    exact decide_eq_true (hl e (List.mem_filter.1 he).1)
  have hnew : (gents (leftG l seen)).filter (fun en => decide (en.born ≥ c)) = [] := List.filter_eq_nil_iff.2 fun x hx => by
    obtain ⟨e, he, rfl⟩ := List.mem_map.1 hx
    have := hl e (List.mem_filter.1 he).1
    simp only [decide_eq_true_eq]
    show ¬ e.t ≥ c
    omega
  have hbad : (!seen.isEmpty && !(gents l).isEmpty && (gents l).all fun en => decide (en.born ≥ c)) = false := by
    cases hq : gents l with
    | nil => simp
    | cons x q =>
      have := hm x (by rw [hq]; simp)
      have : decide (x.born ≥ c) = false := decide_eq_false (by omega)
      simp [this]
  simp only [nextAt, gi, gm, hbad, hleft, hold, hnew]
  cases hq : leftG l seen with
  | nil => rfl
  | cons e q => simp [gents, GEnt.me]
section
variable {P : Program} {T : Table} {ts tsF : List Value} {ds : List Deferred} {h : Heap} {rd : Option Nat} {d r m c : Nat} {chk : List (Option Nat × AOp × Option (Nat × Bool))} {pan : Bool} {rest : List AOper} {Q : QP} {F : Value → List Value} {l : List GEnt} {seen : List Nat} {it : Operand}
theorem O.gnext (hl : GOK l c) [e : Ev ts it (.pointer (some ⟨r, 0, none⟩))] [gi : HGet h r (.mapIter (some m) c seen c)] [gm : HGet h m (.map (gents l) c)] [s : LSetF ts d F]
    (hend : leftG l seen = [] → RunO P T rest ⟨F (.tuple ⟨[.bool false]⟩), ds, h, rd⟩ Q)
    (hnext : ∀ e ∈ leftG l seen, RunO P T rest ⟨F (.tuple ⟨[.bool true, .agg ⟨e.s.cells⟩, .agg ⟨[]⟩]⟩), ds, h.set r (.mapIter (some m) c (seen ++ [e.t]) c), rd⟩ Q) :
    RunO P T (⟨some d, .nextMap it, none, chk, pan⟩ :: rest) ⟨ts, ds, h, rd⟩ Q :=
  RunO.cons rfl (fun _ _ e => by cases e) (RunX.next (by show nextAt h (eval ts it) = _; rw [e.eq]; exact next_gs gi.eq gm.eq hl.lt) fun p hp => by
    show RunO P T rest ⟨lset ts d p.1, ds, p.2, rd⟩ Q
    rw [s.eq]
    split at hp
    · rename_i h0
      simp only [List.mem_singleton] at hp
      subst hp
      exact hend h0
    · obtain ⟨e, he, rfl⟩ := List.mem_map.1 hp
      exact hnext e he)
theorem gfind_born {l : List GEnt} {e : GEnt} (he : e ∈ l) (hn : (l.map (·.t)).Nodup) : (gents l).find? (fun en => en.born == e.t) = some e.me := by
  induction l with
  | nil => simp at he
  | cons a l ih =>
    simp only [List.map_cons, List.nodup_cons] at hn
    show (a.me :: gents l).find? _ = _
    by_cases ht : a.t = e.t
    · have : a = e := by
        rcases List.mem_cons.1 he with h | h
        · exact h.symm
        · exact absurd (List.mem_map.2 ⟨e, h, ht.symm⟩) hn.1
      subst this
      rw [List.find?_cons_of_pos (by simp [GEnt.me])]
    · have hel : e ∈ l := by
        rcases List.mem_cons.1 he with h | h
        · exact absurd (by rw [h]) ht
        · exact h
      rw [List.find?_cons_of_neg (by simpa [GEnt.me] using ht)]
      exact ih hel hn.2
theorem XOp.gentry (hl : GOK l c) {x : GEnt} (hx : x ∈ l) [e : Ev ts it (.pointer (some ⟨r, 0, none⟩))] [gi : HGet h r (.mapIter (some m) c (seen ++ [x.t]) c)] [gm : HGet h m (.map (gents l) c)] : XOp P ts h (.entryMap it) (.tuple ⟨[.agg ⟨x.s.cells⟩, .agg ⟨[]⟩]⟩) h := ⟨rfl, by
  simp only [xop, e.eq, gi.eq, List.getLast?_append, List.getLast?_singleton, Option.some_or, gm.eq, if_true, gfind_born hx hl.t]
  rfl⟩
end
structure TellG (l : List GEnt) (done : List GEnt) : Prop where
  t : (done.map (·.t)).Nodup
  mem : ∀ e ∈ done, e ∈ l
theorem TellG.nil {l : List GEnt} : TellG l [] := ⟨List.nodup_nil, by simp⟩
theorem TellG.next {l done : List GEnt} {e : GEnt} (h : TellG l done) (he : e ∈ leftG l (done.map (·.t))) : TellG l (done ++ [e]) := by
  obtain ⟨h1, h2⟩ := List.mem_filter.1 he
  refine ⟨?_, fun x hx => ?_⟩
  · rw [List.map_append, List.nodup_append]
    refine ⟨h.t, by simp, fun a ha b hb => ?_⟩
    simp only [List.map_cons, List.map_nil, List.mem_singleton] at hb
    subst hb
    rintro rfl
    simp only [Bool.not_eq_true', List.contains_eq_mem, decide_eq_false_iff_not] at h2
    exact h2 ha
  · rcases List.mem_append.1 hx with hx | hx
    · exact h.mem x hx
    · simp only [List.mem_singleton] at hx
      subst hx
      exact h1
theorem TellG.all {l done : List GEnt} (ht : (l.map (·.t)).Nodup) (h : TellG l done) (hn : leftG l (done.map (·.t)) = []) : done.Perm l := by
  refine perm_of_same (nodup_of_map _ h.t) (nodup_of_map _ ht) fun e => ⟨h.mem e, fun he => ?_⟩
  have := List.filter_eq_nil_iff.1 hn e he
  simp only [Bool.not_eq_true', List.contains_eq_mem, decide_eq_false_iff_not, Classical.not_not] at this
  obtain ⟨x, hx, hxe⟩ := List.mem_map.1 this
  have hxl := h.mem x hx
  have : x = e := by
    clear hn this h
    induction l with
    | nil => simp at he
    | cons a l ih =>
      simp only [List.map_cons, List.nodup_cons] at ht
      rcases List.mem_cons.1 he with h1 | h1 <;> rcases List.mem_cons.1 hxl with h2 | h2
      · rw [h1, h2]
      · subst h1; exact absurd (List.mem_map.2 ⟨x, h2, hxe⟩) ht.1
      · subst h2; exact absurd (List.mem_map.2 ⟨e, h1, hxe.symm⟩) ht.1
      · exact ih ht.2 h1 h2
  rwa [this] at hx
end Go.Proofs.YtagmnpeilgnbdaaGreat.A

namespace Go.Proofs.YtagmnpeilgnbdaaGreat.A
open Go Go.Vm
set_option maxRecDepth 10000
set_option linter.unusedVariables false
abbrev zG : List Value := z32 ++ [.int .u8 0, .int .u8 0, .int .u8 0, .int .u8 0, .int .u64 0]
theorem over_all : ∀ (b xs : List Value), b.length = xs.length → over b 0 xs = xs
  | [], [], _ => rfl
  | _ :: b, x :: xs, h => by
    show x :: over b 0 xs = x :: xs
    rw [over_all b xs (by simpa using h)]
  | [], _ :: _, h => by simp at h
  | _ :: _, [], h => by simp at h
instance overZ {s : Sg} : Over zG 0 s.cells s.cells := ⟨by rw [s.len]; decide, over_all _ _ (by rw [s.len]; rfl)⟩
instance subAll {s : Sg} : Sub s.cells 0 37 s.cells := ⟨by rw [s.len]; decide, by rw [List.drop_zero, List.take_of_length_le (by rw [s.len]; decide)]⟩
theorem one_sig {h : Heap} {s : Sg} {es : Nat} : newCells (h.push (.cells s.cells es)) 37 zG false (.slice (some ⟨h.n, 0, none⟩) 1 1) = some (1, s.cells) :=
  (Rd.mk (size := 37) (n := 1) (cap := 1) (sp := none) (o := 0) (b := h.n) (c := s.cells) (by simp) (by rw [cellsAt_of (c := s.cells) (by rw [Heap.get_push, if_pos rfl]; rfl) (by rw [s.len]; decide), List.drop_zero, List.take_of_length_le (by rw [s.len]; decide)])).new _
theorem nodup_sub_len {α : Type} : ∀ {l m : List α}, l.Nodup → (∀ a ∈ l, a ∈ m) → l.length ≤ m.length
  | [], _, _, _ => Nat.zero_le _
  | a :: l, m, hl, h => by
    obtain ⟨p, q, rfl⟩ := List.append_of_mem (h a (by simp))
    have hl' := List.nodup_cons.1 hl
    have := nodup_sub_len (l := l) (m := p ++ q) hl'.2 fun b hb => by
      have h1 := h b (by simp [hb])
      simp only [List.mem_append, List.mem_cons] at h1 ⊢
      rcases h1 with h1 | rfl | h1
      · exact .inl h1
      · exact absurd hb hl'.1
      · exact .inr h1
    simp only [List.length_append, List.length_cons] at this ⊢
    omega
theorem tell_len {l d : List GEnt} (h : TellG l d) : d.length ≤ l.length := nodup_sub_len (nodup_of_map _ h.t) h.mem
theorem Keys_ok {h : Heap} {m : Nat} : Runs Tryz.prog T0 (.fn fn_zkbQ) [.map (some m)] h (fun r h' => r = .func (.func fn_zlbQ) ⟨[]⟩ ⟨[.pointer (some ⟨h.n, 0, none⟩)]⟩ ∧ h'.n = h.n + 1 ∧ h'.get h.n = .cells [.map (some m)] 0 ∧ Fr (fun _ => False) h h') (fun _ _ => False) := by
  refine zkbQ_runs ?_
  refine stp ?_
  exact ⟨rfl, rfl, HGet.new.eq, Fr.refl.push⟩
set_option maxHeartbeats 4000000 in
theorem keys1_ok {h : Heap} {bx m c y : Nat} {l : List GEnt} {I : List GEnt → Heap → Prop} (hbx : h.get bx = .cells [.map (some m)] 0) (hb : bx < h.n) (hm : h.get m = .map (gents l) c) (ml : m < h.n) (ok : GOK l c)
    (h0 : ∀ hx, Fr (fun _ => False) h hx → I [] hx)
    (hk : ∀ d hx hx', I d hx → Fr (fun i => i = h.n) hx hx' → I d hx')
    (hr : ∀ d e hx, h.n < hx.n → I d hx → e ∈ l → d.length < l.length → Runs Tryz.prog T0 (.yield y) [.agg ⟨e.s.cells⟩] hx (fun r h' => r = .bool true ∧ I (d ++ [e]) h' ∧ Fr (fun i => i ≠ h.n ∧ i ≠ m) hx h') (fun _ _ => False)) :
    Runs Tryz.prog T0 (.fn fn_zlbQ) [.func (.yield y) ⟨[]⟩ ⟨[]⟩, .pointer (some ⟨bx, 0, none⟩)] h (fun _ h' => ∃ d : List GEnt, d.Perm l ∧ I d h') (fun _ _ => False) := by
  haveI : HGet h bx _ := ⟨hbx⟩
  haveI : BLt bx h := ⟨hb⟩
  haveI : HGet h m _ := ⟨hm⟩
  haveI : BLt m h := ⟨ml⟩
  refine zlbQ_runs ?_
  refine stp ?_
  refine loop0 zlbQ_l0_M (fun k hx => ∃ d, TellG l d ∧ k = l.length - d.length ∧ hx.get h.n = .mapIter (some m) c (d.map GEnt.t) c ∧ hx.get m = .map (gents l) c ∧ h.n < hx.n ∧ I d hx) ?_ l.length ⟨[], TellG.nil, rfl, HGet.new.eq, by rw [Heap.get_push, if_neg (by omega)]; exact hm, by simp, h0 _ Fr.refl.push⟩
  rintro m h' x3 x6 x7 x8 x9 x10 x11 x12 x13 ⟨d, ht, rfl, gi, gm, hn, hi⟩
  haveI : HGet h' h.n _ := ⟨gi⟩
  haveI : HGet h' m _ := ⟨gm⟩
  haveI : BLt h.n h' := ⟨hn⟩
  haveI : BNe m h.n := ⟨by omega⟩
  refine stp ?_
  refine O.gnext (l := l) (c := c) (m := m) (seen := d.map GEnt.t) ok (fun hend => ?_) (fun e he => ?_)
  · refine stp ?_
    exact ⟨d, ht.all ok.t hend, hi⟩
  · have hel := (List.mem_filter.1 he).1
    have ht2 := ht.next he
    have hlen := tell_len ht2
    rw [List.length_append, List.length_singleton] at hlen
    refine stp ?_
    refine O.how (XOp.gentry (m := m) (c := c) (l := l) (seen := d.map GEnt.t) (x := e) ok hel) ?_
    refine stp ?_
    refine O.yield (hr d e _ (by simp; omega) (hk d _ _ hi ((Fr.refl.set (S := fun i => i = h.n) fun _ => rfl).push)) hel (by omega)) (fun r h3 hr => ?_)
    obtain ⟨rfl, hi3, hf3⟩ := hr
    refine stp ?_
    refine loop0a (l.length - (d.length + 1)) (by omega) ⟨d ++ [e], ht2, by simp, ?_, ?_, ?_, hi3⟩
    · rw [hf3.get _ (by simp; omega) (fun q => q.1 rfl), Heap.get_push, if_neg (by simp; omega), Heap.get_set, if_pos rfl, List.map_append]
      rfl
    · rw [hf3.get _ (by simp; omega) (fun q => q.2 rfl), Heap.get_push, if_neg (by simp; omega), Heap.get_set, if_neg (by omega), gm]
    · have := hf3.n
      simp at this
      omega
set_option maxHeartbeats 4000000 in
theorem aq_round {h : Heap} {lp p2 : Nat} {n : Sg} {v : Value} {L : List Sg} {f0 f1 f3 f4 f5 f6 f7 f8 f9 f10 f11 f12 : Value} (hlp : h.get lp = .loop .ready none [f0, f1, .pointer (some ⟨p2, 0, none⟩), f3, f4, f5, f6, f7, f8, f9, f10, f11, f12] [7] zccQ_ra0 zccQ_rb0)
    (h2 : h.get p2 = .cells [v] 0) (ho : Own h 37 v (gcells L) L.length) (hL : L.length < 100000) (hv : ∀ i, ownedBy v i → i ≠ lp ∧ i ≠ p2) (ll : lp < h.n) (m2 : p2 < h.n) (n2 : p2 ≠ lp) :
    Runs Tryz.prog T0 (.yield lp) [.agg ⟨n.cells⟩] h (fun r g => r = .bool true ∧ g.get lp = .loop .ready none [f0, f1, .pointer (some ⟨p2, 0, none⟩), f3, f4, f5, f6, f7, f8, f9, f10, f11, f12] [7] zccQ_ra0 zccQ_rb0 ∧
      (∃ v', g.get p2 = .cells [v'] 0 ∧ Own g 37 v' (gcells (L ++ [n])) (L ++ [n]).length ∧ (∀ i, ownedBy v' i → ownedBy v i ∨ h.n ≤ i)) ∧ Fr (fun i => i = lp ∨ i = p2 ∨ ownedBy v i) h g) (fun _ _ => False) := by
  haveI : HGet h lp _ := ⟨hlp⟩
  haveI : HGet h p2 _ := ⟨h2⟩
  haveI : BLt lp h := ⟨ll⟩
  haveI : BLt p2 h := ⟨m2⟩
  haveI : BNe p2 lp := ⟨n2⟩
  haveI : BNe lp p2 := ⟨fun e => n2 e.symm⟩
  refine Runs.round hlp put_one rfl zccQ_na0 zccQ_nb0 zccQ_ca0 zccQ_cb0 ?_
  refine stp ?_
  refine A.go ?_
  refine stp ?_
  have hL1 : (L ++ [n]).length = L.length + 1 := by simp
  refine O.append (ho.keep (S := fun i => i = lp) ((Fr.refl.push.set (S := fun i => i = lp) fun _ => rfl).push) fun b hb e => (hv b hb).1 e) (one_sig (s := n)) (by rw [Sg.len]) (Sg.ones _) (by decide) (by decide) (by omega) (fun v6 h6 ho6 hf6 hn6 => ?_)
  have q6 := hf6.n
  simp only [Heap.n_set, Heap.n_push] at q6 hn6
  haveI := hf6.keep (b := lp) inferInstance (by simp; omega) (fun e => (hv lp e).1 rfl)
  haveI := hf6.keep (b := p2) (o := .cells [v] 0) inferInstance (by simp; omega) (fun e => (hv p2 e).2 rfl)
  haveI : BLt lp h6 := ⟨by omega⟩
  haveI : BLt p2 h6 := ⟨by omega⟩
  have F6 : Fr (fun i => i = lp ∨ ownedBy v i) h h6 := (((Fr.refl.push).set (S := fun i => i = lp ∨ ownedBy v i) fun _ => .inl rfl).push).trans' (hf6.mono fun _ _ e => .inr e)
  obtain ⟨a6, c6, rfl, _, _⟩ := id ho6.rd
  refine stp ?_
  refine A.on ?_
  have fS : ∀ {A B : AObj}, Fr (fun i => i = p2 ∨ i = lp) h6 ((h6.set p2 A).set lp B) := fun {A B} => (Fr.refl.set fun _ => .inl rfl).set fun _ => .inr rfl
  refine ⟨rfl, by rw [Heap.get_set, if_pos rfl], ⟨_, by rw [Heap.get_set, if_neg n2, Heap.get_set, if_pos rfl], ?_, fun i hi => ?_⟩, (F6.mono fun _ _ e => e.elim .inl fun e => .inr (.inr e)).trans' (fS.mono fun _ _ e => e.elim (fun e => .inr (.inl e)) .inl)⟩
  · rw [gcells_append, hL1, show gcells [n] = n.cells from List.append_nil _]
    exact ho6.keep fS fun b hb e => by
      rcases hn6 b hb with h7 | h7
      · have := hv b h7; omega
      · omega
  · rcases hn6 i hi with h7 | h7
    · exact .inl h7
    · exact .inr (by omega)
noncomputable abbrev qrec (bx p2 : Nat) : AObj := .loop .ready none [.slice none 0 0, .func (.func fn_zlbQ) ⟨[]⟩ ⟨[.pointer (some ⟨bx, 0, none⟩)]⟩, .pointer (some ⟨p2, 0, none⟩), undef, .slice none 0 0, undef, .func (.func fn_zlbQ) ⟨[]⟩ ⟨[.pointer (some ⟨bx, 0, none⟩)]⟩, undef, undef, undef, undef, undef, undef] [7] zccQ_ra0 zccQ_rb0
set_option maxHeartbeats 8000000 in
theorem AppendSeq_ok {h : Heap} {bx m c : Nat} {l : List GEnt} (hbx : h.get bx = .cells [.map (some m)] 0) (hb : bx < h.n) (hm : h.get m = .map (gents l) c) (ml : m < h.n) (ok : GOK l c) (hlen : l.length < 100000) :
    Runs Tryz.prog T0 (.fn fn_zccQ) [.slice none 0 0, .func (.func fn_zlbQ) ⟨[]⟩ ⟨[.pointer (some ⟨bx, 0, none⟩)]⟩] h
      (fun r h' => ∃ d : List GEnt, d.Perm l ∧ Own h' 37 r (gcells (d.map GEnt.s)) (d.map GEnt.s).length ∧ (∀ i, ownedBy r i → h.n ≤ i) ∧ Fr (fun _ => False) h h') (fun _ _ => False) := by
  refine zccQ_runs ?_
  refine stp ?_
  have F0 : Fr (fun _ => False) h (h.push (.cells [.slice none 0 0] 0)) := Fr.refl.push
  have n0 : (h.push (.cells [.slice none 0 0] 0)).n = h.n + 1 := rfl
  have g2 : (h.push (.cells [.slice none 0 0] 0)).get h.n = .cells [.slice none 0 0] 0 := by rw [Heap.get_push, if_pos rfl]
  generalize h.push (.cells [.slice none 0 0] 0) = ha at *
  have FL : Fr (fun _ => False) ha ((ha.push (.defs false)).push (qrec bx h.n)) := Fr.refl.push.push
  have F1 := F0.trans' FL
  have nl : ((ha.push (.defs false)).push (qrec bx h.n)).n = ha.n + 2 := rfl
  have hd : (ha.push (.defs false)).n = ha.n + 1 := rfl
  have gq : ((ha.push (.defs false)).push (qrec bx h.n)).get (ha.n + 1) = qrec bx h.n := HGet.new.eq
  have FQ : Fr (fun i => i = ha.n + 1 ∨ i = h.n) (ha.push (.defs false)) ((ha.push (.defs false)).push (qrec bx h.n)) := Fr.refl.push
  refine range_on (J := fun hx => (∃ (d : List GEnt) (v : Value), d.Perm l ∧ hx.get h.n = .cells [v] 0 ∧ Own hx 37 v (gcells (d.map GEnt.s)) (d.map GEnt.s).length ∧ ∀ i, ownedBy v i → ha.n + 2 < i) ∧ Fr (fun i => i = ha.n + 1 ∨ i = h.n) (ha.push (.defs false)) hx) ?_ (fun hx hJ => ?_)
  · show Runs _ _ _ _ ((ha.push (.defs false)).push (qrec bx h.n)) _ _
    generalize (ha.push (.defs false)).push (qrec bx h.n) = hl at *
    refine Runs.mono (keys1_ok (I := fun d hx => hx.get (ha.n + 1) = qrec bx h.n ∧ (∃ v, hx.get h.n = .cells [v] 0 ∧ Own hx 37 v (gcells (d.map GEnt.s)) (d.map GEnt.s).length ∧ ∀ i, ownedBy v i → ha.n + 2 < i) ∧ ha.n + 1 < hx.n ∧ Fr (fun i => i = ha.n + 1 ∨ i = h.n) (ha.push (.defs false)) hx) (by rw [F1.get _ hb id]; exact hbx) (F1.lt hb) (by rw [F1.get _ ml id]; exact hm) (F1.lt ml) ok ?_ ?_ ?_) (fun _ h' hh => ?_) (fun _ _ h => h)
    · intro hx hf
      refine ⟨by rw [hf.get _ (by omega) id]; exact gq, ⟨_, ?_, .none, fun i hi => hi.elim⟩, hf.lt (by omega), ?_⟩
      · rw [hf.get _ (by omega) id, FL.get _ (by omega) id]
        exact g2
      · exact FQ.trans' (hf.mono fun _ _ e => e.elim)
    · rintro d hx hx' ⟨i1, ⟨v, i2, i3, i4⟩, i5, i6⟩ hf
      have i7 := i6.n
      exact ⟨by rw [hf.get _ i5 (by omega)]; exact i1, ⟨v, by rw [hf.get _ (by omega) (by omega)]; exact i2, i3.keep hf fun i hi e => by have := i4 i hi; omega, i4⟩, hf.lt i5, i6.trans hf fun i hi e => by omega⟩
    · rintro d e hx hn ⟨i1, ⟨v, i2, i3, i4⟩, i5, i6⟩ he hdl
      have i7 := i6.n
      refine Runs.mono (aq_round (n := e.s) i1 i2 i3 (by simp; omega) (fun i hi => ?_) i5 (by omega) (by omega)) (fun r h' hh => ?_) (fun _ _ h => h)
      · have := i4 i hi
        omega
      · obtain ⟨rfl, j1, ⟨v', j2, j3, j4⟩, j5⟩ := hh
        have j6 : Fr (fun i => i = ha.n + 1 ∨ i = h.n) (ha.push (.defs false)) h' := i6.trans j5 fun i hi e => by
          rcases e with e | e | e
          · exact .inl e
          · exact .inr e
          · have := i4 i e
            omega
        refine ⟨rfl, ⟨j1, ⟨v', j2, by rw [List.map_append]; exact j3, fun i hi => ?_⟩, j5.lt i5, j6⟩, j5.mono fun i hi e => ?_⟩
        · rcases j4 i hi with h7 | h7
          · exact i4 i h7
          · omega
        · rcases e with e | e | e
          · omega
          · omega
          · have := i4 i e
            omega
    · obtain ⟨d, hd2, i1, ⟨v, i2, i3, i4⟩, i5, i6⟩ := hh
      exact ⟨i1, ⟨d, v, hd2, i2, i3, i4⟩, i6⟩
  · obtain ⟨⟨d, v, hperm, q4, ho, hnew⟩, hf⟩ := hJ
    have gdf : hx.get ha.n = .defs false := by rw [hf.get _ (by omega) (by omega)]; exact HGet.new.eq
    have FD : Fr (fun i => i = ha.n + 1 ∨ i = h.n) ha hx := Fr.trans' (Fr.refl.push (o := .defs false)) hf
    have hfx : Fr (fun _ => False) h hx := F0.trans FD fun i hi e => by omega
    have hxn := hf.n
    haveI : HGet hx h.n _ := ⟨q4⟩
    haveI : HGet hx ha.n _ := ⟨gdf⟩
    haveI : BLt h.n hx := ⟨by omega⟩
    haveI : BNe h.n (ha.n + 1) := ⟨by omega⟩
    haveI : BNe ha.n (ha.n + 1) := ⟨by omega⟩
    haveI : BNe ha.n h.n := ⟨by omega⟩
    haveI : BNe h.n ha.n := ⟨by omega⟩
    obtain ⟨a3, c3, rfl, _, _⟩ := id ho.rd
    refine stp ?_
    refine B.retC ?_
    have fS : ∀ {A B C : AObj}, Fr (fun i => i = ha.n + 1 ∨ i = ha.n) hx (((hx.set (ha.n + 1) A).set (ha.n + 1) B).set ha.n C) := fun {A B C} => ((Fr.refl.set fun _ => .inl rfl).set fun _ => .inl rfl).set fun _ => .inr rfl
    exact ⟨d, hperm, ho.keep fS fun b hb e => by have := hnew b hb; omega, fun i hi => by have := hnew i hi; omega, hfx.trans fS fun i hi e => by omega⟩
theorem Collect_ok {h : Heap} {bx m c : Nat} {l : List GEnt} (hbx : h.get bx = .cells [.map (some m)] 0) (hb : bx < h.n) (hm : h.get m = .map (gents l) c) (ml : m < h.n) (ok : GOK l c) (hlen : l.length < 100000) :
    Runs Tryz.prog T0 (.fn fn_zecQ) [.func (.func fn_zlbQ) ⟨[]⟩ ⟨[.pointer (some ⟨bx, 0, none⟩)]⟩] h
      (fun r h' => ∃ d : List GEnt, d.Perm l ∧ Own h' 37 r (gcells (d.map GEnt.s)) (d.map GEnt.s).length ∧ (∀ i, ownedBy r i → h.n ≤ i) ∧ Fr (fun _ => False) h h') (fun _ _ => False) := by
  refine zecQ_runs ?_
  refine stp ?_
  refine O.call' (AppendSeq_ok hbx hb hm ml ok hlen) (fun r h1 hr => ?_)
  refine stp ?_
  exact hr
end Go.Proofs.YtagmnpeilgnbdaaGreat.A

namespace Go.Proofs.YtagmnpeilgnbdaaGreat.A
open Go Go.Vm
set_option maxRecDepth 10000
set_option linter.unusedVariables false
theorem insertion0_ok {h : Heap} {v f : Value} {a b : Nat} (hab : b ≤ a) (ha : a < 1000) : Runs Tryz.prog T0 (.fn fn_zmcQ) [v, .int .i64 a, .int .i64 b, f] h (fun r h' => h' = h) (fun _ _ => False) := by
  refine zmcQ_runs ?_
  refine stp ?_
  refine loop1 zmcQ_l1_M 8 (fun k v8 hx => v8 = .int .i64 ((a : Int) + 1) ∧ hx = h) ?_ 0 ⟨rfl, rfl⟩
  rintro m v8 h' x9 x12 x13 x14 x15 x16 x17 x18 x19 x20 x21 x22 x23 x24 x25 x26 x27 x28 x29 x30 x31 x32 x33 x34 x35 x36 x37 x38 x39 x40 x41 x42 x43 x44 x45 x46 x47 x48 x49 x50 x51 x52 ⟨rfl, rfl⟩
  refine stp ?_
  refine C.if (fun h1 => absurd h1 (by omega)) (fun _ => ?_)
  refine stp ?_
  rfl
theorem pdq0_ok {h : Heap} {v f : Value} {k : Int} {a b : Nat} (hab : b ≤ a) (ha : a < 1000) : Runs Tryz.prog T0 (.fn fn_zucQ) [v, .int .i64 a, .int .i64 b, .int .i64 k, f] h (fun r h' => h' = h) (fun _ _ => False) := by
  refine zucQ_runs ?_
  refine stp ?_
  refine loop5 zucQ_l0_M 1 2 3 10 11 (fun q v1 v2 v3 v10 v11 hx => v1 = .int .i64 a ∧ v2 = .int .i64 b ∧ v3 = .int .i64 k ∧ hx = h) ?_ 0 ⟨rfl, rfl, rfl, rfl⟩
  rintro m v1 v2 v3 v10 v11 h' x12 x13 x14 x15 x16 x17 x18 x19 x20 x21 x22 x23 x24 x25 x26 x27 x28 x29 x30 x31 x32 x33 x34 x35 x36 x37 x38 x39 x40 x41 x42 x43 x44 x45 x46 x47 x48 x49 x50 x51 x52 x53 x54 x55 x56 x57 x58 x59 x60 x61 x62 x63 x64 x65 x66 x67 x68 x69 x70 x71 x72 x73 x74 x75 x76 x77 x78 x79 x80 x81 x82 x83 x84 x85 x86 x87 x88 x89 x90 x91 x92 x93 x94 x95 x96 x97 x98 x99 x100 x101 x102 x103 x104 x105 x106 x107 x108 x109 x110 x111 x112 x113 x114 x115 x116 x117 x118 x119 x120 x121 x122 x123 x124 x125 x126 x127 x128 x129 x130 x131 x132 x133 x134 x135 x136 x137 x138 x139 x140 x141 x142 x143 x144 x145 x146 x147 ⟨rfl, rfl, rfl, rfl⟩
  refine stp ?_
  refine C.if (fun _ => ?_) (fun h1 => absurd (by omega) h1)
  refine stp ?_
  refine O.call' (insertion0_ok hab ha) (fun r h2 hr => ?_)
  subst hr
  refine stp ?_
  rfl
section
variable {lt : Sg → Sg → Bool} {fd : FuncId} {G : Sg → Prop} {h : Heap} {v : Value} {L : List Sg}
set_option maxHeartbeats 4000000 in
theorem SortF_ok (ho : Own h 37 v (gcells L) L.length) (hl : L.length < 256) (oo : Ord lt) (hd : Dist lt L) (hG : ∀ e ∈ L, G e) (hc : ∀ q, ownedBy v q → CmpI lt fd q G h) :
    Runs Tryz.prog T0 (.fn fn_zhcQ) [v, .func (.func fd) ⟨[]⟩ ⟨[]⟩] h (fun _ h' => ∃ M, M.Perm L ∧ Srt lt 0 M.length M ∧ Own h' 37 v (gcells M) M.length ∧ Fr (ownedBy v) h h') (fun _ _ => False) := by
  have hnil : L.length = 0 → ∃ M : List Sg, M.Perm L ∧ Srt lt 0 M.length M ∧ Own h 37 v (gcells M) M.length ∧ Fr (ownedBy v) h h := fun h0 => ⟨L, .refl _, fun p q h1 h2 h3 => by omega, ho, Fr.refl⟩
  have hbl := fun {h : Heap} => bLen_ok (h := h) (n := L.length) hl
  have hlt8 := (lenT_ok hl).1
  generalize (lenT.getD L.length 0).toNat = t at *
  have ho0 := ho
  generalize hn : L.length = n at *
  generalize hcc : gcells L = cc at *
  refine zhcQ_runs ?_
  cases ho with
  | none =>
    refine stp ?_
    refine O.call' hbl (fun r h1 hr => ?_)
    obtain ⟨rfl, rfl⟩ := hr
    refine stp ?_
    refine O.call' (pdq0_ok (a := 0) (b := 0) (Nat.le_refl _) (by decide)) (fun r h1 hr => ?_)
    subst hr
    refine stp ?_
    exact hnil rfl
  | lit hq hg =>
    refine stp ?_
    refine O.call' hbl (fun r h1 hr => ?_)
    obtain ⟨rfl, rfl⟩ := hr
    refine stp ?_
    refine O.call' (pdq0_ok (a := 0) (b := 0) (Nat.le_refl _) (by decide)) (fun r h1 hr => ?_)
    subst hr
    refine stp ?_
    exact hnil rfl
  | grown hq hn0 hle hl1 hl2 hg =>
    rename_i q kk cap j
    subst hcc
    have hps : PS q n j G h h L := ⟨hn, hq, hg, Fr.refl, hG⟩
    refine stp ?_
    refine O.call' hbl (fun r h1 hr => ?_)
    obtain ⟨rfl, rfl⟩ := hr
    refine stp ?_
    refine O.call' (pdq_ok (hc q rfl) oo hl n (a := 0) (b := n) (lim := t) (by omega) hps (by omega) (Nat.le_refl _) (by omega) (fun e => absurd e (by omega)) hd) (fun r h2 hr => ?_)
    obtain ⟨M, hps2, hsw, hso⟩ := hr
    refine stp ?_
    have hML : M.length = n := hps2.ln
    refine ⟨M, hsw.perm (by omega), by rw [hML]; exact hso, ?_, hps2.fr.mono fun i _ e => e.symm⟩
    rw [hML]
    exact .grown (j := j) hps2.lt hn0 hle (by rw [gcells_len, hML]) (by rw [List.length_append, gcells_len, hML, ← hn, ← gcells_len, ← List.length_append]; exact hl2) hps2.get
end
end Go.Proofs.YtagmnpeilgnbdaaGreat.A

namespace Go.Proofs.YtagmnpeilgnbdaaGreat.A
open Go Go.Vm
set_option maxRecDepth 10000
set_option linter.unusedVariables false
noncomputable instance : DecidableEq Sg := fun _ _ => Classical.propDecidable _
def SrtG (L : List Sg) : Prop := L.Pairwise fun a b => ltG a b = true
theorem ltG_irr (a : Sg) : ltG a a = false := by
  cases h : ltG a a with
  | false => rfl
  | true => have := ltG_ord.asy a a h; rw [h] at this; cases this
theorem srtG_eq {L M : List Sg} (h1 : SrtG L) (h2 : SrtG M) (hp : L.Perm M) : L = M := by
  refine List.Perm.eq_of_pairwise (le := fun a b => ltG a b = true) (fun a b _ _ h3 h4 => ?_) h1 h2 hp
  have := ltG_ord.asy a b h3
  rw [this] at h4
  cases h4
theorem distG {L : List Sg} (h : L.Nodup) : Dist ltG L := ⟨h, fun x _ y _ hne => ltG_tot hne⟩
theorem srt_srtG {M : List Sg} (hd : M.Nodup) (hs : Srt ltG 0 M.length M) : SrtG M := by
  unfold SrtG
  rw [List.pairwise_iff_getElem]
  intro i j hi hj hij
  have h4 := (distG hd).ahead (by omega) hj (by omega) (hs i j (by omega) hij hj)
  have e1 : at' M i = M[i] := by simp only [at', List.getD_eq_getElem?_getD, List.getElem?_eq_getElem (show i < M.length by omega), Option.getD_some]
  have e2 : at' M j = M[j] := by simp only [at', List.getD_eq_getElem?_getD, List.getElem?_eq_getElem hj, Option.getD_some]
  rw [e1, e2] at h4
  exact h4
structure TbAt (h : Heap) (p m c : Nat) (l : List GEnt) (most : Int) (L : List Sg) : Prop where
  g : h.get p = .cells [.int .i64 most, .map (some m)] 0
  lp : p < h.n
  gm : h.get m = .map (gents l) c
  lm : m < h.n
  ok : GOK l c
  pe : L.Perm (l.map (·.s))
  so : SrtG L
  len : L.length < 256
theorem TbAt.keep {S : Nat → Prop} {h h' : Heap} {p m c : Nat} {l : List GEnt} {most : Int} {L : List Sg} (a : TbAt h p m c l most L) (hf : Fr S h h') (h1 : ¬ S p) (h2 : ¬ S m) : TbAt h' p m c l most L :=
  ⟨by rw [hf.get _ a.lp h1]; exact a.g, hf.lt a.lp, by rw [hf.get _ a.lm h2]; exact a.gm, hf.lt a.lm, a.ok, a.pe, a.so, a.len⟩
theorem TbAt.ln {h : Heap} {p m c : Nat} {l : List GEnt} {most : Int} {L : List Sg} (a : TbAt h p m c l most L) : l.length = L.length := by
  have := a.pe.length_eq
  rw [List.length_map] at this
  exact this.symm
theorem TbAt.mem {h : Heap} {p m c : Nat} {l : List GEnt} {most : Int} {L : List Sg} (a : TbAt h p m c l most L) {s : Sg} : s ∈ L ↔ ∃ e ∈ l, e.s = s := by
  rw [a.pe.mem_iff, List.mem_map]
class Kn (l : List GEnt) (s : Sg) (b : outParam Bool) : Prop where
  yes : b = true → ∃ e ∈ l, e.s = s
  no : b = false → ∀ e ∈ l, e.s ≠ s
instance XOp.gask {ts : List Value} {h : Heap} {m x : Operand} {r c : Nat} {l : List GEnt} {s : Sg} {b : Bool} [e : Ev ts m (.map (some r))] [g : HGet h r (.map (gents l) c)] [f : Ev ts x (.agg ⟨s.cells⟩)] [k : Kn l s b] : XOp Tryz.prog ts h (.lookup (.slice 54) (.agg ⟨[]⟩) true m x) (.tuple ⟨[.agg ⟨[]⟩, .bool b]⟩) h := by
  cases b with
  | true => exact XOp.glookYes (l := l) (c := c) (r := r) (s := s) (k.yes rfl)
  | false => exact XOp.glookNo (l := l) (c := c) (r := r) (s := s) (k.no rfl)
instance XOp.gput {ts : List Value} {h : Heap} {m x y : Operand} {r c : Nat} {l : List GEnt} {s : Sg} [e : Ev ts m (.map (some r))] [g : HGet h r (.map (gents l) c)] [f : Ev ts x (.agg ⟨s.cells⟩)] [f2 : Ev ts y (.agg ⟨[]⟩)] [k : Kn l s false] : XOp Tryz.prog ts h (.mapUpdate (.slice 54) m x y) undef (h.set r (.map (gents (l ++ [⟨s, c⟩])) (c + 1))) := XOp.gadd (k.no rfl)
theorem TbAt.kn {h : Heap} {p m c : Nat} {l : List GEnt} {most : Int} {L : List Sg} (a : TbAt h p m c l most L) (s : Sg) : Kn l s (decide (s ∈ L)) :=
  ⟨fun e => a.mem.1 (of_decide_eq_true e), fun e x hx q => of_decide_eq_false e (a.mem.2 ⟨x, hx, q⟩)⟩
section
variable {h : Heap} {p m c : Nat} {l : List GEnt} {most : Int} {L : List Sg} {s : Sg}
set_option maxHeartbeats 4000000 in
theorem SortedG_ok {bx : Nat} (hbx : h.get bx = .cells [.map (some m)] 0) (hb : bx < h.n) (hm : h.get m = .map (gents l) c) (ml : m < h.n) (ok : GOK l c) (hpe : L.Perm (l.map (·.s))) (hso : SrtG L) (hlen : L.length < 256) :
    Runs Tryz.prog T0 (.fn fn_zicQ) [.func (.func fn_zlbQ) ⟨[]⟩ ⟨[.pointer (some ⟨bx, 0, none⟩)]⟩, .func (.func fn_zbcQ) ⟨[]⟩ ⟨[]⟩] h
      (fun r h' => Own h' 37 r (gcells L) L.length ∧ (∀ i, ownedBy r i → h.n ≤ i) ∧ Fr (fun _ => False) h h') (fun _ _ => False) := by
  have hll : l.length < 256 := by have := hpe.length_eq; rw [List.length_map] at this; omega
  refine zicQ_runs ?_
  refine stp ?_
  refine O.call' (Collect_ok hbx hb hm ml ok (by omega)) (fun r h1 hr => ?_)
  obtain ⟨d, hd, ho, hnew, f1⟩ := hr
  have hdl := hd.length_eq
  have hdn : (d.map GEnt.s).Nodup := (hd.map GEnt.s).nodup_iff.2 ok.k
  have hso2 := SortF_ok (fd := fn_zbcQ) (lt := ltG) (G := fun _ => True) ho (by rw [List.length_map]; omega) ltG_ord (distG hdn) (fun _ _ => trivial) (fun q hq => ⟨fun {h x y} hf _ _ => Runs.mono (gcompare_ok (a := x) (b := y)) (fun r h' hh => ⟨⟨_, hh.1, cmpG_lt x y⟩, hh.2⟩) (fun _ _ h => h)⟩)
  obtain ⟨a, cc, rfl, _, _⟩ := id ho.rd
  refine stp ?_
  refine O.call' hso2 (fun r h2 hr => ?_)
  obtain ⟨M, hM, hs, hoM, f2⟩ := hr
  refine stp ?_
  have hML : M = L := srtG_eq (srt_srtG (hM.nodup_iff.2 hdn) hs) hso (hM.trans ((hd.map GEnt.s).trans hpe.symm))
  subst hML
  exact ⟨hoM, hnew, f1.trans f2 fun i hi2 q => by have := hnew i q; omega⟩
theorem gsorted_ok (ha : TbAt h p m c l most L) :
    Runs Tryz.prog T0 (.fn fn_zacQ) [.pointer (some ⟨p, 0, none⟩)] h
      (fun r h' => Own h' 37 r (gcells L) L.length ∧ (∀ i, ownedBy r i → h.n ≤ i) ∧ Fr (fun _ => False) h h') (fun _ _ => False) := by
  haveI : HGet h p _ := ⟨ha.g⟩
  haveI : BLt p h := ⟨ha.lp⟩
  refine zacQ_runs ?_
  refine stp ?_
  refine O.call' (Keys_ok (m := m)) (fun r h1 hr => ?_)
  obtain ⟨rfl, hn, g1, f1⟩ := hr
  refine stp ?_
  refine O.call' (SortedG_ok g1 (by omega) (by rw [f1.get _ ha.lm id]; exact ha.gm) (f1.lt ha.lm) ha.ok ha.pe ha.so ha.len) (fun r h2 hr => ?_)
  obtain ⟨ho, hnew, f2⟩ := hr
  refine stp ?_
  exact ⟨ho, fun i hi => by have := hnew i hi; omega, f1.trans' f2⟩
theorem gNew_ok (h1 : 0 ≤ most) (h2 : most ≤ 4096) : Runs Tryz.prog T0 (.fn fn_zqbQ) [.int .i64 most] h (fun r h' => r = .tuple ⟨[.pointer (some ⟨h.n + 1, 0, none⟩), .int .i64 0]⟩ ∧ TbAt h' (h.n + 1) h.n 0 [] most [] ∧ Fr (fun _ => False) h h') (fun _ _ => False) := by
  refine zqbQ_runs ?_
  refine stp ?_
  refine O.dec (fun h1 => absurd h1 (by omega)) (fun _ => ?_)
  refine stp ?_
  refine C.if (fun h1 => absurd h1 (by omega)) (fun _ => ?_)
  refine stp ?_
  exact ⟨rfl, ⟨HGet.new.eq, by simp, by rw [Heap.get_push, if_neg (by simp), Heap.get_push, if_pos rfl]; rfl, by simp only [Heap.n_push]; omega, .nil, .refl _, List.Pairwise.nil, by simp⟩, Fr.refl.push.push⟩
theorem gnone_ok (ha : TbAt h p m c l most L) : Runs Tryz.prog T0 (.fn fn_zxbQ) [.pointer (some ⟨p, 0, none⟩)] h (fun r h' => r = .bool false ∧ h' = h) (fun _ _ => False) := by
  haveI : HGet h p _ := ⟨ha.g⟩
  haveI : BLt p h := ⟨ha.lp⟩
  refine zxbQ_runs ?_
  refine stp ?_
  exact ⟨rfl, rfl⟩
theorem gLen_ok (ha : TbAt h p m c l most L) : Runs Tryz.prog T0 (.fn fn_zubQ) [.pointer (some ⟨p, 0, none⟩)] h (fun r h' => r = .int .i64 L.length ∧ h' = h) (fun _ _ => False) := by
  haveI : HGet h p _ := ⟨ha.g⟩
  haveI : HGet h m _ := ⟨ha.gm⟩
  haveI : BLt p h := ⟨ha.lp⟩
  refine zubQ_runs ?_
  refine stp ?_
  refine O.call' (gnone_ok ha) (fun r h1 hr => ?_)
  obtain ⟨rfl, rfl⟩ := hr
  refine stp ?_
  refine ⟨?_, rfl⟩
  rw [show (gents l).length = l.length from List.length_map _, ha.ln]
theorem gHas_ok (ha : TbAt h p m c l most L) : Runs Tryz.prog T0 (.fn fn_ztbQ) [.pointer (some ⟨p, 0, none⟩), .agg ⟨s.cells⟩] h (fun r h' => r = .bool (decide (s ∈ L)) ∧ Fr (fun _ => False) h h') (fun _ _ => False) := by
  have ha' := ha.keep (S := fun _ => False) (h' := h.push (.cells s.cells 0)) Fr.refl.push id id
  have F1 : Fr (fun _ => False) h (h.push (.cells s.cells 0)) := Fr.refl.push
  refine ztbQ_runs ?_
  refine stp ?_
  have gs : (h.push (.cells s.cells 0)).get h.n = .cells s.cells 0 := HGet.new.eq
  have ns : (h.push (.cells s.cells 0)).n = h.n + 1 := rfl
  generalize h.push (.cells s.cells 0) = h0 at *
  refine O.call' (gnone_ok ha') (fun r h1 hr => ?_)
  obtain ⟨rfl, rfl⟩ := hr
  haveI : HGet h1 p _ := ⟨ha'.g⟩
  haveI : HGet h1 m _ := ⟨ha'.gm⟩
  haveI : BLt p h1 := ⟨ha'.lp⟩
  haveI : HGet h1 h.n _ := ⟨gs⟩
  haveI := ha'.kn s
  haveI : BLt m h1 := ⟨ha'.lm⟩
  haveI : BLt h.n h1 := ⟨by omega⟩
  haveI : BLt h.n h1 := ⟨by omega⟩
  refine stp ?_
  refine D.one ?_ ?_
  · repeat refine stab_cons inferInstance ?_
    rfl
  refine stp ?_
  exact ⟨rfl, F1.trans' Fr.refl.push⟩
def insG (s : Sg) (L : List Sg) : List Sg := L.takeWhile (ltG · s) ++ s :: L.dropWhile (ltG · s)
theorem insG_perm : (insG s L).Perm (s :: L) := by
  unfold insG
  refine List.perm_middle.trans ?_
  rw [List.takeWhile_append_dropWhile]
theorem insG_srt (hs : SrtG L) (hn : s ∉ L) : SrtG (insG s L) := by
  have hs' := hs
  unfold SrtG at hs
  rw [← List.takeWhile_append_dropWhile (p := (ltG · s)) (l := L), List.pairwise_append] at hs
  obtain ⟨h1, h2, h3⟩ := hs
  unfold SrtG insG
  refine List.pairwise_append.2 ⟨h1, List.pairwise_cons.2 ⟨fun b hb => ?_, h2⟩, fun a ha b hb => ?_⟩
  · cases hd : L.dropWhile (ltG · s) with
    | nil => rw [hd] at hb; simp at hb
    | cons x q =>
      have hx : ltG x s = false := by
        have := List.head_dropWhile_not (ltG · s) (l := L) (by rw [hd]; simp)
        simpa [hd] using this
      have hxL : x ∈ L := (List.dropWhile_sublist _).mem (by rw [hd]; simp)
      have hsx : ltG s x = true := (ltG_tot (a := s) (b := x) fun e => hn (by rw [e]; exact hxL)).resolve_right (by rw [hx]; simp)
      rw [hd] at hb h2
      rcases List.mem_cons.1 hb with rfl | hb
      · exact hsx
      · have hxb := (List.pairwise_cons.1 h2).1 b hb
        cases hsb : ltG s b with
        | true => rfl
        | false =>
          have := ltG_ord.asy x b hxb
          have := ltG_ord.tr b s x
          simp_all
  · rcases List.mem_cons.1 hb with e | hb
    · rw [e]
      have : (L.takeWhile (ltG · s)).all (ltG · s) = true := List.all_takeWhile
      exact List.all_eq_true.1 this _ ha
    · exact h3 a ha b hb
theorem insG_len : (insG s L).length = L.length + 1 := by rw [insG_perm.length_eq]; rfl
def addG (most : Int) (L : List Sg) (s : Sg) : List Sg × Int := if s ∈ L then (L, 8) else if most ≤ L.length then (L, 7) else (insG s L, 0)
set_option maxHeartbeats 4000000 in
theorem gAdd_ok (ha : TbAt h p m c l most L) (hl : L.length < 255) : Runs Tryz.prog T0 (.fn fn_zrbQ) [.pointer (some ⟨p, 0, none⟩), .agg ⟨s.cells⟩] h (fun r h' => r = .int .i64 (addG most L s).2 ∧ (∃ c' l', TbAt h' p m c' l' most (addG most L s).1) ∧ Fr (fun i => i = m) h h') (fun _ _ => False) := by
  have ha' := ha.keep (S := fun _ => False) (h' := h.push (.cells s.cells 0)) Fr.refl.push id id
  have F1 : Fr (fun i => i = m) h (h.push (.cells s.cells 0)) := Fr.refl.push
  refine zrbQ_runs ?_
  refine stp ?_
  have gs : (h.push (.cells s.cells 0)).get h.n = .cells s.cells 0 := HGet.new.eq
  have ns : (h.push (.cells s.cells 0)).n = h.n + 1 := rfl
  generalize h.push (.cells s.cells 0) = h0 at *
  refine O.call' (gnone_ok ha') (fun r h1 hr => ?_)
  obtain ⟨rfl, rfl⟩ := hr
  haveI : HGet h1 h.n _ := ⟨gs⟩
  refine stp ?_
  refine O.call' (gHas_ok ha' (s := s)) (fun r h2 hr => ?_)
  obtain ⟨rfl, f2⟩ := hr
  have hk := ha'.kn s
  have ha2 := ha'.keep f2 id id
  haveI : HGet h2 h.n (.cells s.cells 0) := ⟨by rw [f2.get _ (by omega) id]; exact gs⟩
  haveI : HGet h2 p _ := ⟨ha2.g⟩
  haveI : HGet h2 m _ := ⟨ha2.gm⟩
  haveI : BLt p h2 := ⟨ha2.lp⟩
  have F2 := F1.trans' (f2.mono fun _ _ e => e.elim)
  refine stp ?_
  unfold addG
  refine C.if (fun hs => ?_) (fun hs => ?_)
  · rw [if_pos hs]
    refine stp ?_
    exact ⟨rfl, ⟨_, _, ha2⟩, F2⟩
  rw [if_neg hs]
  haveI : Kn l s false := by rw [decide_eq_false hs] at hk; exact hk
  have hg : (gents l).length = L.length := by rw [show (gents l).length = l.length from List.length_map _, ha.ln]
  refine stp ?_
  rw [hg]
  refine C.if (fun hm => ?_) (fun hm => ?_)
  · rw [if_pos hm]
    refine stp ?_
    exact ⟨rfl, ⟨_, _, ha2⟩, F2⟩
  rw [if_neg hm]
  have hpm : p ≠ m := fun e => by
    have := ha2.g
    rw [e, ha2.gm] at this
    cases this
  refine stp ?_
  refine ⟨rfl, ⟨_, _, ⟨by rw [Heap.get_set, if_neg hpm]; exact ha2.g, by simpa using ha2.lp, by rw [Heap.get_set, if_pos rfl], by simpa using ha2.lm, ha2.ok.add (Kn.no (l := l) (s := s) (b := false) rfl), ?_, insG_srt ha2.so hs, by rw [insG_len]; omega⟩⟩, F2.set fun _ => rfl⟩
  rw [List.map_append]
  exact insG_perm.trans ((ha2.pe.cons s).trans (List.perm_append_singleton s _).symm)
end
end Go.Proofs.YtagmnpeilgnbdaaGreat.A
