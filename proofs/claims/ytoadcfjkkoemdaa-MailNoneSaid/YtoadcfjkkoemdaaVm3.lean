/- A small machine over an abstract heap: how an abstract heap stands for a world. -/
import Derived.Test.YtoadcfjkkoemdaaVm2
namespace Go.Vm
open Go.RowKit

structure GB where
  b : Nat
  sh : Nat
  es : Nat
  tot : Nat

/-- which block each abstract block stands for; none: nobody's -/
abbrev Gh := List (Option GB)

def AR (g : Gh) (a a' : Addr) : Prop := a.block < g.length ∧ ∀ x, g[a.block]? = some (some x) → a' = ⟨x.b, x.sh + a.off, none⟩
def BR (g : Gh) (r r' : Nat) : Prop := r < g.length ∧ ∀ x, g[r]? = some (some x) → r' = x.b

mutual
inductive VR (g : Gh) : Value → Value → Prop
  | gr {v : Value} : ground v = true → VR g v v
  | ptr {a a' : Addr} : AR g a a' → VR g (.pointer (some a)) (.pointer (some a'))
  | sl {a a' : Addr} {n c : Nat} : a.spot = none → AR g a a' → VR g (.slice (some a) n c) (.slice (some a') n c)
  | osl {a a' : Addr} {n c c' k : Nat} : a.spot = some k → AR g a a' → c ≤ c' → (∀ x, g[a.block]? = some (some x) → x.sh + a.off + c' * x.es ≤ x.tot) → VR g (.slice (some a) n c) (.slice (some a') n c')
  | map {r r' : Nat} : BR g r r' → VR g (.map (some r)) (.map (some r'))
  | yield {l l' : Nat} : BR g l l' → VR g (.func (.yield l) ⟨[]⟩ ⟨[]⟩) (.func (.yield l') ⟨[]⟩ ⟨[]⟩)
  | func {f : FuncId} {a a' b b' : List Value} : VRL g a a' → VRL g b b' → VR g (.func (.func f) ⟨a⟩ ⟨b⟩) (.func (.func f) ⟨a'⟩ ⟨b'⟩)
  | iface {t : TypeId} {v v' : Value} : VR g v v' → VR g (.iface t v) (.iface t v')
  | agg {a a' : List Value} : VRL g a a' → VR g (.agg ⟨a⟩) (.agg ⟨a'⟩)
  | tuple {a a' : List Value} : VRL g a a' → VR g (.tuple ⟨a⟩) (.tuple ⟨a'⟩)
inductive VRL (g : Gh) : List Value → List Value → Prop
  | nil : VRL g [] []
  | cons {v v' : Value} {l l' : List Value} : VR g v v' → VRL g l l' → VRL g (v :: l) (v' :: l')
end

theorem VRL.of_ground {g : Gh} : ∀ {l : List Value}, groundL l = true → VRL g l l
  | [], _ => .nil
  | v :: l, h => by
    simp only [groundL, Bool.and_eq_true] at h
    exact .cons (.gr h.1) (VRL.of_ground h.2)

mutual
theorem VR.eq_ground {g : Gh} {v v' : Value} (h : VR g v v') (hg : ground v = true) : v' = v := by
  cases h with
  | gr _ => rfl
  | ptr _ => simp [ground] at hg
  | sl _ _ => simp [ground] at hg
  | osl _ _ _ _ => simp [ground] at hg
  | map _ => simp [ground] at hg
  | yield _ => simp [ground] at hg
  | func h1 h2 =>
    simp only [ground, groundA, Bool.and_eq_true] at hg
    rw [VRL.eq_ground h1 hg.1, VRL.eq_ground h2 hg.2]
  | iface h1 => rw [VR.eq_ground h1 (by simpa [ground] using hg)]
  | agg h1 => rw [VRL.eq_ground h1 (by simpa [ground, groundA] using hg)]
  | tuple h1 => rw [VRL.eq_ground h1 (by simpa [ground, groundA] using hg)]
theorem VRL.eq_ground {g : Gh} {l l' : List Value} (h : VRL g l l') (hg : groundL l = true) : l' = l := by
  cases h with
  | nil => rfl
  | cons h1 h2 =>
    simp only [groundL, Bool.and_eq_true] at hg
    rw [VR.eq_ground h1 hg.1, VRL.eq_ground h2 hg.2]
end

/-- later: more blocks, or fewer that stand for something -/
def Le (g g' : Gh) : Prop := g.length ≤ g'.length ∧ ∀ i, i < g.length → ∀ x, g'[i]? = some (some x) → g[i]? = some (some x)

theorem Le.refl (g : Gh) : Le g g := ⟨Nat.le_refl _, fun _ _ _ h => h⟩
theorem Le.trans {a b c : Gh} (h : Le a b) (k : Le b c) : Le a c :=
  ⟨Nat.le_trans h.1 k.1, fun i hi x hx => h.2 i hi x (k.2 i (Nat.lt_of_lt_of_le hi h.1) x hx)⟩
theorem Le.push (g : Gh) (x : Option GB) : Le g (g ++ [x]) :=
  ⟨by simp, fun i hi y hy => by rw [List.getElem?_append_left hi] at hy; exact hy⟩
theorem Le.kill (g : Gh) (i : Nat) : Le g (g.set i none) :=
  ⟨by simp, fun j _ y hy => by
    by_cases h : i = j
    · subst h; rw [List.getElem?_set] at hy; simp at hy
    · rw [List.getElem?_set_ne h] at hy; exact hy⟩

theorem AR.mono {g g' : Gh} (hl : Le g g') {a a' : Addr} (h : AR g a a') : AR g' a a' :=
  ⟨Nat.lt_of_lt_of_le h.1 hl.1, fun x hx => h.2 x (hl.2 _ h.1 x hx)⟩
theorem BR.mono {g g' : Gh} (hl : Le g g') {a a' : Nat} (h : BR g a a') : BR g' a a' :=
  ⟨Nat.lt_of_lt_of_le h.1 hl.1, fun x hx => h.2 x (hl.2 _ h.1 x hx)⟩

mutual
theorem VR.mono {g g' : Gh} (hl : Le g g') {v v' : Value} (h : VR g v v') : VR g' v v' := by
  cases h with
  | gr h => exact .gr h
  | ptr h => exact .ptr (h.mono hl)
  | sl h1 h => exact .sl h1 (h.mono hl)
  | osl h1 h h2 h3 => exact .osl h1 (h.mono hl) h2 (fun x hx => h3 x (hl.2 _ h.1 x hx))
  | map h => exact .map (h.mono hl)
  | yield h => exact .yield (h.mono hl)
  | func h1 h2 => exact .func (VRL.mono hl h1) (VRL.mono hl h2)
  | iface h1 => exact .iface (VR.mono hl h1)
  | agg h1 => exact .agg (VRL.mono hl h1)
  | tuple h1 => exact .tuple (VRL.mono hl h1)
theorem VRL.mono {g g' : Gh} (hl : Le g g') {l l' : List Value} (h : VRL g l l') : VRL g' l l' := by
  cases h with
  | nil => exact .nil
  | cons h1 h2 => exact .cons (VR.mono hl h1) (VRL.mono hl h2)
end

theorem VRL.length {g : Gh} : ∀ {l l' : List Value}, VRL g l l' → l'.length = l.length
  | _, _, .nil => rfl
  | _, _, .cons _ h => by simp [VRL.length h]
theorem VRL.get {g : Gh} : ∀ {l l' : List Value}, VRL g l l' → ∀ {i : Nat} {v : Value}, l[i]? = some v → ∃ v', l'[i]? = some v' ∧ VR g v v'
  | _, _, .nil, i, v, h => by simp at h
  | _, _, .cons hv _, 0, v, h => by simp at h; subst h; exact ⟨_, by simp, hv⟩
  | _, _, .cons _ hl, i + 1, v, h => by simp at h ⊢; exact VRL.get hl h
theorem VRL.of_get {g : Gh} : ∀ {l l' : List Value}, l'.length = l.length → (∀ (i : Nat) (v v' : Value), l[i]? = some v → l'[i]? = some v' → VR g v v') → VRL g l l'
  | [], [], _, _ => .nil
  | [], _ :: _, h, _ => by simp at h
  | _ :: _, [], h, _ => by simp at h
  | v :: l, v' :: l', h, hh => .cons (hh 0 v v' (by simp) (by simp)) (VRL.of_get (by simpa using h) (fun i w w' h1 h2 => hh (i + 1) w w' (by simpa using h1) (by simpa using h2)))
theorem VRL.append {g : Gh} : ∀ {a a' b b' : List Value}, VRL g a a' → VRL g b b' → VRL g (a ++ b) (a' ++ b')
  | _, _, _, _, .nil, h => h
  | _, _, _, _, .cons h1 h2, h => .cons h1 (VRL.append h2 h)
theorem VRL.take {g : Gh} : ∀ {a a' : List Value}, VRL g a a' → ∀ n, VRL g (a.take n) (a'.take n)
  | _, _, .nil, n => by simp; exact .nil
  | _, _, .cons _ _, 0 => .nil
  | _, _, .cons h1 h2, n + 1 => .cons h1 (VRL.take h2 n)
theorem VRL.drop {g : Gh} : ∀ {a a' : List Value}, VRL g a a' → ∀ n, VRL g (a.drop n) (a'.drop n)
  | _, _, .nil, n => by simp; exact .nil
  | _, _, .cons h1 h2, 0 => .cons h1 h2
  | _, _, .cons _ h2, n + 1 => by simpa using VRL.drop h2 n
theorem VRL.map {g : Gh} {α : Type} {f f' : α → Value} : ∀ {l : List α}, (∀ x, x ∈ l → VR g (f x) (f' x)) → VRL g (l.map f) (l.map f')
  | [], _ => .nil
  | x :: l, h => .cons (h x (by simp)) (VRL.map fun y hy => h y (by simp [hy]))

theorem ground_undef : ground undef = true := rfl

theorem lget_vr {g : Gh} : ∀ {l l' : List Value}, VRL g l l' → ∀ i, VR g (lget l i) (l'.getD i undef)
  | _, _, .nil, i => by simp [lget]; exact .gr ground_undef
  | _, _, .cons h _, 0 => by simpa [lget] using h
  | _, _, .cons _ h, i + 1 => by simpa [lget] using lget_vr h i

theorem lset_eq : ∀ (l : List Value) (i : Nat) (v : Value), lset l i v = l.set i v
  | [], _, _ => by simp [lset]
  | _ :: _, 0, _ => by simp [lset]
  | _ :: l, i + 1, v => by simp [lset, lset_eq l i v]

theorem VRL.set {g : Gh} : ∀ {l l' : List Value}, VRL g l l' → ∀ (i : Nat) {v v' : Value}, VR g v v' → VRL g (l.set i v) (l'.set i v')
  | _, _, .nil, _, _, _, _ => by simp; exact .nil
  | _, _, .cons _ h, 0, _, _, hv => .cons hv h
  | _, _, .cons h h2, i + 1, _, _, hv => .cons h (VRL.set h2 i hv)

/-! ### The heap's tree -/

theorem Tr.get_mk : ∀ (f i j : Nat) (o : AObj), i ≤ f → (Tr.mk f i o).get j = if j = i then o else .dead
  | 0, i, j, o, h => by
    obtain rfl : i = 0 := by omega
    by_cases hj : j = 0
    · simp [Tr.mk, Tr.get, hj]
    · simp only [Tr.mk, Tr.get, hj, if_false]; split <;> rfl
  | f + 1, i, j, o, h => by
    simp only [Tr.mk]
    by_cases hi : i = 0
    · subst hi
      by_cases hj : j = 0
      · simp [Tr.get, hj]
      · simp only [if_true, Tr.get, hj, if_false]; split <;> rfl
    · simp only [hi, if_false]
      by_cases ho : i % 2 = 1
      · simp only [ho, if_true, Tr.get]
        by_cases hj : j = 0
        · simp [hj]; omega
        · simp only [hj, if_false]
          by_cases hp : j % 2 = 1
          · simp only [hp, if_true]
            rw [Tr.get_mk f _ _ _ (by omega)]
            by_cases e : j = i
            · simp [e]
            · rw [if_neg (by omega), if_neg e]
          · simp only [hp, if_false]
            rw [if_neg (by omega)]
      · simp only [ho, if_false, Tr.get]
        by_cases hj : j = 0
        · simp [hj]; omega
        · simp only [hj, if_false]
          by_cases hp : j % 2 = 1
          · simp only [hp, if_true]
            rw [if_neg (by omega)]
          · simp only [hp, if_false]
            rw [Tr.get_mk f _ _ _ (by omega)]
            by_cases e : j = i
            · simp [e]
            · rw [if_neg (by omega), if_neg e]

theorem Tr.get_set : ∀ (t : Tr) (i j : Nat) (o : AObj), (t.set i o).get j = if j = i then o else t.get j
  | .nil, i, j, o => by rw [Tr.set, Tr.get_mk i i j o (Nat.le_refl _)]; rfl
  | .node v l r, i, j, o => by
    simp only [Tr.set]
    by_cases hi : i = 0
    · subst hi
      by_cases hj : j = 0
      · simp [Tr.get, hj]
      · simp only [if_true, Tr.get, hj, if_false]
    · simp only [hi, if_false]
      by_cases ho : i % 2 = 1
      · simp only [ho, if_true, Tr.get]
        by_cases hj : j = 0
        · simp [hj]; omega
        · simp only [hj, if_false]
          by_cases hp : j % 2 = 1
          · simp only [hp, if_true]
            rw [Tr.get_set l]
            by_cases e : j = i
            · simp [e]
            · rw [if_neg (by omega), if_neg e]
          · simp only [hp, if_false]
            rw [if_neg (by omega)]
      · simp only [ho, if_false, Tr.get]
        by_cases hj : j = 0
        · simp [hj]; omega
        · simp only [hj, if_false]
          by_cases hp : j % 2 = 1
          · simp only [hp, if_true]
            rw [if_neg (by omega)]
          · simp only [hp, if_false]
            rw [Tr.get_set r]
            by_cases e : j = i
            · simp [e]
            · rw [if_neg (by omega), if_neg e]

theorem Heap.get_set (h : Heap) (i j : Nat) (o : AObj) : (h.set i o).get j = if j = i then o else h.get j := Tr.get_set _ _ _ _
theorem Heap.get_push (h : Heap) (j : Nat) (o : AObj) : (h.push o).get j = if j = h.n then o else h.get j := Tr.get_set _ _ _ _
@[simp] theorem Heap.n_set (h : Heap) (i : Nat) (o : AObj) : (h.set i o).n = h.n := rfl
@[simp] theorem Heap.n_push (h : Heap) (o : AObj) : (h.push o).n = h.n + 1 := rfl
theorem Heap.get_init (j : Nat) : Heap.init.get j = .dead := by
  simp only [Heap.get, Heap.init, Tr.get]; split; rfl; split <;> rfl

/-! ### A heap stands for a world -/

def ER (g : Gh) (a a' : MapEntry) : Prop := VR g a.key a'.key ∧ VR g a.val a'.val ∧ a'.born = a.born

inductive ERL (g : Gh) : List MapEntry → List MapEntry → Prop
  | nil : ERL g [] []
  | cons {a a' : MapEntry} {l l' : List MapEntry} : ER g a a' → ERL g l l' → ERL g (a :: l) (a' :: l')

theorem ERL.mono {g g' : Gh} (hl : Le g g') : ∀ {l l' : List MapEntry}, ERL g l l' → ERL g' l l'
  | _, _, .nil => .nil
  | _, _, .cons h t => .cons ⟨h.1.mono hl, h.2.1.mono hl, h.2.2⟩ (ERL.mono hl t)

def MR (g : Gh) : Option Nat → Option Nat → Prop
  | none, none => True
  | some a, some b => BR g a b
  | _, _ => False

theorem MR.mono {g g' : Gh} (hl : Le g g') {a b : Option Nat} (h : MR g a b) : MR g' a b := by
  cases a <;> cases b <;> simp_all [MR]
  exact BR.mono hl h

def CellsR (g : Gh) (w : World) (x : GB) (c : List Value) (es : Nat) : Prop :=
  ∃ (c' : Array Value) (el : TypeId) (fz : Nat × Nat), w.heap[x.b]? = some (.cells c' el fz) ∧ x.es = es ∧ x.tot = c'.size ∧ x.sh + c.length ≤ c'.size ∧
    (∀ o, o < c'.size → (decide (fz.1 ≤ o) && decide (o < fz.2)) = false) ∧ (es ≠ 1 → fz = (0, 0)) ∧ VRL g c ((c'.toList.drop x.sh).take c.length)

def RoR (g : Gh) (w : World) (x : GB) (c : List Value) : Prop :=
  ∃ (c' : Array Value) (el : TypeId) (fz : Nat × Nat), w.heap[x.b]? = some (.cells c' el fz) ∧ x.sh + c.length ≤ c'.size ∧ VRL g c ((c'.toList.drop x.sh).take c.length)

def OR (g : Gh) (w : World) (x : GB) : AObj → Prop
  | .ro c => RoR g w x c
  | .dead => True
  | .cells c es => CellsR g w x c es
  | .map es clock => ∃ es', w.heap[x.b]? = some (.map ⟨es'⟩ clock) ∧ ERL g es es' ∧ x.sh = 0
  | .strIter s pos => w.heap[x.b]? = some (.stringIter s pos) ∧ x.sh = 0
  | .mapIter m since seen stepped => ∃ m', w.heap[x.b]? = some (.mapIter m' since ⟨seen⟩ stepped) ∧ MR g m m' ∧ x.sh = 0
  | .loop st pend ts ps as b => ∃ (f : FuncId) (ts' : Array Value) (d : Nat), w.heap[x.b]? = some (.loop { state := st, pending := pend, fn := f, tmps := ts', params := ⟨ps⟩, assign := as, body := b, defers := d }) ∧ VRL g ts ts'.toList ∧ x.sh = 0
  | .defs taken => w.heap[x.b]? = some (.deferred (if taken then none else some [])) ∧ x.sh = 0

structure HR (g : Gh) (h : Heap) (B : Nat) (w0 w : World) : Prop where
  len : g.length = h.n
  alive : ∀ (i : Nat) (x : GB), g[i]? = some (some x) → (B ≤ x.b ∨ (h.get i).isRo = true) ∧ x.b < w.heap.size ∧ OR g w x (h.get i)
  inj : ∀ (i j : Nat) (x y : GB), B ≤ x.b → g[i]? = some (some x) → g[j]? = some (some y) → x.b = y.b → i = j
  dead : ∀ (i : Nat), (∀ (x : GB), g[i]? ≠ some (some x)) → h.get i = .dead
  below : Below B w0 w
  base : B ≤ w0.heap.size
  zero : g[0]? = some none

theorem OR.mono {g g' : Gh} (hl : Le g g') {w : World} {x : GB} : ∀ {o : AObj}, OR g w x o → OR g' w x o
  | .dead, _ => trivial
  | .ro _, ⟨c', el, fz, h1, h2, h3⟩ => ⟨c', el, fz, h1, h2, h3.mono hl⟩
  | .cells _ _, ⟨c', el, fz, h1, h2, h3, h4, h5, h7, h6⟩ => ⟨c', el, fz, h1, h2, h3, h4, h5, h7, h6.mono hl⟩
  | .map _ _, ⟨es', h1, h2, h3⟩ => ⟨es', h1, h2.mono hl, h3⟩
  | .strIter _ _, h => h
  | .mapIter _ _ _ _, ⟨m', h1, h2, h3⟩ => ⟨m', h1, h2.mono hl, h3⟩
  | .loop _ _ _ _ _ _, ⟨f, ts', d, h1, h2, h3⟩ => ⟨f, ts', d, h1, h2.mono hl, h3⟩
  | .defs _, h => h

theorem OR.heap {g : Gh} {w w' : World} {x : GB} (hw : w'.heap[x.b]? = w.heap[x.b]?) : ∀ {o : AObj}, OR g w x o → OR g w' x o
  | .dead, _ => trivial
  | .ro _, ⟨c', el, fz, h1, h2⟩ => ⟨c', el, fz, hw.trans h1, h2⟩
  | .cells _ _, ⟨c', el, fz, h1, h2⟩ => ⟨c', el, fz, hw.trans h1, h2⟩
  | .map _ _, ⟨es', h1, h2⟩ => ⟨es', hw.trans h1, h2⟩
  | .strIter _ _, h => ⟨hw.trans h.1, h.2⟩
  | .mapIter _ _ _ _, ⟨m', h1, h2⟩ => ⟨m', hw.trans h1, h2⟩
  | .loop _ _ _ _ _ _, ⟨f, ts', d, h1, h2⟩ => ⟨f, ts', d, hw.trans h1, h2⟩
  | .defs _, h => ⟨hw.trans h.1, h.2⟩

section
variable {g : Gh} {h : Heap} {B : Nat} {w0 w : World}

/-- draws turn nothing -/
theorem HR.drawn (hr : HR g h B w0 w) (n : Nat) : HR g h B w0 { w with drawn := n } :=
  { hr with
    alive := fun i x hx => let ⟨a, b, c⟩ := hr.alive i x hx; ⟨a, b, c.heap rfl⟩
    below := ⟨hr.below.os, hr.below.tape, hr.below.output, hr.below.size, hr.below.block⟩ }

/-- a new block -/
theorem HR.push (hr : HR g h B w0 w) {o : AObj} {o' : Obj} {es tot : Nat}
    (ho : OR (g ++ [some ⟨w.heap.size, 0, es, tot⟩]) { w with heap := w.heap.push o' } ⟨w.heap.size, 0, es, tot⟩ o) :
    HR (g ++ [some ⟨w.heap.size, 0, es, tot⟩]) (h.push o) B w0 { w with heap := w.heap.push o' } where
  len := by simp [hr.len]
  alive := fun i x hx => by
    rw [Heap.get_push]
    by_cases hi : i < g.length
    · rw [List.getElem?_append_left hi] at hx
      obtain ⟨a, b, c⟩ := hr.alive i x hx
      have hn : i ≠ h.n := by rw [← hr.len]; omega
      rw [if_neg hn]
      exact ⟨a, by simp; omega, (c.mono (Le.push _ _)).heap (by simp only [Array.getElem?_push]; rw [if_neg (by omega)])⟩
    · have hil : i = g.length := by
        have := (List.getElem?_eq_some_iff.1 hx).1
        simp at this; omega
      subst hil
      simp at hx
      subst hx
      rw [if_pos hr.len]
      exact ⟨.inl (Nat.le_trans hr.base hr.below.size), by simp, ho⟩
  inj := fun i j x y hB hx hy hb => by
    have sp : ∀ i x, (g ++ [some (⟨w.heap.size, 0, es, tot⟩ : GB)])[i]? = some (some x) → (i < g.length ∧ g[i]? = some (some x) ∧ x.b < w.heap.size) ∨ (i = g.length ∧ x.b = w.heap.size) := fun i x hx => by
      by_cases hi : i < g.length
      · rw [List.getElem?_append_left hi] at hx
        exact .inl ⟨hi, hx, (hr.alive i x hx).2.1⟩
      · have hil : i = g.length := by
          have := (List.getElem?_eq_some_iff.1 hx).1
          simp at this; omega
        subst hil
        simp at hx
        subst hx
        exact .inr ⟨rfl, rfl⟩
    rcases sp i x hx with ⟨h1, h2, h3⟩ | ⟨h1, h3⟩ <;> rcases sp j y hy with ⟨k1, k2, k3⟩ | ⟨k1, k3⟩
    · exact hr.inj i j x y hB h2 k2 hb
    · omega
    · omega
    · omega
  dead := fun i hi => by
    rw [Heap.get_push]
    by_cases e : i = h.n
    · exfalso
      refine hi ⟨w.heap.size, 0, es, tot⟩ ?_
      rw [e, ← hr.len]; simp
    · rw [if_neg e]
      refine hr.dead i fun x hx => ?_
      have hl := (List.getElem?_eq_some_iff.1 hx).1
      exact hi x (by rw [List.getElem?_append_left hl]; exact hx)
  below := hr.below.trans ⟨rfl, rfl, rfl, by simp, fun k hk => by
    have := Nat.le_trans hr.base hr.below.size
    simp only [Array.getElem?_push]; rw [if_neg (by omega)]⟩
  base := hr.base
  zero := by
    have h0 := hr.zero
    have hl := (List.getElem?_eq_some_iff.1 h0).1
    rw [List.getElem?_append_left hl]; exact h0

theorem HR.own (hr : HR g h B w0 w) {i : Nat} {x : GB} (hx : g[i]? = some (some x)) (hro : (h.get i).isRo = false) : B ≤ x.b := by
  rcases (hr.alive i x hx).1 with h1 | h1
  · exact h1
  · rw [hro] at h1; cases h1

/-- a block that stands for something is written -/
theorem HR.set (hr : HR g h B w0 w) {i : Nat} {x : GB} {o : AObj} {o' : Obj} (hx : g[i]? = some (some x)) (hro : (h.get i).isRo = false) {w' : World}
    (hw : w'.heap = w.heap.setIfInBounds x.b o') (hw1 : w'.os = w.os) (hw2 : w'.tape = w.tape) (hw3 : w'.output = w.output)
    (ho : OR g w' x o) : HR g (h.set i o) B w0 w' where
  len := hr.len
  alive := fun j y hy => by
    rw [Heap.get_set]
    by_cases e : j = i
    · subst e
      rw [hx] at hy; cases hy
      rw [if_pos rfl]
      exact ⟨.inl (hr.own hx hro), by rw [hw]; simp; exact (hr.alive j x hx).2.1, ho⟩
    · rw [if_neg e]
      obtain ⟨a, b, c⟩ := hr.alive j y hy
      have hne : x.b ≠ y.b := fun hb => e (hr.inj i j x y (hr.own hx hro) hx hy hb).symm
      exact ⟨a, by rw [hw]; simpa using b, c.heap (by rw [hw, Array.getElem?_setIfInBounds_ne hne])⟩
  inj := hr.inj
  dead := fun j hj => by
    rw [Heap.get_set]
    have : j ≠ i := fun e => hj x (e ▸ hx)
    rw [if_neg this]
    exact hr.dead j hj
  below := hr.below.trans ⟨hw1, hw2, hw3, by rw [hw]; simp, fun k hk => by
    rw [hw, Array.getElem?_setIfInBounds_ne]
    have := hr.own hx hro
    omega⟩
  base := hr.base
  zero := hr.zero

/-- a block is nobody's from now on -/
theorem HR.kill (hr : HR g h B w0 w) (i : Nat) : HR (g.set i none) (h.set i .dead) B w0 w where
  len := by simp [hr.len]
  alive := fun j y hy => by
    have hle := Le.kill g i
    have hj : j < g.length := by have := (List.getElem?_eq_some_iff.1 hy).1; simpa using this
    have hy' := hle.2 j hj y hy
    have hne : j ≠ i := fun e => by subst e; rw [List.getElem?_set] at hy; simp at hy
    rw [Heap.get_set, if_neg hne]
    obtain ⟨a, b, c⟩ := hr.alive j y hy'
    exact ⟨a, b, c.mono hle⟩
  inj := fun a b x y hB hx hy hb => by
    have hle := Le.kill g i
    have ha : a < g.length := by have := (List.getElem?_eq_some_iff.1 hx).1; simpa using this
    have hb' : b < g.length := by have := (List.getElem?_eq_some_iff.1 hy).1; simpa using this
    exact hr.inj a b x y hB (hle.2 a ha x hx) (hle.2 b hb' y hy) hb
  dead := fun j hj => by
    rw [Heap.get_set]
    by_cases e : j = i
    · rw [if_pos e]
    · rw [if_neg e]
      refine hr.dead j fun x hx => hj x ?_
      rw [List.getElem?_set_ne (Ne.symm e)]; exact hx
  below := hr.below
  base := hr.base
  zero := by
    by_cases e : i = 0
    · subst e
      have := (List.getElem?_eq_some_iff.1 hr.zero).1
      rw [List.getElem?_set_self this]
    · rw [List.getElem?_set_ne e]; exact hr.zero

theorem HR.of_cells (hr : HR g h B w0 w) {i : Nat} {c : List Value} {es : Nat} (hc : h.get i = .cells c es) : ∃ x, g[i]? = some (some x) ∧ CellsR g w x c es := by
  by_cases hx : ∃ x, g[i]? = some (some x)
  · obtain ⟨x, hx⟩ := hx
    have := (hr.alive i x hx).2.2
    rw [hc] at this
    exact ⟨x, hx, this⟩
  · have := hr.dead i fun x hx' => hx ⟨x, hx'⟩
    rw [hc] at this; cases this

/-- cells that can be read -/
theorem HR.of_read (hr : HR g h B w0 w) {i : Nat} {c : List Value} (hc : (h.get i).cellsOf = some c) :
    ∃ x, g[i]? = some (some x) ∧ ∃ (c' : Array Value) (el : TypeId) (fz : Nat × Nat), w.heap[x.b]? = some (.cells c' el fz) ∧ x.sh + c.length ≤ c'.size ∧ VRL g c ((c'.toList.drop x.sh).take c.length) := by
  cases ho : h.get i with
  | cells d es =>
    rw [ho] at hc
    cases hc
    obtain ⟨x, hx, c', el, fz, h1, h2, h3, h4, h5, h7, h6⟩ := hr.of_cells ho
    exact ⟨x, hx, c', el, fz, h1, h4, h6⟩
  | ro d =>
    rw [ho] at hc
    cases hc
    by_cases hx : ∃ x, g[i]? = some (some x)
    · obtain ⟨x, hx⟩ := hx
      have := (hr.alive i x hx).2.2
      rw [ho] at this
      exact ⟨x, hx, this⟩
    · have := hr.dead i fun x hx' => hx ⟨x, hx'⟩
      rw [ho] at this; cases this
  | _ => rw [ho] at hc; cases hc

end
end Go.Vm
