/- A small machine over an abstract heap: what is handed in; functions that are told by what they do. -/
import Derived.Test.YtoadcfjkkoemdaaVm38
import Derived.Test.YtoadcfjkkoemdaaVm30
import Derived.ChangeArms
import Derived.DataShut
import Derived.OpenShut
set_option linter.unusedSimpArgs false
set_option linter.unusedVariables false
namespace Go.Vm
open Go.ChangeShapes Go.WideShapes Go.RowKit

/-! ### Functions that are told by what they do -/

theorem HR.later {g : Gh} {h : Heap} {B : Nat} {w0 w w' : World} (hr : HR g h B w0 w) (hb : Below w.heap.size w w') : HR g h B w0 w' where
  len := hr.len
  alive := fun i x hx => by
    obtain ⟨a, b, c⟩ := hr.alive i x hx
    exact ⟨a, Nat.lt_of_lt_of_le b hb.size, c.heap (hb.block _ b)⟩
  inj := hr.inj
  dead := hr.dead
  below := hr.below.trans (hb.mono (Nat.le_trans hr.base hr.below.size))
  base := hr.base
  zero := hr.zero

/-- a function of nothing that is known to come to true -/
def primTrue : AFunc := ⟨0, [], .skip, some fun args h => match args with
  | [] => [.ret (.bool true) h]
  | _ => [.bad]⟩

/-- every function of a program, but for some that are known to come to true -/
def withTrue (P : Program) (ks : List FuncId) : Table := fun f => if ks.contains f then some primTrue else tableOf P f

theorem fnOK_of {P : Program} {f : FuncId} {af : AFunc} (h : tableOf P f = some af) : FnOK P f := by
  obtain ⟨fn, hf, hc⟩ := (tableOf_ok (P := P)).plain h (by
    unfold tableOf at h
    cases hf : P.funcs[f]? with
    | none => rw [hf] at h; cases h
    | some fn => rw [hf] at h; exact compFunc_prim h)
  obtain ⟨c, hb, hn, _⟩ := compFunc_parts hc
  exact ⟨fn, hf, by rw [hb]; rfl, hn⟩

def KnownAll (P : Program) : List FuncId → Prop
  | [] => True
  | f :: fs => ((∃ af, tableOf P f = some af) ∧ ∀ w, Calls P f #[] w fun e w' => e = .returned (.bool true) ∧ Below w.heap.size w w') ∧ KnownAll P fs

theorem KnownAll.mem {P : Program} : ∀ {fs : List FuncId}, KnownAll P fs → ∀ {f : FuncId}, f ∈ fs → (∃ af, tableOf P f = some af) ∧ ∀ w, Calls P f #[] w fun e w' => e = .returned (.bool true) ∧ Below w.heap.size w w'
  | [], _, _, hf => by cases hf
  | _ :: _, h, _, hf => by
    rcases List.mem_cons.1 hf with rfl | hf
    · exact h.1
    · exact KnownAll.mem h.2 hf

theorem withTrue_ok {P : Program} {ks : List FuncId} (hk : KnownAll P ks) : TableOK P (withTrue P ks) := by
  intro f af h
  unfold withTrue at h
  split at h
  · rename_i hc
    cases h
    obtain ⟨⟨af, ha⟩, hcall⟩ := hk.mem (by simpa using hc)
    intro args args' g hp B w0 w hr hv hg
    cases args with
    | cons v l => exact absurd rfl (hg .bad (by simp))
    | nil =>
      cases hv
      refine ⟨fnOK_of ha, (hcall w).mono fun e w' he => ?_⟩
      obtain ⟨rfl, hb⟩ := he
      exact ⟨g, .bool true, hp, by simp, Le.refl _, hr.later hb, .gr rfl⟩
  · exact tableOf_ok f af h

theorem withTrue_runs {P : Program} {ks : List FuncId} {f : FuncId} (hf : ks.contains f = true) {h : Heap} : Runs P (withTrue P ks) (.fn f) [] h (fun r h' => r = .bool true ∧ h' = h) (fun _ _ => False) :=
  Runs.prim (T := withTrue P ks) (af := primTrue) (by unfold withTrue; rw [if_pos hf]) rfl fun o ho => by simp at ho; subst ho; exact ⟨rfl, rfl⟩

/-! ### Blocks that nobody writes -/

theorem HR.pushRo {g : Gh} {h : Heap} {B : Nat} {w0 w : World} (hr : HR g h B w0 w) {x : GB} {c : List Value} (hb : x.b < B) (hx : RoR g w x c) : HR (g ++ [some x]) (h.push (.ro c)) B w0 w where
  len := by simp [hr.len]
  alive := fun i y hy => by
    rw [Heap.get_push]
    by_cases hi : i < g.length
    · rw [List.getElem?_append_left hi] at hy
      obtain ⟨a, b, d⟩ := hr.alive i y hy
      rw [if_neg (by rw [← hr.len]; omega)]
      exact ⟨a, b, d.mono (Le.push _ _)⟩
    · have hil : i = g.length := by
        have := (List.getElem?_eq_some_iff.1 hy).1
        simp at this; omega
      subst hil
      simp at hy
      subst hy
      rw [if_pos hr.len]
      refine ⟨.inr rfl, Nat.lt_of_lt_of_le hb (Nat.le_trans hr.base hr.below.size), ?_⟩
      obtain ⟨c', el, fz, h1, h2, h3⟩ := hx
      exact ⟨c', el, fz, h1, h2, h3.mono (Le.push _ _)⟩
  inj := fun i j y z hB hy hz e => by
    have sp : ∀ (i : Nat) (y : GB), (g ++ [some x])[i]? = some (some y) → g[i]? = some (some y) ∨ GB.b y < B := fun i y hy => by
      by_cases hi : i < g.length
      · rw [List.getElem?_append_left hi] at hy; exact .inl hy
      · have hil : i = g.length := by
          have := (List.getElem?_eq_some_iff.1 hy).1
          simp at this; omega
        subst hil
        simp at hy
        subst hy
        exact .inr hb
    rcases sp i y hy with h1 | h1
    · rcases sp j z hz with h2 | h2
      · exact hr.inj i j y z hB h1 h2 e
      · omega
    · omega
  dead := fun i hi => by
    rw [Heap.get_push]
    by_cases e : i = h.n
    · exfalso
      refine hi x ?_
      rw [e, ← hr.len]; simp
    · rw [if_neg e]
      refine hr.dead i fun y hy => ?_
      have hl := (List.getElem?_eq_some_iff.1 hy).1
      exact hi y (by rw [List.getElem?_append_left hl]; exact hy)
  below := hr.below
  base := hr.base
  zero := by
    have h0 := hr.zero
    have hl := (List.getElem?_eq_some_iff.1 h0).1
    rw [List.getElem?_append_left hl]; exact h0

theorem HR.pushNone {g : Gh} {h : Heap} {B : Nat} {w0 w : World} (hr : HR g h B w0 w) : HR (g ++ [none]) (h.push .dead) B w0 w where
  len := by simp [hr.len]
  alive := fun i y hy => by
    rw [Heap.get_push]
    by_cases hi : i < g.length
    · rw [List.getElem?_append_left hi] at hy
      obtain ⟨a, b, d⟩ := hr.alive i y hy
      rw [if_neg (by rw [← hr.len]; omega)]
      exact ⟨a, b, d.mono (Le.push _ _)⟩
    · have hil : i = g.length := by
        have := (List.getElem?_eq_some_iff.1 hy).1
        simp at this; omega
      subst hil
      simp at hy
  inj := fun i j y z hB hy hz e => by
    have sp : ∀ (i : Nat) (y : GB), (g ++ [(none : Option GB)])[i]? = some (some y) → g[i]? = some (some y) := fun i y hy => by
      by_cases hi : i < g.length
      · rw [List.getElem?_append_left hi] at hy; exact hy
      · have hil : i = g.length := by
          have := (List.getElem?_eq_some_iff.1 hy).1
          simp at this; omega
        subst hil
        simp at hy
    exact hr.inj i j y z hB (sp i y hy) (sp j z hz) e
  dead := fun i hi => by
    rw [Heap.get_push]
    by_cases e : i = h.n
    · rw [if_pos e]
    · rw [if_neg e]
      refine hr.dead i fun y hy => ?_
      have hl := (List.getElem?_eq_some_iff.1 hy).1
      exact hi y (by rw [List.getElem?_append_left hl]; exact hy)
  below := hr.below
  base := hr.base
  zero := by
    have h0 := hr.zero
    have hl := (List.getElem?_eq_some_iff.1 h0).1
    rw [List.getElem?_append_left hl]; exact h0

theorem mapM_some_of {α β : Type} {f : α → Option β} {l : List α} {r : List β} (hl : r.length = l.length) (h : ∀ (i : Nat) (hi : i < l.length), f l[i] = some (r[i]'(by omega))) : l.mapM f = some r :=
  mapM_some_of_get l r hl fun i x hx => by
    obtain ⟨hi, rfl⟩ := List.getElem?_eq_some_iff.1 hx
    rw [h i hi, List.getElem?_eq_getElem (by omega)]

/-! ### Values of a type -/

/-- cells that are of a type, over blocks that nobody writes -/
def Fits (P : Program) (h : Heap) : Nat → TypeId → List Value → Prop
  | 0, _, _ => False
  | m + 1, t, cs =>
    match P.underlying t with
    | some .bool => ∃ b, cs = [.bool b]
    | some (.int k) => ∃ x, cs = [.int k x] ∧ (Lit.int k x).wf = true
    | some .string => ∃ s, cs = [.string s] ∧ s.size ≤ maxLen
    | some (.slice e) => cs = [.slice none 0 0] ∨ ∃ b len cap c, cs = [.slice (some ⟨b, 0, none⟩) len cap] ∧ b < h.n ∧ len ≤ cap ∧ cap ≤ maxLen ∧ (len ≠ 0 → h.get b = .ro c) ∧ c.length = len * P.cellsOf e ∧
        ∀ i, i < len → Fits P h m e ((c.drop (i * P.cellsOf e)).take (P.cellsOf e))
    | some (.struct fs) => cs.length = P.cellsOf t ∧ ∀ (i : Nat) (f : Field), fs[i]? = some f → Fits P h m f.type ((cs.drop f.offset).take (P.cellsOf f.type))
    | some (.array n e) => cs.length = P.cellsOf t ∧ ∀ i, i < n → Fits P h m e ((cs.drop (i * P.cellsOf e)).take (P.cellsOf e))
    | _ => False

def layFrom (P : Program) : List Field → Nat → Option Nat
  | [], off => some off
  | f :: fs, off => if f.offset = off then layFrom P fs (off + P.cellsOf f.type) else none

/-- types whose values can be handed in: their parts lie behind each other -/
def tiles (P : Program) : Nat → TypeId → Bool
  | 0, _ => false
  | m + 1, t =>
    match P.underlying t with
    | some .bool | some (.int _) | some .string => P.cellsOf t == 1
    | some (.slice e) => P.cellsOf t == 1 && decide (0 < P.cellsOf e) && tiles P m e
    | some (.struct fs) => layFrom P fs.toList 0 == some (P.cellsOf t) && fs.toList.all fun f => tiles P m f.type
    | some (.array n e) => P.cellsOf t == n * P.cellsOf e && tiles P m e
    | _ => false

theorem Fits.keep {P : Program} {h h' : Heap} (hf : Fr (fun _ => False) h h') : ∀ (m : Nat) (t : TypeId) (cs : List Value), Fits P h m t cs → Fits P h' m t cs := by
  intro m
  induction m with
  | zero => intro t cs hc; exact hc.elim
  | succ m ih =>
    intro t cs hc
    unfold Fits at hc ⊢
    split at hc
    · exact hc
    · exact hc
    · exact hc
    · rcases hc with hc | ⟨b, len, cap, c, h1, h2, h3, h4, h5, h6, h7⟩
      · exact .inl hc
      · exact .inr ⟨b, len, cap, c, h1, hf.lt h2, h3, h4, fun hn => by rw [hf.get b h2 id]; exact h5 hn, h6, fun i hi => ih _ _ (h7 i hi)⟩
    · exact ⟨hc.1, fun i f hi => ih _ _ (hc.2 i f hi)⟩
    · exact ⟨hc.1, fun i hi => ih _ _ (hc.2 i hi)⟩
    · exact hc

/-- cells that are read: there are abstract ones for them -/
def Read (P : Program) (w : World) (m : Nat) (t : TypeId) (cs : List Value) : Prop :=
  ∀ (g : Gh) (h : Heap), HR g h w.heap.size w w → ∃ (g' : Gh) (h' : Heap) (vs : List Value), Le g g' ∧ HR g' h' w.heap.size w w ∧ Fr (fun _ => False) h h' ∧ Fits P h' m t vs ∧ VRL g' vs cs ∧ vs.length = P.cellsOf t

theorem VRL.len {g : Gh} {a b : List Value} (h : VRL g a b) : a.length = b.length := h.length.symm

/-- pieces of one type -/
theorem read_pieces {P : Program} {w : World} {m : Nat} {e : TypeId} {s : Nat} (hs : P.cellsOf e = s) : ∀ (n : Nat) (E : Nat → List Value), (∀ i, i < n → Read P w m e (E i)) → ∀ (g : Gh) (h : Heap), HR g h w.heap.size w w →
    ∃ (g' : Gh) (h' : Heap) (vs : List Value), Le g g' ∧ HR g' h' w.heap.size w w ∧ Fr (fun _ => False) h h' ∧ vs.length = n * s ∧ VRL g' vs ((List.range n).flatMap E) ∧ ∀ i, i < n → Fits P h' m e ((vs.drop (i * s)).take s) := by
  intro n
  induction n with
  | zero => intro E hE g h hr; exact ⟨g, h, [], Le.refl _, hr, Fr.refl, by simp, by simpa using VRL.nil, fun i hi => by omega⟩
  | succ n ih =>
    intro E hE g h hr
    obtain ⟨g1, h1, vs, a1, a2, a3, a4, a5, a6⟩ := ih E (fun i hi => hE i (by omega)) g h hr
    obtain ⟨g2, h2, us, b1, b2, b3, b4, b5, b6⟩ := hE n (by omega) g1 h1 a2
    rw [hs] at b6
    refine ⟨g2, h2, vs ++ us, a1.trans b1, b2, a3.trans' b3, by rw [List.length_append, a4, b6, Nat.add_mul]; omega, ?_, fun i hi => ?_⟩
    · rw [List.range_succ, List.flatMap_append]
      refine (a5.mono b1).append ?_
      simpa using b5
    · by_cases hin : i < n
      · have hle : i * s + s ≤ vs.length := by
          rw [a4, ← Nat.succ_mul]; exact Nat.mul_le_mul_right _ hin
        rw [List.drop_append_of_le_length (by omega), List.take_append_of_le_length (by simp; omega)]
        exact (a6 i hin).keep b3
      · obtain rfl : i = n := by omega
        rw [← a4, List.drop_left', List.take_of_length_le (by omega)]
        · exact b4
        · rfl

/-- the fields of a struct -/
theorem read_fields {P : Program} {w : World} {m : Nat} (cs : List Value) : ∀ (fs : List Field) (off tot : Nat), layFrom P fs off = some tot → tot ≤ cs.length → (∀ f ∈ fs, Read P w m f.type ((cs.drop f.offset).take (P.cellsOf f.type))) → ∀ (g : Gh) (h : Heap), HR g h w.heap.size w w →
    off ≤ tot ∧ ∃ (g' : Gh) (h' : Heap) (vs : List Value), Le g g' ∧ HR g' h' w.heap.size w w ∧ Fr (fun _ => False) h h' ∧ vs.length = tot - off ∧ VRL g' vs ((cs.drop off).take (tot - off)) ∧
      ∀ f ∈ fs, off ≤ f.offset ∧ Fits P h' m f.type ((vs.drop (f.offset - off)).take (P.cellsOf f.type)) := by
  intro fs
  induction fs with
  | nil =>
    intro off tot hl ht hE g h hr
    cases hl
    exact ⟨Nat.le_refl _, g, h, [], Le.refl _, hr, Fr.refl, by simp, by simpa using VRL.nil, fun f hf => by cases hf⟩
  | cons f fs ih =>
    intro off tot hl ht hE g h hr
    unfold layFrom at hl
    split at hl
    · rename_i ho
      obtain ⟨g1, h1, us, b1, b2, b3, b4, b5, b6⟩ := hE f (by simp) g h hr
      obtain ⟨hle, g2, h2, vs, a1, a2, a3, a4, a5, a6⟩ := ih (off + P.cellsOf f.type) tot hl ht (fun f hf => hE f (by simp [hf])) g1 h1 b2
      refine ⟨by omega, g2, h2, us ++ vs, b1.trans a1, a2, b3.trans' a3, by rw [List.length_append, a4, b6]; omega, ?_, fun f' hf' => ?_⟩
      · have : (cs.drop off).take (tot - off) = (cs.drop off).take (P.cellsOf f.type) ++ (cs.drop (off + P.cellsOf f.type)).take (tot - (off + P.cellsOf f.type)) := by
          rw [show tot - off = P.cellsOf f.type + (tot - (off + P.cellsOf f.type)) from by omega, List.take_add, List.drop_drop]
        rw [this]
        rw [ho] at b5
        exact (b5.mono a1).append a5
      · rcases List.mem_cons.1 hf' with rfl | hf'
        · refine ⟨by omega, ?_⟩
          rw [ho, Nat.sub_self, List.drop_zero, List.take_append_of_le_length (by omega), List.take_of_length_le (by omega)]
          exact b4.keep a3
        · obtain ⟨c1, c2⟩ := a6 f' hf'
          refine ⟨by omega, ?_⟩
          rw [List.drop_append, List.drop_eq_nil_of_le (by omega), List.nil_append, b6]
          rw [show f'.offset - off - P.cellsOf f.type = f'.offset - (off + P.cellsOf f.type) from by omega]
          exact c2
    · cases hl

theorem flatMap_pieces (l : List Value) (s : Nat) : ∀ n, n * s ≤ l.length → (List.range n).flatMap (fun i => (l.drop (i * s)).take s) = l.take (n * s) := by
  intro n
  induction n with
  | zero => intro _; simp
  | succ n ih =>
    intro h
    rw [Nat.succ_mul] at h
    rw [List.range_succ, List.flatMap_append, ih (by omega), Nat.succ_mul, List.take_add]
    simp

theorem cells?_block {w : World} {a : Addr} {n : Nat} {cs : List Value} (h : w.cells? 0 a n = some cs) (hn : 0 < n) :
    a.spot = none ∧ ∃ c el fz, w.heap[a.block]? = some (.cells c el fz) ∧ a.off + n ≤ c.size ∧ cs = (c.toList.drop a.off).take n := by
  unfold World.cells? at h
  rw [if_pos (Nat.zero_le _)] at h
  have hl := mapM_some_length h
  have hg := fun i (hi : i < n) => mapM_some_get h i i (by simp [hi])
  rw [List.length_range] at hl
  have h0 := hg 0 hn
  rw [List.getElem?_eq_getElem (show 0 < cs.length by omega)] at h0
  have hs : a.spot = none := by
    simp only [Addr.add, if_true, World.cell?] at h0
    cases ha : a.spot with
    | none => rfl
    | some k =>
      exfalso
      rw [ha] at h0
      cases hb : w.heap[a.block]? with
      | none => rw [hb] at h0; cases h0
      | some o =>
        rw [hb] at h0
        cases o <;> simp at h0
  refine ⟨hs, ?_⟩
  cases hb : w.heap[a.block]? with
  | none =>
    exfalso
    simp only [Addr.add, if_true, World.cell?, hb] at h0
    cases h0
  | some o =>
    cases o with
    | cells c el fz =>
      have hi : ∀ i, i < n → c[a.off + i]? = cs[i]? := fun i hi => by
        have := hg i hi
        rw [← this]
        unfold Addr.add
        by_cases h0 : i = 0
        · simp [World.cell?, h0, hb, hs]
        · simp [World.cell?, h0, hb]
      have hlast := hi (n - 1) (by omega)
      rw [List.getElem?_eq_getElem (by omega)] at hlast
      have hle := (Array.getElem?_eq_some_iff.1 hlast).1
      refine ⟨c, el, fz, rfl, by omega, ?_⟩
      refine List.ext_getElem? fun i => ?_
      by_cases h : i < n
      · rw [List.getElem?_take_of_lt h, List.getElem?_drop, ← hi i h]
        simp
      · rw [List.getElem?_eq_none (by omega), List.getElem?_eq_none (by simp; omega)]
    | _ =>
      exfalso
      simp only [Addr.add, if_true, World.cell?, hb] at h0
      cases h0

section
variable {H : Type} {enc : TypeId × Value → H} {P : Program} {w : World}

theorem read_of_trod : ∀ (m : Nat) (t : TypeId), tiles P m t = true → ∀ (n : Nat) (cs : List Value) (x : DataW H × List MemPlace), DataW.trod enc P w 0 (fun _ => true) true n t cs = some x → Read P w m t cs := by
  intro m
  induction m with
  | zero => intro t ht; simp [tiles] at ht
  | succ m ih =>
    intro t ht n cs x hx g h hr
    unfold tiles at ht
    have hfit : ∀ {h' : Heap} {vs : List Value}, Fits P h' (m + 1) t vs ↔ _ := fun {h' vs} => by unfold Fits; exact Iff.rfl
    cases hu : P.underlying t with
    | none => rw [hu] at ht; simp at ht
    | some d =>
      rw [hu] at ht
      simp only [hu] at hfit
      cases d with
      | bool =>
        obtain ⟨b, rfl, _⟩ := DataW.trod_bool hu hx
        exact ⟨g, h, _, Le.refl _, hr, Fr.refl, hfit.2 ⟨b, rfl⟩, .cons (.gr rfl) .nil, by simpa using (by simpa using ht : P.cellsOf t = 1).symm⟩
      | int k =>
        obtain ⟨b, rfl, _, hw⟩ := DataW.trod_int hu hx
        exact ⟨g, h, _, Le.refl _, hr, Fr.refl, hfit.2 ⟨b, rfl, hw⟩, .cons (.gr rfl) .nil, by simpa using (by simpa using ht : P.cellsOf t = 1).symm⟩
      | string =>
        obtain ⟨b, rfl, _, hw⟩ := DataW.trod_string hu hx
        exact ⟨g, h, _, Le.refl _, hr, Fr.refl, hfit.2 ⟨b, rfl, hw⟩, .cons (.gr rfl) .nil, by simpa using (by simpa using ht : P.cellsOf t = 1).symm⟩
      | slice e =>
        simp only [Bool.and_eq_true, beq_iff_eq, decide_eq_true_eq] at ht
        obtain ⟨⟨h1, hpos⟩, hte⟩ := ht
        rcases DataW.trod_slice hu hx with ⟨rfl, _⟩ | ⟨a, len, cap, elems, rest, n', rfl, rfl, _, _, hlc, hcap, hel, hget, _, _⟩
        · exact ⟨g, h, _, Le.refl _, hr, Fr.refl, hfit.2 (.inl rfl), .cons (.gr rfl) .nil, by simp [h1]⟩
        · by_cases hl0 : len = 0
          · subst hl0
            refine ⟨g ++ [none], h.push .dead, [.slice (some ⟨h.n, 0, none⟩) 0 cap], Le.push _ _, hr.pushNone, Fr.refl.push, hfit.2 (.inr ⟨h.n, 0, cap, [], rfl, by simp, hlc, hcap, fun hn => absurd rfl hn, by simp, fun i hi => by omega⟩), .cons (.sl rfl ⟨by simp [hr.len], fun x hx => ?_⟩) .nil, by simp [h1]⟩
            rw [← hr.len] at hx
            simp at hx
          · let E : Nat → List Value := fun i => (w.cells? 0 (a.add (i * P.cellsOf e)) (P.cellsOf e)).getD []
            have hE : ∀ i, i < len → Read P w m e (E i) ∧ ∃ cs', w.cells? 0 (a.add (i * P.cellsOf e)) (P.cellsOf e) = some cs' := fun i hi => by
              have := hget i hi
              rw [List.getElem?_eq_getElem (by omega)] at this
              obtain ⟨cs', h2, h3⟩ := Option.bind_eq_some_iff.1 this
              exact ⟨by simp only [E, h2]; exact ih e hte n' _ _ h3, cs', h2⟩
            obtain ⟨g1, h1', vs, a1, a2, a3, a4, a5, a6⟩ := read_pieces rfl len E (fun i hi => (hE i hi).1) g h hr
            obtain ⟨cs0, h0⟩ := (hE 0 (by omega)).2
            rw [Nat.zero_mul, Addr.add, if_pos rfl] at h0
            obtain ⟨hsp, c, el, fz, hbl, _, _⟩ := cells?_block h0 hpos
            have hlt : a.block < w.heap.size := by
              rcases Nat.lt_or_ge a.block w.heap.size with h | h
              · exact h
              · rw [Array.getElem?_eq_none h] at hbl; cases hbl
            have hpiece : ∀ i, i < len → E i = ((c.toList.drop a.off).drop (i * P.cellsOf e)).take (P.cellsOf e) ∧ a.off + i * P.cellsOf e + P.cellsOf e ≤ c.size := fun i hi => by
              obtain ⟨cs', hcs⟩ := (hE i hi).2
              have hadd : (a.add (i * P.cellsOf e)).block = a.block ∧ (a.add (i * P.cellsOf e)).off = a.off + i * P.cellsOf e := by
                unfold Addr.add; split <;> simp_all
              obtain ⟨_, c2, el2, fz2, hb2, hle2, hc2⟩ := cells?_block hcs hpos
              rw [hadd.1, hbl] at hb2
              cases hb2
              rw [hadd.2] at hle2 hc2
              refine ⟨?_, hle2⟩
              simp only [E, hcs, Option.getD_some]
              rw [hc2, List.drop_drop]
            have hend : a.off + len * P.cellsOf e ≤ c.size := by
              have := (hpiece (len - 1) (by omega)).2
              rw [Nat.add_assoc, ← Nat.succ_mul, show (len - 1).succ = len from by omega] at this
              exact this
            have hflat : (List.range len).flatMap E = (c.toList.drop a.off).take (len * P.cellsOf e) := by
              rw [← flatMap_pieces _ _ _ (by simp; omega)]
              refine flatMap_eq fun i hi => ?_
              exact (hpiece i (by simpa using hi)).1
            have hro : RoR g1 w ⟨a.block, a.off, 0, 0⟩ vs := ⟨c, el, fz, hbl, by simp only [a4]; exact hend, by
              show VRL g1 vs ((c.toList.drop a.off).take vs.length)
              rw [a4, ← hflat]; exact a5⟩
            refine ⟨g1 ++ [some ⟨a.block, a.off, 0, 0⟩], h1'.push (.ro vs), [.slice (some ⟨h1'.n, 0, none⟩) len cap], a1.trans (Le.push _ _), a2.pushRo hlt hro, a3.push, hfit.2 (.inr ⟨h1'.n, len, cap, vs, rfl, by simp, hlc, hcap, fun _ => by rw [Heap.get_push, if_pos rfl], a4, fun i hi => (a6 i hi).keep Fr.refl.push⟩), .cons (.sl rfl ⟨by simp [a2.len], fun x hx => ?_⟩) .nil, by simp [h1]⟩
            rw [← a2.len] at hx
            simp at hx
            subst hx
            cases a
            simp_all
      | struct fs =>
        simp only [Bool.and_eq_true, beq_iff_eq] at ht
        obtain ⟨hlay, hall⟩ := ht
        obtain ⟨xs, n', rfl, _, hlen, hxl, hf⟩ := DataW.trod_struct hu hx
        obtain ⟨_, g1, h1, vs, a1, a2, a3, a4, a5, a6⟩ := read_fields (m := m) cs fs.toList 0 (P.cellsOf t) hlay (by omega) (fun f hfm => by
          obtain ⟨i, hi, rfl⟩ := List.getElem_of_mem hfm
          have hi' : i < fs.size := by simpa using hi
          have h2 := hf i fs[i] (by simp [hi'])
          rw [List.getElem?_eq_getElem (by omega)] at h2
          have h3 : fs.toList[i] = fs[i] := by simp
          rw [h3]
          exact ih _ (by have := List.all_eq_true.1 hall _ hfm; rw [h3] at this; exact this) n' _ _ h2) g h hr
        refine ⟨g1, h1, vs, a1, a2, a3, hfit.2 ⟨by rw [a4]; simp, fun i f hi => ?_⟩, ?_, by rw [a4]; simp⟩
        · have := (a6 f (List.mem_of_getElem? (i := i) (by simpa using hi))).2
          simpa using this
        · rw [List.drop_zero, Nat.sub_zero, List.take_of_length_le (by omega)] at a5
          exact a5
      | array k e =>
        simp only [Bool.and_eq_true, beq_iff_eq] at ht
        obtain ⟨hsz, hte⟩ := ht
        obtain ⟨xs, n', rfl, _, hlen, hxl, hf⟩ := DataW.trod_array hu hx
        obtain ⟨g1, h1, vs, a1, a2, a3, a4, a5, a6⟩ := read_pieces (m := m) (e := e) rfl k (fun i => (cs.drop (i * P.cellsOf e)).take (P.cellsOf e)) (fun i hi => by
          have h2 := hf i hi
          rw [List.getElem?_eq_getElem (by omega)] at h2
          exact ih e hte n' _ _ h2) g h hr
        rw [flatMap_pieces _ _ _ (by omega), List.take_of_length_le (by omega)] at a5
        exact ⟨g1, h1, vs, a1, a2, a3, hfit.2 ⟨by rw [a4, hsz], fun i hi => a6 i hi⟩, a5, by rw [a4, hsz]⟩
      | _ => simp at ht

/-! ### Values, arguments -/

/-- a value of a type -/
def FitsV (P : Program) (h : Heap) (m : Nat) (t : TypeId) (v : Value) : Prop :=
  match P.underlying t with
  | some (.struct _) | some (.array _ _) => ∃ cs, v = .agg ⟨cs⟩ ∧ Fits P h m t cs
  | _ => Fits P h m t [v]

def FitsAll (P : Program) (h : Heap) (m : Nat) : List TypeId → List Value → Prop
  | [], [] => True
  | t :: ts, v :: vs => FitsV P h m t v ∧ FitsAll P h m ts vs
  | _, _ => False

theorem FitsV.keep {h h' : Heap} (hf : Fr (fun _ => False) h h') {m : Nat} {t : TypeId} {v : Value} (hv : FitsV P h m t v) : FitsV P h' m t v := by
  unfold FitsV at *
  split at hv
  · obtain ⟨cs, h1, h2⟩ := hv; exact ⟨cs, h1, h2.keep hf⟩
  · obtain ⟨cs, h1, h2⟩ := hv; exact ⟨cs, h1, h2.keep hf⟩
  · exact Fits.keep hf _ _ _ hv

theorem FitsAll.keep {h h' : Heap} (hf : Fr (fun _ => False) h h') {m : Nat} : ∀ {ts : List TypeId} {vs : List Value}, FitsAll P h m ts vs → FitsAll P h' m ts vs
  | [], [], h => h
  | _ :: _, _ :: _, h => ⟨h.1.keep hf, FitsAll.keep hf h.2⟩
  | [], _ :: _, h => h.elim
  | _ :: _, [], h => h.elim

theorem read_value {m : Nat} {t : TypeId} (ht : tiles P m t = true) {v : Value} {d : DataW H} {p : List MemPlace} {base : Nat} (hok : Value.okWide P w .any base t v) (hx : DataW.Trod enc P w 0 (fun _ => true) true t v d p) {g : Gh} {h : Heap} (hr : HR g h w.heap.size w w) :
    ∃ (g' : Gh) (h' : Heap) (u : Value), Le g g' ∧ HR g' h' w.heap.size w w ∧ Fr (fun _ => False) h h' ∧ FitsV P h' m t u ∧ VR g' u v := by
  obtain ⟨n, hx⟩ := hx
  obtain ⟨g', h', vs, a1, a2, a3, a4, a5, a6⟩ := read_of_trod m t ht n _ _ hx g h hr
  have agg : (∃ cs, v = .agg cs) → ∃ u, (∃ cs, u = .agg ⟨cs⟩ ∧ Fits P h' m t cs) ∧ VR g' u v := fun ⟨cs, hv⟩ => by
    subst hv
    exact ⟨.agg ⟨vs⟩, ⟨vs, rfl, a4⟩, by cases cs; exact .agg (by simpa [Value.cells] using a5)⟩
  cases m with
  | zero => simp [tiles] at ht
  | succ m =>
    unfold tiles at ht
    unfold FitsV
    unfold Value.okWide at hok
    cases hu : P.underlying t with
    | none => rw [hu] at ht; simp at ht
    | some d =>
      rw [hu] at ht hok
      have one : (∀ cs, v ≠ .agg cs) → P.cellsOf t = 1 → ∃ u, Fits P h' (m + 1) t [u] ∧ VR g' u v := fun hv h1 => by
        have hc : v.cells.toList = [v] := by cases v <;> first | rfl | exact absurd rfl (hv _)
        rw [hc] at a5
        rw [h1] at a6
        match vs, a6 with
        | [u], _ =>
          cases a5 with
          | cons h1 _ => exact ⟨u, a4, h1⟩
      cases d with
      | bool =>
        obtain ⟨u, h1, h2⟩ := one (fun cs hc => by subst hc; simp [Cell.okWide, Cell.ok, hu] at hok) (by simpa using ht)
        exact ⟨g', h', u, a1, a2, a3, h1, h2⟩
      | int k =>
        obtain ⟨u, h1, h2⟩ := one (fun cs hc => by subst hc; simp [Cell.okWide, Cell.ok, hu] at hok) (by simpa using ht)
        exact ⟨g', h', u, a1, a2, a3, h1, h2⟩
      | string =>
        obtain ⟨u, h1, h2⟩ := one (fun cs hc => by subst hc; simp [Cell.okWide, Cell.ok, hu] at hok) (by simpa using ht)
        exact ⟨g', h', u, a1, a2, a3, h1, h2⟩
      | slice e =>
        obtain ⟨u, h1, h2⟩ := one (fun cs hc => by subst hc; simp [Cell.okWide, Cell.ok, hu] at hok) (by simp at ht; exact ht.1.1)
        exact ⟨g', h', u, a1, a2, a3, h1, h2⟩
      | struct fs =>
        obtain ⟨u, h1, h2⟩ := agg (let ⟨cs, hc, _⟩ := hok; ⟨cs, hc⟩)
        exact ⟨g', h', u, a1, a2, a3, h1, h2⟩
      | array k e =>
        obtain ⟨u, h1, h2⟩ := agg (let ⟨cs, hc, _⟩ := hok; ⟨cs, hc⟩)
        exact ⟨g', h', u, a1, a2, a3, h1, h2⟩
      | _ => simp at ht

theorem read_all {m : Nat} {base : Nat} : ∀ {ts : List TypeId} {vs : List Value} {ds : List (DataW H)} {p : List MemPlace}, ts.all (tiles P m) = true → (∀ (j : Nat) t v, ts[j]? = some t → vs[j]? = some v → Value.okWide P w .any base t v) →
    DataW.TrodAll enc P w 0 (fun _ => true) true ts vs ds p → ∀ {g : Gh} {h : Heap}, HR g h w.heap.size w w →
    ∃ (g' : Gh) (h' : Heap) (us : List Value), Le g g' ∧ HR g' h' w.heap.size w w ∧ Fr (fun _ => False) h h' ∧ FitsAll P h' m ts us ∧ VRL g' us vs
  | [], vs, ds, p, _, _, hA, g, h, hr => by
    obtain ⟨rfl, rfl, rfl⟩ := trodAll_nil hA
    exact ⟨g, h, [], Le.refl _, hr, Fr.refl, trivial, .nil⟩
  | t :: ts, vs, ds, p, ht, hok, hA, g, h, hr => by
    obtain ⟨v, vs', d, ds', p', q, rfl, rfl, rfl, h1, h2⟩ := trodAll_cons hA
    simp only [List.all_cons, Bool.and_eq_true] at ht
    obtain ⟨g1, hh1, u, a1, a2, a3, a4, a5⟩ := read_value ht.1 (hok 0 t v rfl rfl) h1 hr
    obtain ⟨g2, hh2, us, b1, b2, b3, b4, b5⟩ := read_all ht.2 (fun j t v hj hv => hok (j + 1) t v (by simpa using hj) (by simpa using hv)) h2 a2
    exact ⟨g2, hh2, u :: us, a1.trans b1, b2, a3.trans' b3, ⟨a4.keep b3, b4⟩, .cons (a5.mono b1) b5⟩

/-! ### What is handed in reads as it did -/

theorem trod_again {w' : World} {sp : Nat → Bool} : ∀ (m : Nat) (t : TypeId), tiles P m t = true → ∀ (n : Nat) (cs : List Value) (x : DataW H × List MemPlace), DataW.trod enc P w 0 (fun _ => true) true n t cs = some x →
    (∀ p ∈ x.2, w.sameAt w' p ∧ sp p.block = true) → DataW.trod enc P w' 0 sp true n t cs = some x := by
  intro m
  induction m with
  | zero => intro t ht; simp [tiles] at ht
  | succ m ih =>
    intro t ht n cs x hx hs
    have hx' := DataW.trod_carry (w' := w') n t cs x hx fun p hp => (hs p hp).1
    unfold tiles at ht
    cases n with
    | zero => simp [DataW.trod] at hx
    | succ n =>
    cases hu : P.underlying t with
    | none => rw [hu] at ht; simp at ht
    | some d =>
      rw [hu] at ht
      cases d with
      | bool =>
        obtain ⟨b, rfl, rfl⟩ := DataW.trod_bool hu hx
        simp [DataW.trod, hu]
      | int k =>
        obtain ⟨b, rfl, rfl, hw⟩ := DataW.trod_int hu hx
        simp [DataW.trod, hu, hw]
      | string =>
        obtain ⟨b, rfl, rfl, hw⟩ := DataW.trod_string hu hx
        simp [DataW.trod, hu, hw]
      | slice e =>
        simp only [Bool.and_eq_true, beq_iff_eq, decide_eq_true_eq] at ht
        obtain ⟨⟨h1, hpos⟩, hte⟩ := ht
        rcases DataW.trod_slice hu hx with ⟨rfl, rfl⟩ | ⟨a, len, cap, elems, rest, n', hn', rfl, rfl, _, hlc, hcap, hel, hget, hrest, _⟩
        · simp [DataW.trod, hu]
        · cases hn'
          obtain ⟨hrl, hrg⟩ := hrest rfl
          have hmem : ∀ y ∈ elems ++ rest, ∀ p ∈ y.2, w.sameAt w' p ∧ sp p.block = true := fun y hy p hp => hs p (List.mem_append.2 (.inr (List.mem_flatMap.2 ⟨y, hy, hp⟩)))
          have hrow : ∀ p ∈ MemPlace.row a ((elems.length + rest.length) * P.cellsOf e), w.sameAt w' p ∧ sp p.block = true := fun p hp => hs p (List.mem_append.2 (.inl hp))
          have one : ∀ (i : Nat) (y : DataW H × List MemPlace), i < cap → y ∈ elems ++ rest → (w.cells? 0 (a.add (i * P.cellsOf e)) (P.cellsOf e)).bind (DataW.trod enc P w 0 (fun _ => true) true n e) = some y →
              (w'.cells? 0 (a.add (i * P.cellsOf e)) (P.cellsOf e)).bind (DataW.trod enc P w' 0 sp true n e) = some y := fun i y hi hy hb => by
            obtain ⟨cs', h2, h3⟩ := Option.bind_eq_some_iff.1 hb
            refine Option.bind_eq_some_iff.2 ⟨cs', World.cells?_carry h2 fun p hp => (hrow p ?_).1, ih e hte n _ _ h3 (hmem y hy)⟩
            obtain ⟨j, hj, rfl⟩ := MemPlace.mem_row.1 hp
            refine MemPlace.mem_row.2 ⟨i * P.cellsOf e + j, ?_, ?_⟩
            · have : i * P.cellsOf e + P.cellsOf e ≤ cap * P.cellsOf e := by rw [← Nat.succ_mul]; exact Nat.mul_le_mul_right _ hi
              rw [hel, hrl, show len + (cap - len) = cap from by omega]
              omega
            · unfold Addr.add; split <;> simp_all [Nat.add_assoc]
          have hE : (List.range len).mapM (fun i => (w'.cells? 0 (a.add (i * P.cellsOf e)) (P.cellsOf e)).bind (DataW.trod enc P w' 0 sp true n e)) = some elems := by
            refine mapM_some_of (by simp [hel]) fun i hi => ?_
            simp only [List.length_range] at hi
            have h2 := hget i hi
            rw [List.getElem?_eq_getElem (by omega)] at h2
            rw [List.getElem_range]
            exact one i _ (by omega) (List.mem_append.2 (.inl (List.getElem_mem _))) h2
          have hR : sp a.block = true ∨ cap = 0 := by
            rcases Nat.eq_zero_or_pos cap with h | h
            · exact .inr h
            · refine .inl (hrow (.cell a.block (a.off + 0)) (MemPlace.mem_row.2 ⟨0, ?_, rfl⟩)).2
              rw [hel, hrl, show len + (cap - len) = cap from by omega]
              exact Nat.mul_pos h hpos
          have hE2 : (if sp a.block then (List.range (cap - len)).mapM fun j => (w'.cells? 0 (a.add ((len + j) * P.cellsOf e)) (P.cellsOf e)).bind (DataW.trod enc P w' 0 sp true n e) else some []) = some rest := by
            rcases hR with h | h
            · rw [if_pos h]
              refine mapM_some_of (by simp [hrl]) fun i hi => ?_
              simp only [List.length_range] at hi
              have h2 := hrg i hi
              rw [List.getElem?_eq_getElem (by omega)] at h2
              rw [List.getElem_range]
              exact one (len + i) _ (by omega) (List.mem_append.2 (.inr (List.getElem_mem _))) h2
            · have : rest = [] := List.length_eq_zero_iff.1 (by omega)
              subst this
              have : cap - len = 0 := by omega
              rw [this]
              split <;> rfl
          simp only [DataW.trod, hu]
          rw [if_pos ⟨Nat.zero_le _, hlc, hcap⟩, hE]
          simp only [Option.bind_some, hE2, Option.map_some]
      | struct fs =>
        simp only [Bool.and_eq_true, beq_iff_eq] at ht
        obtain ⟨hlay, hall⟩ := ht
        obtain ⟨xs, n', hn', rfl, hlen, hxl, hf⟩ := DataW.trod_struct hu hx
        cases hn'
        refine trod_struct_mk hu hlen (mapM_some_of (by simp [hxl]) fun i hi => ?_)
        have hi' : i < fs.size := by simpa using hi
        have h2 := hf i fs[i] (by simp [hi'])
        rw [List.getElem?_eq_getElem (by omega)] at h2
        have h3 : fs.toList[i] = fs[i] := by simp
        rw [h3]
        refine ih _ (by have := List.all_eq_true.1 hall _ (List.getElem_mem hi); rw [h3] at this; exact this) n _ _ h2 fun p hp => hs p ?_
        exact List.mem_flatMap.2 ⟨_, List.getElem_mem _, hp⟩
      | array k e =>
        simp only [Bool.and_eq_true, beq_iff_eq] at ht
        obtain ⟨hsz, hte⟩ := ht
        obtain ⟨xs, n', hn', rfl, hlen, hxl, hf⟩ := DataW.trod_array hu hx
        cases hn'
        have hm : (List.range k).mapM (fun i => DataW.trod enc P w' 0 sp true n e ((cs.drop (i * P.cellsOf e)).take (P.cellsOf e))) = some xs := mapM_some_of (by simp [hxl]) fun i hi => by
          simp only [List.length_range] at hi
          have h2 := hf i hi
          rw [List.getElem?_eq_getElem (by omega)] at h2
          rw [List.getElem_range]
          exact ih e hte n _ _ h2 fun p hp => hs p (List.mem_flatMap.2 ⟨_, List.getElem_mem _, hp⟩)
        unfold DataW.trod
        rw [hu]
        split <;> simp_all
      | _ => simp at ht

theorem trodAll_again {w' : World} {sp : Nat → Bool} {m : Nat} : ∀ {ts : List TypeId} {vs : List Value} {ds : List (DataW H)} {p : List MemPlace}, ts.all (tiles P m) = true → DataW.TrodAll enc P w 0 (fun _ => true) true ts vs ds p →
    (∀ q ∈ p, w.sameAt w' q ∧ sp q.block = true) → DataW.TrodAll enc P w' 0 sp true ts vs ds p
  | [], vs, ds, p, _, hA, _ => by
    obtain ⟨rfl, rfl, rfl⟩ := trodAll_nil hA
    rfl
  | t :: ts, vs, ds, p, ht, hA, hs => by
    obtain ⟨v, vs', d, ds', p', q, rfl, rfl, rfl, ⟨n, h1⟩, h2⟩ := trodAll_cons hA
    simp only [List.all_cons, Bool.and_eq_true] at ht
    exact trodAll_cons_mk ⟨n, trod_again m t ht.1 n _ _ h1 fun q hq => hs q (List.mem_append.2 (.inl hq))⟩ (trodAll_again ht.2 h2 fun r hr => hs r (List.mem_append.2 (.inr hr)))

end
end Go.Vm
