/- A small machine over an abstract heap: reading and writing cells; what asks nobody. -/
import Derived.Test.YtoadcfjkkoemdaaVm3
import Derived.Orders
import Derived.Laws.Cells
import Derived.WalkKit
namespace Go.Vm
open Go.RowKit

/-! ### Lists laid over -/

theorem over_eq : ∀ (l : List Value) (n : Nat) (xs : List Value), n + xs.length ≤ l.length → over l n xs = l.take n ++ xs ++ l.drop (n + xs.length)
  | l, 0, [], _ => by cases l <;> simp [over]
  | [], n + 1, [], h => by simp at h
  | [], n, x :: xs, h => by simp at h
  | v :: l, 0, x :: xs, h => by
    have := over_eq l 0 xs (by simp at h ⊢; omega)
    simp only [over, this]
    simp [Nat.add_comm]
  | v :: l, n + 1, xs, h => by
    have := over_eq l n xs (by simp at h ⊢; omega)
    simp only [over, this]
    simp [Nat.add_right_comm]

theorem over_length (l : List Value) (n : Nat) (xs : List Value) (h : n + xs.length ≤ l.length) : (over l n xs).length = l.length := by
  rw [over_eq l n xs h]; simp; omega

theorem over_vr {g : Gh} {l l' xs xs' : List Value} (h : VRL g l l') (hx : VRL g xs xs') (n : Nat) (hn : n + xs.length ≤ l.length) : VRL g (over l n xs) (over l' n xs') := by
  have e1 := h.length
  have e2 := hx.length
  rw [over_eq l n xs hn, over_eq l' n xs' (by omega), e2]
  exact ((h.take n).append hx).append (h.drop _)

/-- laid over a piece of a list -/
theorem over_piece (l : List Value) (s m n : Nat) (xs : List Value) (h1 : s + m ≤ l.length) (h2 : n + xs.length ≤ m) :
    ((over l (s + n) xs).drop s).take m = over ((l.drop s).take m) n xs := by
  rw [over_eq l (s + n) xs (by omega), over_eq _ n xs (by simp; omega)]
  apply List.ext_getElem?
  intro j
  simp only [List.getElem?_take, List.getElem?_drop, List.getElem?_append, List.length_take, List.length_drop, List.length_append]
  repeat' split
  all_goals (try omega)
  all_goals (try rfl)
  all_goals (congr 1; omega)

theorem over_set : ∀ (c : List Value) (k : Nat) (v : Value) (r : List Value), k + (r.length + 1) ≤ c.length → over (c.set k v) (k + 1) r = over c k (v :: r)
  | [], k, v, r, h => by simp at h
  | x :: l, 0, v, r, _ => by simp [over]
  | x :: l, k + 1, v, r, h => by
    simp only [List.set_cons_succ, over]
    rw [over_set l k v r (by simp at h; omega)]

/-! ### Cells, read and written -/

theorem modify_eq {α : Type} (a : Array α) (i : Nat) (f : α → α) {x : α} (h : a[i]? = some x) : a.modify i f = a.setIfInBounds i (f x) := by
  apply Array.ext_getElem?
  intro j
  rw [Array.getElem?_modify, Array.getElem?_setIfInBounds]
  by_cases e : i = j
  · subst e
    have := (Array.getElem?_eq_some_iff.1 h).1
    have hx : a[i] = x := by rw [Array.getElem?_eq_getElem this] at h; exact Option.some.inj h
    simp [hx, this]
  · simp [e]

def withBlock (w : World) (b : Nat) (o : Obj) : World := { w with heap := w.heap.setIfInBounds b o }

theorem setCell_block {w : World} {b o : Nat} {c : Array Value} {el : TypeId} {fz : Nat × Nat} (v : Value) (hb : w.heap[b]? = some (.cells c el fz)) :
    w.setCell ⟨b, o, none⟩ v = withBlock w b (.cells (c.setIfInBounds o v) el fz) := by
  unfold World.setCell withBlock
  rw [modify_eq _ _ _ hb]
  rfl

theorem withBlock_twice (w : World) (b : Nat) (o o' : Obj) : withBlock (withBlock w b o) b o' = withBlock w b o' := by
  unfold withBlock
  simp

theorem heap_withBlock {w : World} {b : Nat} {o o' : Obj} (h : w.heap[b]? = some o) : (withBlock w b o').heap[b]? = some o' := by
  have := (Array.getElem?_eq_some_iff.1 h).1
  simp [withBlock, this]

theorem withBlock_self {w : World} {b : Nat} {o : Obj} (h : w.heap[b]? = some o) : withBlock w b o = w := by
  unfold withBlock
  have : w.heap.setIfInBounds b o = w.heap := by
    apply Array.ext_getElem?
    intro j
    rw [Array.getElem?_setIfInBounds]
    by_cases e : b = j
    · subst e
      have := (Array.getElem?_eq_some_iff.1 h).1
      rw [if_pos rfl, if_pos this, h]
    · simp [e]
  rw [this]

theorem storeCells_run (P : Program) (b o : Nat) (el : TypeId) (fz : Nat × Nat) : ∀ (xs : List Value) (i : Nat) (c : List Value) (w : World),
    w.heap[b]? = some (.cells ⟨c⟩ el fz) → o + i + xs.length ≤ c.length → (∀ v ∈ xs, v.oneCell' = true) →
    (∀ k, k < c.length → (decide (fz.1 ≤ k) && decide (k < fz.2)) = false) →
    (storeCells ⟨b, o, none⟩ xs i).run P w = .ok () (withBlock w b (.cells ⟨over c (o + i) xs⟩ el fz))
  | [], i, c, w, hb, hl, _, _ => by
    have : over c (o + i) [] = c := by rw [over_eq c _ [] (by simpa using hl)]; simp
    simp only [storeCells, Sem.run_pure, this]
    rw [withBlock_self hb]
  | v :: r, i, c, w, hb, hl, h1, hf => by
    have hadd : (⟨b, o, none⟩ : Addr).add i = ⟨b, o + i, none⟩ := by unfold Addr.add; split <;> simp_all
    simp only [List.length_cons] at hl
    have hc : w.cell? ⟨b, o + i, none⟩ = some (c[o + i]'(by omega)) := by simp [World.cell?, hb]
    have hz : w.frozen? ⟨b, o + i, none⟩ = false := by simp only [World.frozen?, hb]; exact hf _ (by omega)
    simp only [storeCells, Sem.run_bind, hadd]
    rw [run_store P w _ v .plain (h1 v (by simp)), hc]
    simp only [hz, Bool.false_eq_true, if_false, Result.andThen_ok]
    rw [setCell_block v hb]
    have hb' : (withBlock w b (.cells ((⟨c⟩ : Array Value).setIfInBounds (o + i) v) el fz)).heap[b]? = some (.cells ⟨c.set (o + i) v⟩ el fz) := by
      rw [heap_withBlock hb]
      congr 2
      apply Array.ext'
      simp
    rw [storeCells_run P b o el fz r (i + 1) (c.set (o + i) v) _ hb' (by simp; omega) (fun x hx => h1 x (by simp [hx])) (by simpa using hf)]
    rw [withBlock_twice, ← Nat.add_assoc, over_set c (o + i) v r (by omega)]

section
variable {P : Program} {g : Gh} {h : Heap} {B : Nat} {w0 w : World}

theorem AR.at {a a' : Addr} (ha : AR g a a') {x : GB} (hx : g[a.block]? = some (some x)) : a' = ⟨x.b, x.sh + a.off, none⟩ := ha.2 x hx

theorem loadCells_sound' (hr : HR g h B w0 w) {b off n : Nat} {c : List Value} (hc : cellsAt h b off n = some c) {a a' : Addr} (ha : AR g a a') (hb : a.block = b) (ho : a.off = off) :
    ∃ c', (∀ w', w'.heap = w.heap → (loadCells a' n).run P w' = .ok ⟨c'⟩ w') ∧ VRL g c c' := by
  subst hb ho
  unfold cellsAt at hc
  by_cases hn0 : n = 0
  · subst hn0
    rw [if_pos rfl] at hc
    cases hc
    exact ⟨[], fun w' _ => rfl, .nil⟩
  rw [if_neg hn0] at hc
  split at hc
  · rename_i cs hg
    split at hc
    · rename_i hlen
      cases hc
      obtain ⟨x, hx, c', el, fz, h1, h4, h6⟩ := hr.of_read hg
      obtain rfl := ha.at hx
      refine ⟨((c'.toList.drop (x.sh + a.off)).take n), ?_, ?_⟩
      · intro w' hw'
        have hl : ((c'.toList.drop (x.sh + a.off)).take n).length = n := by simp; omega
        have := run_loadCells_list (P := P) (w := w') (⟨x.b, x.sh + a.off, none⟩ : Addr) ((c'.toList.drop (x.sh + a.off)).take n) (fun j v hj => by
          have hadd : (⟨x.b, x.sh + a.off, none⟩ : Addr).add j = ⟨x.b, x.sh + a.off + j, none⟩ := by unfold Addr.add; split <;> simp_all
          rw [hadd]
          simp only [World.cell?, hw', h1]
          rw [List.getElem?_take] at hj
          split at hj
          · rw [List.getElem?_drop] at hj; simpa using hj
          · cases hj)
        rw [hl] at this
        exact this
      · have := (h6.drop a.off).take n
        rw [List.drop_take, List.drop_drop, List.take_take] at this
        rw [show min n (cs.length - a.off) = n from by omega] at this
        exact this
    · cases hc
  · cases hc

theorem loadCells_sound (hr : HR g h B w0 w) {b off n : Nat} {c : List Value} (hc : cellsAt h b off n = some c) {a a' : Addr} (ha : AR g a a') (hb : a.block = b) (ho : a.off = off) :
    ∃ c', (loadCells a' n).run P w = .ok ⟨c'⟩ w ∧ VRL g c c' :=
  let ⟨c', h1, h2⟩ := loadCells_sound' (P := P) hr hc ha hb ho
  ⟨c', h1 w rfl, h2⟩

theorem loadOne_sound (hr : HR g h B w0 w) {b off : Nat} {v : Value} {r : List Value} (hc : cellsAt h b off 1 = some (v :: r)) {a a' : Addr} (ha : AR g a a') (hb : a.block = b) (ho : a.off = off) :
    ∃ v', (load a').run P w = .ok v' w ∧ VR g v v' := by
  subst hb ho
  unfold cellsAt at hc
  rw [if_neg (by omega)] at hc
  split at hc
  · rename_i cs hg
    split at hc
    · rename_i hlen
      obtain ⟨x, hx, c', el, fz, h1, h4, h6⟩ := hr.of_read hg
      obtain rfl := ha.at hx
      have hv : cs[a.off]? = some v := by
        have := congrArg (fun o => o.bind (·[0]?)) hc
        simp at this
        exact this
      obtain ⟨v', hv', hvr⟩ := h6.get hv
      rw [List.getElem?_take] at hv'
      split at hv'
      · rw [List.getElem?_drop] at hv'
        refine ⟨v', ?_, hvr⟩
        have : w.cell? ⟨x.b, x.sh + a.off, none⟩ = some v' := by simp only [World.cell?, h1]; simpa using hv'
        simp [this]
      · cases hv'
    · cases hc
  · cases hc

theorem oneCell_vr {v v' : Value} (hv : VR g v v') : v'.oneCell' = v.oneCell' := by
  cases hv <;> rfl

theorem one_of_vr {l l' : List Value} (hv : VRL g l l') (h1 : l.all Value.oneCell' = true) : ∀ v ∈ l', v.oneCell' = true := by
  induction l generalizing l' with
  | nil => cases hv; intro _ v; simp at v
  | cons u l ih =>
    cases hv with
    | cons hu hl =>
      intro v hv
      simp only [List.all_cons, Bool.and_eq_true] at h1
      rcases List.mem_cons.1 hv with rfl | hv
      · rw [oneCell_vr hu]; exact h1.1
      · exact ih hl h1.2 v hv

theorem store_sound (hr : HR g h B w0 w) {b off : Nat} {xs xs' : List Value} {h' : Heap} (hp : putAt h b off xs = some h') (hx : VRL g xs xs')
    {a a' : Addr} (ha : AR g a a') (hb : a.block = b) (ho : a.off = off) :
    ∃ w', (storeCells a' xs').run P w = .ok () w' ∧ HR g h' B w0 w' := by
  subst hb ho
  unfold putAt at hp
  split at hp
  · rename_i cs es hg
    split at hp
    · rename_i hlen
      obtain ⟨hlen, hone⟩ := hlen
      have h1 := one_of_vr hx hone
      cases hp
      obtain ⟨x, hgx, c', el, fz, e1, e2, e3, e4, e5, e7, e6⟩ := hr.of_cells hg
      obtain rfl := ha.at hgx
      obtain ⟨c'⟩ := c'
      simp only [List.size_toArray] at e3 e4 e5
      have hl := hx.length
      refine ⟨_, storeCells_run P x.b (x.sh + a.off) el fz xs' 0 c' w e1 (by omega) h1 e5, ?_⟩
      refine hr.set hgx (by rw [hg]; rfl) rfl rfl rfl rfl ⟨⟨over c' (x.sh + a.off) xs'⟩, el, fz, heap_withBlock e1, e2, ?_, ?_, ?_, e7, ?_⟩
      · simp only [List.size_toArray]; rw [over_length _ _ _ (by omega)]; exact e3
      · simp only [List.size_toArray]; rw [over_length c' _ _ (by omega), over_length cs _ _ hlen]; exact e4
      · simp only [List.size_toArray]; rw [over_length _ _ _ (by omega)]; exact e5
      · simp only
        rw [over_length _ _ _ hlen, over_piece c' x.sh cs.length a.off xs' (by omega) (by omega)]
        exact over_vr e6 hx a.off hlen
    · cases hp
  · cases hp

/-- a new block of cells -/
theorem alloc_sound (hr : HR g h B w0 w) {c c' : List Value} (hc : VRL g c c') (el : TypeId) (es : Nat) (fz : Nat × Nat) (extra : List Value)
    (hf : ∀ o, o < c'.length + extra.length → (decide (fz.1 ≤ o) && decide (o < fz.2)) = false) (he : es ≠ 1 → fz = (0, 0)) :
    HR (g ++ [some ⟨w.heap.size, 0, es, c'.length + extra.length⟩]) (h.push (.cells c es)) B w0 { w with heap := w.heap.push (.cells ⟨c' ++ extra⟩ el fz) } :=
  hr.push (by
    have := hc.length
    refine ⟨⟨c' ++ extra⟩, el, fz, by simp, rfl, by simp, by simp; omega, by simpa using hf, he, ?_⟩
    simp only [List.drop_zero]
    rw [List.take_append_of_le_length (by omega), List.take_of_length_le (by omega)]
    exact hc.mono (Le.push _ _))

theorem AR_new (hr : HR g h B w0 w) {b es tot : Nat} {k : Option Nat} : AR (g ++ [some ⟨b, 0, es, tot⟩]) ⟨h.n, 0, k⟩ ⟨b, 0, none⟩ :=
  ⟨by simp; rw [hr.len]; omega, fun x hx => by simp only [← hr.len] at hx; simp at hx; subst hx; simp⟩

/-! ### What asks nobody -/

theorem pr_sound {α : Type} (P : Program) : ∀ (s : Sem α) (w : World), (∀ a, pr P s = some (.ok a) → s.run P w = .ok a w) ∧ (∀ v, pr P s = some (.error v) → s.run P w = .halt (.panic v) w)
  | .pure b, w => ⟨fun a h => by simp only [pr, Option.some.injEq, Except.ok.injEq] at h; subst h; rfl, fun v h => by simp [pr] at h⟩
  | .program k, w => by simpa only [pr, Sem.run] using pr_sound P (k P) w
  | .halt x, w => by
    cases x <;> simp [pr, Sem.run]
  | .load .., w | .store .., w | .new .., w | .shape .., w | .freeze .., w | .frozen .., w | .getObj .., w | .setObj .., w | .choose .., w | .sys .., w | .mark .., w => by simp [pr]

end

/-- what an operation answers, here and there -/
def ResOK (g : Gh) (B : Nat) (w0 : World) : R → Result Next → Prop
  | .ok v h', r => ∃ g' v' w' nx, r = .ok nx w' ∧ (nx = .value v' ∨ (nx = .skip ∧ v' = undef)) ∧ Le g g' ∧ HR g' h' B w0 w' ∧ VR g' v v'
  | .pan v h', r => ∃ g' v' w', r = .halt (.panic v') w' ∧ Le g g' ∧ HR g' h' B w0 w' ∧ VR g' v v'
  | .bad, _ => True

section
variable {P : Program} {g : Gh} {h : Heap} {B : Nat} {w0 w : World}

/-- it answers a value and leaves the world -/
theorem ResOK.same (hr : HR g h B w0 w) {v v' : Value} {r : Result Next} (hv : VR g v v') (h1 : r = .ok (.value v') w) : ResOK g B w0 (.ok v h) r :=
  ⟨g, v', w, _, h1, .inl rfl, Le.refl _, hr, hv⟩

theorem raw_sound (hr : HR g h B w0 w) {e e' : Operand → Value} (he : ∀ x, VR g (e x) (e' x)) (o : Oper) (hs : ∀ cs b, o.op ≠ .select cs b) :
    ResOK g B w0 (rawOp P e o h) ((execOp e' o).run P w) := by
  unfold rawOp
  split
  · rename_i hg
    have hcongr : execOp e' o = execOp e o := execOp_congr o hs fun x hx => by
      have := List.all_eq_true.1 hg x (by simpa using hx)
      exact (he x).eq_ground this
    rw [hcongr]
    split
    · rename_i v hv
      split
      · rename_i hgr
        exact ResOK.same hr (.gr hgr) ((pr_sound P _ w).1 _ hv)
      · trivial
    · rename_i v hv
      split
      · rename_i hgr
        exact ⟨g, v, w, (pr_sound P _ w).2 _ hv, Le.refl _, hr, .gr hgr⟩
      · trivial
    · trivial
  · trivial

end
end Go.Vm
