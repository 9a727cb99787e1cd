/- A small machine over an abstract heap: its operations answer as the model's do. -/
import Derived.Test.YtoadcfjkkoemdaaVm4
namespace Go.Vm
open Go.RowKit

def OpOK (P : Program) (o : Oper) (op : AOp) : Prop :=
  ∀ (g : Gh) (h : Heap) (B : Nat) (w0 w : World) (e e' : Operand → Value), HR g h B w0 w → (∀ x, VR g (e x) (e' x)) →
    ResOK g B w0 (xop P e h op) ((execOp e' o).run P w)

section
variable {P : Program} {o : Oper} {op : AOp}

/-! ### Types -/

theorem run_info {t : TypeId} {i : TypeInfo} (h : P.info? t = some i) (w : World) : (typeInfo t).run P w = .ok i w := by
  simp [typeInfo, h]
theorem run_under {t : TypeId} {d : TypeDesc} (h : P.underlying t = some d) (w : World) : (underlying t).run P w = .ok d w := by
  simp [underlying, h]
theorem run_size {t : TypeId} {n : Nat} (h : sizeT P t = some n) (w : World) : (sizeOf t).run P w = .ok n w := by
  unfold sizeT at h
  cases hi : P.info? t with
  | none => simp [hi] at h
  | some i => simp [hi] at h; subst h; simp [sizeOf, run_info hi]
theorem zeroT_some {t : TypeId} {z : Value} (h : zeroT P t = some z) : ground z = true ∧ ∃ i, P.info? t = some i ∧ i.zero = some z := by
  unfold zeroT at h
  split at h
  · rename_i v hv
    split at h
    · rename_i hg
      cases h
      cases hi : P.info? t with
      | none => simp [hi] at hv
      | some i => exact ⟨hg, i, rfl, by simpa [hi] using hv⟩
    · cases h
  · cases h
theorem run_zero {t : TypeId} {z : Value} (h : zeroT P t = some z) (w : World) : (zeroValue t).run P w = .ok z w := by
  obtain ⟨_, i, hi, hz⟩ := zeroT_some h
  simp [zeroValue, run_info hi, hz]

theorem groundL_cells {v : Value} (h : ground v = true) : groundL v.cells.toList = true := by
  cases v with
  | agg cs => obtain ⟨l⟩ := cs; simpa [ground, groundA, Value.cells] using h
  | _ => simpa [Value.cells, groundL] using h

theorem zeroCellsT_some {t : TypeId} {z : List Value} (h : zeroCellsT P t = some z) : groundL z = true ∧ ∃ i v, P.info? t = some i ∧ zeroT P t = some v ∧ v.cells.toList = z ∧ z.length = i.size := by
  unfold zeroCellsT at h
  split at h
  · rename_i i v hi hv
    split at h
    · rename_i hs
      cases h
      exact ⟨groundL_cells (zeroT_some hv).1, i, v, hi, hv, rfl, by simpa using hs⟩
    · cases h
  · cases h

theorem aggOf_cases {t : TypeId} {ag : Option Nat} (h : aggOf P t = some ag) : ∃ i d, P.info? t = some i ∧ P.underlying t = some d ∧
    ((∃ fs, d = .struct fs) ∧ ag = some i.size ∨ (∃ n e, d = .array n e) ∧ ag = some i.size ∨ (∀ fs, d ≠ .struct fs) ∧ (∀ n e, d ≠ .array n e) ∧ ag = none) := by
  unfold aggOf at h
  cases hi : P.info? t with
  | none => simp [hi] at h
  | some i =>
    cases hu : P.underlying t with
    | none => simp [hi, hu] at h
    | some d =>
      refine ⟨i, d, rfl, rfl, ?_⟩
      rw [hi, hu] at h
      cases d <;> simp at h <;> subst h <;> simp

theorem aggOf_some {t : TypeId} {n : Nat} (h : aggOf P t = some (some n)) : (∀ w, (isAgg t).run P w = .ok true w) ∧ sizeT P t = some n := by
  obtain ⟨i, d, hi, hu, ⟨⟨fs, rfl⟩, h1⟩ | ⟨⟨m, e, rfl⟩, h1⟩ | ⟨_, _, h1⟩⟩ := aggOf_cases h
  · cases h1; exact ⟨fun w => by simp [isAgg, run_under hu], by simp [sizeT, hi]⟩
  · cases h1; exact ⟨fun w => by simp [isAgg, run_under hu], by simp [sizeT, hi]⟩
  · cases h1
theorem aggOf_none {t : TypeId} (h : aggOf P t = some none) : (∀ w, (isAgg t).run P w = .ok false w) := by
  obtain ⟨i, d, hi, hu, ⟨_, h1⟩ | ⟨_, h1⟩ | ⟨h2, h3, _⟩⟩ := aggOf_cases h
  · cases h1
  · cases h1
  · intro w
    simp only [isAgg, Sem.run_bind, run_under hu, Result.andThen_ok]
    cases d with
    | struct fs => exact absurd rfl (h2 fs)
    | array m e => exact absurd rfl (h3 m e)
    | _ => simp

theorem cells_vr {g : Gh} {v v' : Value} (h : VR g v v') : VRL g v.cells.toList v'.cells.toList := by
  cases h with
  | gr h => exact VRL.of_ground (groundL_cells h)
  | ptr h => exact .cons (.ptr h) .nil
  | sl h1 h => exact .cons (.sl h1 h) .nil
  | osl h1 h2 h3 h4 => exact .cons (.osl h1 h2 h3 h4) .nil
  | map h => exact .cons (.map h) .nil
  | yield h => exact .cons (.yield h) .nil
  | func h1 h2 => exact .cons (.func h1 h2) .nil
  | iface h => exact .cons (.iface h) .nil
  | agg h => exact h
  | tuple h => exact .cons (.tuple h) .nil

theorem VR.int {g : Gh} {k : IntKind} {n : Int} {v' : Value} (h : VR g (.int k n) v') : v' = .int k n := h.eq_ground rfl
theorem VR.bool {g : Gh} {b : Bool} {v' : Value} (h : VR g (.bool b) v') : v' = .bool b := h.eq_ground rfl
theorem VR.string {g : Gh} {s : ByteArray} {v' : Value} (h : VR g (.string s) v') : v' = .string s := h.eq_ground rfl
theorem VR.pointer {g : Gh} {a : Addr} {v' : Value} (h : VR g (.pointer (some a)) v') : ∃ a', v' = .pointer (some a') ∧ AR g a a' := by
  cases h with
  | gr h => simp [ground] at h
  | ptr h => exact ⟨_, rfl, h⟩
theorem VR.slice {g : Gh} {a : Addr} {n c : Nat} {v' : Value} (h : VR g (.slice (some a) n c) v') : ∃ a' c', v' = .slice (some a') n c' ∧ AR g a a' ∧ c ≤ c' ∧
    (a.spot = none → c' = c) ∧ (a.spot ≠ none → ∀ x, g[a.block]? = some (some x) → x.sh + a.off + c' * x.es ≤ x.tot) := by
  cases h with
  | gr h => simp [ground] at h
  | sl h1 h => exact ⟨_, _, rfl, h, Nat.le_refl _, fun _ => rfl, fun h2 => absurd h1 h2⟩
  | osl h1 h h2 h3 => exact ⟨_, _, rfl, h, h2, (fun h4 => by rw [h1] at h4; cases h4), fun _ => h3⟩
theorem VR.agg_inv {g : Gh} {c : List Value} {v' : Value} (h : VR g (.agg ⟨c⟩) v') : ∃ c', v' = .agg ⟨c'⟩ ∧ VRL g c c' := by
  cases h with
  | gr h => exact ⟨c, rfl, VRL.of_ground (by simpa [ground, groundA] using h)⟩
  | agg h => exact ⟨_, rfl, h⟩
theorem VR.tuple_inv {g : Gh} {c : List Value} {v' : Value} (h : VR g (.tuple ⟨c⟩) v') : ∃ c', v' = .tuple ⟨c'⟩ ∧ VRL g c c' := by
  cases h with
  | gr h => exact ⟨c, rfl, VRL.of_ground (by simpa [ground, groundA] using h)⟩
  | tuple h => exact ⟨_, rfl, h⟩
theorem VR.iface_inv {g : Gh} {t : TypeId} {v v' : Value} (h : VR g (.iface t v) v') : ∃ u, v' = .iface t u ∧ VR g v u := by
  cases h with
  | gr h => exact ⟨v, rfl, .gr (by simpa [ground] using h)⟩
  | iface h => exact ⟨_, rfl, h⟩
theorem VR.func_inv {g : Gh} {f : FuncId} {a b : List Value} {v' : Value} (h : VR g (.func (.func f) ⟨a⟩ ⟨b⟩) v') : ∃ a' b', v' = .func (.func f) ⟨a'⟩ ⟨b'⟩ ∧ VRL g a a' ∧ VRL g b b' := by
  cases h with
  | gr h => simp only [ground, groundA, Bool.and_eq_true] at h; exact ⟨a, b, rfl, VRL.of_ground h.1, VRL.of_ground h.2⟩
  | func h1 h2 => exact ⟨_, _, rfl, h1, h2⟩
theorem VR.map_inv {g : Gh} {r : Nat} {v' : Value} (h : VR g (.map (some r)) v') : ∃ r', v' = .map (some r') ∧ BR g r r' := by
  cases h with
  | gr h => simp [ground] at h
  | map h => exact ⟨_, rfl, h⟩

/-! ### One by one -/

theorem ok_mov (x : Operand) (ho : o.op = .move x ∨ o.op = .assign x) : OpOK P o (.mov x) := by
  intro g h B w0 w e e' hr he
  refine ResOK.same hr (he x) ?_
  rcases ho with ho | ho <;> simp [execOp, ho]

theorem ok_pick {c a b : Operand} (ho : o.op = .pick c a b) : OpOK P o (.pick c a b) := by
  intro g h B w0 w e e' hr he
  simp only [xop]
  split
  · rename_i t ht
    have := he c; rw [ht] at this
    have hc := this.bool
    refine ResOK.same (v' := if t then e' a else e' b) hr (by cases t <;> simp [he]) ?_
    simp [execOp, ho, hc, asBool]
  · trivial

theorem ok_alloc {el : TypeId} {z : List Value} (ho : o.op = .alloc el) (hz : zeroCellsT P el = some z) : OpOK P o (.alloc el z) := by
  intro g h B w0 w e e' hr he
  obtain ⟨hg, i, v, hi, hv, hvz, hl⟩ := zeroCellsT_some hz
  have h1 := alloc_sound hr (VRL.of_ground (g := g) hg) el 0 (0, 0) [] (by simp) (by simp)
  refine ⟨_, .pointer (some ⟨w.heap.size, 0, none⟩), _, _, ?_, .inl rfl, Le.push _ _, h1, .ptr (AR_new hr)⟩
  simp [execOp, ho, Instr.alloc, run_zero hv, newVar, newRow, ← hvz]

theorem ok_box {el : TypeId} {x : Operand} (ho : o.op = .box el x) : OpOK P o (.box el x) := by
  intro g h B w0 w e e' hr he
  have h1 := alloc_sound hr (cells_vr (he x)) el 0 (0, 0) [] (by simp) (by simp)
  refine ⟨_, .pointer (some ⟨w.heap.size, 0, none⟩), _, _, ?_, .inl rfl, Le.push _ _, h1, .ptr (AR_new hr)⟩
  simp [execOp, ho, Instr.box, newVar, newRow]

theorem ok_load {t : TypeId} {x : Operand} {ag : Option Nat} (ho : o.op = .load t x) (ha : aggOf P t = some ag) : OpOK P o (.load ag x) := by
  intro g h B w0 w e e' hr he
  simp only [xop]
  split
  · rename_i a hx
    have := he x; rw [hx] at this
    obtain ⟨a', ha', har⟩ := this.pointer
    split
    · rename_i n
      split
      · rename_i c hc
        obtain ⟨c', hrun, hcr⟩ := loadCells_sound (P := P) hr hc har rfl rfl
        obtain ⟨h1, h2⟩ := aggOf_some ha
        refine ResOK.same hr (.agg hcr) ?_
        simp [execOp, ho, Instr.loadAt, ha', Instr.sureAddr, loadVar, h1, run_size h2, hrun]
      · trivial
    · split
      · rename_i v r hc
        obtain ⟨v', hrun, hvr⟩ := loadOne_sound (P := P) hr hc har rfl rfl
        have h1 := aggOf_none ha
        refine ResOK.same hr hvr ?_
        simp only [execOp, ho, Instr.loadAt, ha', Instr.sureAddr, loadVar, Sem.run_bind, Sem.run_pure, Result.andThen_ok, h1, Bool.false_eq_true, if_false, hrun]
      · trivial
  · trivial

theorem ok_store {t : TypeId} {x y : Operand} {n : Nat} (ho : o.op = .store t x y) (hn : sizeT P t = some n) : OpOK P o (.store n x y) := by
  intro g h B w0 w e e' hr he
  simp only [xop]
  split
  · rename_i a hx
    have := he x; rw [hx] at this
    obtain ⟨a', ha', har⟩ := this.pointer
    split
    · rename_i hc
      split
      · rename_i h' hp
        have hv := cells_vr (he y)
        have hlen := hv.length
        obtain ⟨w', hrun, hr'⟩ := store_sound (P := P) hr hp hv har rfl rfl
        refine ⟨g, undef, w', .skip, ?_, .inr ⟨rfl, rfl⟩, Le.refl _, hr', .gr rfl⟩
        have hsz : (e' y).cells.size = n := by
          have := hc
          have h3 : (e' y).cells.toList.length = (e y).cells.toList.length := hlen
          simp only [Array.length_toList] at h3
          omega
        simp only [execOp, ho, Instr.storeAt, ha', Instr.sureAddr, storeVar, Sem.run_bind, Sem.run_pure, Result.andThen_ok, run_size hn, hsz, ne_eq, not_true, if_false, hrun]
      · trivial
    · trivial
  · trivial

theorem run_nilDeref (w : World) : (runtimePanic (α := Next) .nilDeref).run P w = .halt (.panic (.iface P.rt.errorString (strVal "invalid memory address or nil pointer dereference"))) w := by
  simp [runtimePanic]

theorem ok_nilCheck {x : Operand} (ho : o.op = .nilCheck x) : OpOK P o (.nilCheck x) := by
  intro g h B w0 w e e' hr he
  simp only [xop]
  have hx := he x
  split
  · rename_i hv; rw [hv] at hx; have := hx.eq_ground rfl
    exact ⟨g, _, w, by simp only [execOp, ho, this]; exact run_nilDeref w, Le.refl _, hr, .gr rfl⟩
  · rename_i hv; rw [hv] at hx; have := hx.eq_ground rfl
    exact ⟨g, _, w, by simp only [execOp, ho, this]; exact run_nilDeref w, Le.refl _, hr, .gr rfl⟩
  · rename_i hv; rw [hv] at hx; have := hx.eq_ground rfl
    exact ⟨g, _, w, by simp only [execOp, ho, this]; exact run_nilDeref w, Le.refl _, hr, .gr rfl⟩
  · rename_i a hv; rw [hv] at hx
    obtain ⟨a', ha', har⟩ := hx.pointer
    exact ResOK.same hr (.ptr har) (by simp [execOp, ho, ha'])
  · rename_i f a b hv; rw [hv] at hx
    obtain ⟨⟨a⟩⟩ := a; obtain ⟨⟨b⟩⟩ := b
    all_goals (obtain ⟨a', b', hv', h1, h2⟩ := hx.func_inv; exact ResOK.same hr (.func h1 h2) (by simp [execOp, ho, hv']))
  · rename_i t v hv; rw [hv] at hx
    obtain ⟨u, hu, hvr⟩ := hx.iface_inv
    exact ResOK.same hr (.iface hvr) (by simp [execOp, ho, hu])
  · trivial

end
end Go.Vm
