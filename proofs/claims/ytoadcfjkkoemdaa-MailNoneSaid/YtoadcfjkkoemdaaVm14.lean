/- A small machine over an abstract heap: its operations answer as the model's do (7). -/
import Derived.Test.YtoadcfjkkoemdaaVm13
set_option linter.unusedSimpArgs false
namespace Go.Vm
open Go.RowKit

section
variable {P : Program} {o : Oper} {op : AOp}

theorem part_agg {g : Gh} {t : TypeId} {n off : Nat} {c c' : List Value} (ha : aggOf P t = some (some n)) (hv : VRL g c c') (_hl : off + n ≤ c.length) (w : World) :
    ∃ v', (part t ⟨c'⟩ off).run P w = .ok v' w ∧ VR g (.agg ⟨(c.drop off).take n⟩) v' := by
  obtain ⟨h1, h2⟩ := aggOf_some ha
  refine ⟨.agg ⟨(c'.drop off).take n⟩, ?_, .agg ((hv.drop off).take n)⟩
  have hlen := hv.length
  simp only [part, Sem.run_bind, h1, Result.andThen_ok, if_true, run_size h2, Sem.run_pure]
  congr 2
  apply Array.ext'
  simp only [Array.toList_extract, List.extract_eq_take_drop]
  congr 1
  omega

theorem part_one {g : Gh} {t : TypeId} {off : Nat} {c c' : List Value} (ha : aggOf P t = some none) (hv : VRL g c c') (hl : off < c.length) (w : World) :
    ∃ v', (part t ⟨c'⟩ off).run P w = .ok v' w ∧ VR g (lget c off) v' := by
  have h1 := aggOf_none ha
  obtain ⟨v', h2, h3⟩ := hv.get (lget_get hl)
  refine ⟨v', ?_, h3⟩
  simp only [part, Sem.run_bind, h1, Result.andThen_ok, Bool.false_eq_true, if_false]
  simp [h2]

theorem ok_field {s : TypeId} {x : Operand} {f : Nat} {fs : Array Field} {fd : Field} {ag : Option Nat} (ho : o.op = .field s x f) (hs : P.underlying s = some (.struct fs)) (hf : fs[f]? = some fd) (ha : aggOf P fd.type = some ag) :
    OpOK P o (.field ag fd.offset x) := by
  intro g h B w0 w e e' hr he
  simp only [xop]
  split
  · rename_i c hx
    have h1 := he x; rw [hx] at h1
    obtain ⟨c', h1, hv⟩ := h1.agg_inv
    split
    · rename_i n
      split
      · rename_i hl
        obtain ⟨v', hrun, hvr⟩ := part_agg (P := P) ha hv hl w
        refine ResOK.same hr hvr ?_
        simp only [execOp, ho, Instr.field, Sem.run_bind, run_under hs, Result.andThen_ok, hf, h1, asAgg, Sem.run_pure, hrun]
      · trivial
    · split
      · rename_i hl
        obtain ⟨v', hrun, hvr⟩ := part_one (P := P) ha hv hl w
        refine ResOK.same hr hvr ?_
        simp only [execOp, ho, Instr.field, Sem.run_bind, run_under hs, Result.andThen_ok, hf, h1, asAgg, Sem.run_pure, hrun]
      · trivial
  · trivial

theorem ok_index {t : TypeId} {x i : Operand} {n s : Nat} {el : TypeId} {ag : Option Nat} (ho : o.op = .index t x i) (ht : P.underlying t = some (.array n el)) (hs : sizeT P el = some s) (ha : aggOf P el = some ag) :
    OpOK P o (.index n s ag x i) := by
  intro g h B w0 w e e' hr he
  simp only [xop]
  split
  · rename_i c j hx hj
    have h1 := he x; rw [hx] at h1
    obtain ⟨c', h1, hv⟩ := h1.agg_inv
    obtain ⟨k, q, hq, h0, hlt, rfl⟩ := idx_some hj
    have h2 := he i; rw [hq] at h2; have h2 := h2.int
    split
    · rename_i m
      split
      · rename_i hl
        obtain ⟨v', hrun, hvr⟩ := part_agg (P := P) ha hv hl w
        refine ResOK.same hr hvr ?_
        simp only [execOp, ho, Instr.index, h2, asIntOf, Sem.run_bind, Sem.run_pure, run_under ht, Result.andThen_ok, h1, h0, hlt, and_self, if_true, run_size hs, hrun]
      · trivial
    · split
      · rename_i hl
        obtain ⟨v', hrun, hvr⟩ := part_one (P := P) ha hv hl w
        refine ResOK.same hr hvr ?_
        simp only [execOp, ho, Instr.index, h2, asIntOf, Sem.run_bind, Sem.run_pure, run_under ht, Result.andThen_ok, h1, h0, hlt, and_self, if_true, run_size hs, hrun]
      · trivial
  · trivial

theorem call_run {e' : Operand → Value} {c : Call} {b : Builtin} {r : Value} {w w' : World} (ho : o.op = .call c) (hc : c.callee = .builtin b)
    (hb : ∀ cs, (builtin b c.argTypes o.type cs (c.args.map e')).run P w = .ok (.value r) w') : (execOp e' o).run P w = .ok (.value r) w' := by
  obtain ⟨cs, hcs⟩ := exec_builtin (P := P) (e := e') ho hc w
  rw [hcs]; exact hb cs

theorem first_type {c : Call} {t : TypeId} {ts : List TypeId} (h : c.argTypes.toList = t :: ts) : c.argTypes[0]? = some t := by
  have : c.argTypes.toList[0]? = some t := by rw [h]; rfl
  simpa using this

theorem ok_lenArr {c : Call} {x : Operand} {t el : TypeId} {n : Nat} (ho : o.op = .call c) (hc : c.callee = .builtin .len) (ha : c.args.toList = [x]) (hat : c.argTypes.toList = [t])
    (ht : P.underlying t = some (.array n el) ∨ ∃ a, P.underlying t = some (.pointer a) ∧ P.underlying a = some (.array n el)) : OpOK P o (.lenArr n) := by
  intro g h B w0 w e e' hr he
  refine ResOK.same (v' := .int .i64 n) hr (.gr rfl) (call_run ho hc fun cs => ?_)
  rw [arr1 ha, arr1 hat]
  rcases ht with ht | ⟨a, ht, hp⟩
  · simp [builtin, Builtin.len_, run_under ht, goInt]
  · simp [builtin, Builtin.len_, run_under ht, run_under hp, goInt]

theorem ERL.length {g : Gh} : ∀ {l l' : List MapEntry}, ERL g l l' → l'.length = l.length
  | _, _, .nil => rfl
  | _, _, .cons _ h => by simp [ERL.length h]

theorem HR.of_map {g : Gh} {h : Heap} {B : Nat} {w0 w : World} (hr : HR g h B w0 w) {r r' : Nat} {es : List MapEntry} {clock : Nat} (hg : h.get r = .map es clock) (hb : BR g r r') :
    ∃ x es', g[r]? = some (some x) ∧ x.b = r' ∧ w.heap[r']? = some (.map ⟨es'⟩ clock) ∧ ERL g es es' ∧ x.sh = 0 := by
  by_cases hx : ∃ x, g[r]? = some (some x)
  · obtain ⟨x, hx⟩ := hx
    have := (hr.alive r x hx).2.2
    rw [hg] at this
    obtain ⟨es', h1, h2, h3⟩ := this
    have hbr := hb.2 x hx
    exact ⟨x, es', hx, hbr.symm, by rw [hbr]; exact h1, h2, h3⟩
  · have := hr.dead r fun x hx' => hx ⟨x, hx'⟩
    rw [hg] at this; cases this

theorem ok_lenStr {c : Call} {x : Operand} {t : TypeId} (ho : o.op = .call c) (hc : c.callee = .builtin .len) (ha : c.args.toList = [x]) (hat : c.argTypes.toList = [t]) (ht : P.underlying t = some .string) : OpOK P o (.lenStr x) := by
  intro g h B w0 w e e' hr he
  simp only [xop]
  split
  · rename_i s hx
    have h1 := he x; rw [hx] at h1; have h1 := h1.string
    refine ResOK.same (v' := .int .i64 s.size) hr (.gr rfl) (call_run ho hc fun cs => ?_)
    rw [arr1 ha, arr1 hat]
    simp [builtin, Builtin.len_, run_under ht, goInt, h1]
  · trivial

theorem ok_lenSl {c : Call} {x : Operand} {t el : TypeId} (ho : o.op = .call c) (hc : c.callee = .builtin .len) (ha : c.args.toList = [x]) (hat : c.argTypes.toList = [t]) (ht : P.underlying t = some (.slice el)) : OpOK P o (.lenSl x) := by
  intro g h B w0 w e e' hr he
  simp only [xop]
  split
  · rename_i base n k hx
    have h1 := he x; rw [hx] at h1
    have h2 : ∃ b' k', e' x = .slice b' n k' := by
      cases base with
      | none => exact ⟨_, _, h1.eq_ground rfl⟩
      | some a => obtain ⟨a', c', h2, _⟩ := h1.slice; exact ⟨_, _, h2⟩
    obtain ⟨b', k', h2⟩ := h2
    refine ResOK.same (v' := .int .i64 n) hr (.gr rfl) (call_run ho hc fun cs => ?_)
    rw [arr1 ha, arr1 hat]
    simp [builtin, Builtin.len_, run_under ht, goInt, h2]
  · trivial

theorem mapAt_cases {g : Gh} {h : Heap} {B : Nat} {w0 w : World} (hr : HR g h B w0 w) {v v' : Value} {m : Option (Nat × List MapEntry × Nat)} (hm : mapAt h v = some m) (hv : VR g v v') :
    (m = none ∧ v' = .map none) ∨ ∃ r r' es es' clock x, m = some (r, es, clock) ∧ v' = .map (some r') ∧ h.get r = .map es clock ∧ g[r]? = some (some x) ∧ x.b = r' ∧ w.heap[r']? = some (.map ⟨es'⟩ clock) ∧ ERL g es es' ∧ x.sh = 0 := by
  unfold mapAt at hm
  split at hm
  · cases hm; exact .inl ⟨rfl, hv.eq_ground rfl⟩
  · rename_i r
    split at hm
    · rename_i es clock hg
      cases hm
      obtain ⟨r', h1, hb⟩ := hv.map_inv
      obtain ⟨x, es', h2, h3, h4, h5, h6⟩ := hr.of_map hg hb
      exact .inr ⟨r, r', es, es', clock, x, rfl, h1, hg, h2, h3, h4, h5, h6⟩
    · cases hm
  · cases hm

theorem run_getObj_map {w : World} {r : Nat} {es : Array MapEntry} {clock : Nat} (h : w.heap[r]? = some (.map es clock)) : (getObj r).run P w = .ok (.map es clock) w := by
  simp [getObj, Sem.run, h]

theorem run_setObj {w : World} {r : Nat} {ob o' : Obj} (h : w.heap[r]? = some ob) (hn : ∀ c e f, ob ≠ .cells c e f) : (setObj r o').run P w = .ok () (withBlock w r o') := by
  cases ob with
  | cells c e f => exact absurd rfl (hn c e f)
  | _ => simp only [setObj, Sem.run, h]; rfl

theorem ok_lenMap {c : Call} {x : Operand} {t kt el : TypeId} (ho : o.op = .call c) (hc : c.callee = .builtin .len) (ha : c.args.toList = [x]) (hat : c.argTypes.toList = [t]) (ht : P.underlying t = some (.map kt el)) : OpOK P o (.lenMap x) := by
  intro g h B w0 w e e' hr he
  simp only [xop]
  split
  · rename_i hm
    rcases mapAt_cases hr hm (he x) with ⟨_, h1⟩ | ⟨r, r', es, es', clock, y, h1, _⟩
    · refine ResOK.same (v' := .int .i64 0) hr (.gr rfl) (call_run ho hc fun cs => ?_)
      rw [arr1 ha, arr1 hat]
      simp [builtin, Builtin.len_, run_under ht, goInt, h1]
    · cases h1
  · rename_i r0 es0 cl0 hm
    rcases mapAt_cases hr hm (he x) with ⟨h1, _⟩ | ⟨r, r', es, es', clock, y, h1, h2, h3, h4, h5, h6, h7, _⟩
    · cases h1
    · cases h1
      refine ResOK.same (v' := .int .i64 es0.length) hr (.gr rfl) (call_run ho hc fun cs => ?_)
      rw [arr1 ha, arr1 hat]
      simp [builtin, Builtin.len_, run_under ht, goInt, h2, run_getObj_map h6, h7.length]
  · trivial

theorem ok_cap {c : Call} {x : Operand} {t el : TypeId} (ho : o.op = .call c) (hc : c.callee = .builtin .cap) (ha : c.args.toList = [x]) (hat : c.argTypes.toList = [t]) (ht : P.underlying t = some (.slice el)) : OpOK P o (.cap x) := by
  intro g h B w0 w e e' hr he
  simp only [xop]
  have key : ∀ b' n k, e' x = .slice b' n k → (execOp e' o).run P w = .ok (.value (.int .i64 k)) w := fun b' n k h2 => call_run ho hc fun cs => by
    rw [arr1 ha, arr1 hat]
    simp [builtin, Builtin.cap_, run_under ht, goInt, h2]
  split
  · rename_i n k hx
    have h1 := he x; rw [hx] at h1
    exact ResOK.same (v' := .int .i64 k) hr (.gr rfl) (key _ _ _ (h1.eq_ground rfl))
  · rename_i b off n k hx
    have h1 := he x; rw [hx] at h1
    obtain ⟨a', c', h2, _, _, h3, _⟩ := h1.slice
    have := h3 rfl
    subst this
    exact ResOK.same (v' := .int .i64 c') hr (.gr rfl) (key _ _ _ h2)
  · trivial

theorem wrap_nat {n : Int} (h0 : 0 ≤ n) (h : n < 1048576) : IntKind.i64.wrap n = n := IntWalk.i64_in _ (by omega)

theorem ok_makeSlice {t el : TypeId} {l c : Operand} {i : TypeInfo} {z : List Value} (ho : o.op = .makeSlice t l c) (ht : P.underlying t = some (.slice el)) (hi : P.info? el = some i) (hz : zeroCellsT P el = some z) :
    OpOK P o (.makeSlice el i.size i.bytes z l c) := by
  intro g h B w0 w e e' hr he
  obtain ⟨hg, i', v, hi', hv, hvz, hzl⟩ := zeroCellsT_some hz
  rw [hi] at hi'; cases hi'
  simp only [xop]
  split
  · rename_i m k hl hc
    split
    · rename_i hb
      obtain ⟨h0, hlc, hc1, hb1, hs0⟩ := hb
      have h1 := he l; rw [hl] at h1; have h1 := h1.int
      have h2 := he c; rw [hc] at h2; have h2 := h2.int
      have h4 := alloc_sound hr (VRL.of_ground (g := g) (repeatL_ground hg k.toNat)) el 0 (0, 0) [] (by simp) (by simp)
      refine ⟨_, .slice (some ⟨w.heap.size, 0, none⟩) m.toNat k.toNat, _, _, ?_, .inl rfl, Le.push _ _, h4, .sl rfl (AR_new hr)⟩
      have hk : ((k.toNat : Nat) : Int) = k := by omega
      have hbig : ¬ (281474976710656 < (i.bytes : Int) * k) := by
        have := small_mul (n := i.bytes) (b := k.toNat) hb1 (by omega)
        rw [hk] at this; exact this
      have hneg : ¬ (k < 0) := by omega
      have hneg2 : ¬ (m < 0) := by omega
      have hneg3 : ¬ (k < m) := by omega
      have hzs : v.cells.size = i.size := by rw [← hzl, ← hvz]; simp
      have hw1 := wrap_nat h0 (by omega : m < 1048576)
      have hw2 := wrap_nat (by omega : 0 ≤ k) hc1
      have hs := run_size (show sizeT P el = some i.size by simp [sizeT, hi])
      have hrow : (Array.range (k.toNat * i.size)).map (fun x => v.cells[x % v.cells.size]!) = (⟨repeatL z k.toNat⟩ : Array Value) := by
        have := range_zero v.cells k.toNat
        rw [hzs, hvz] at this
        rw [hzs]; exact this
      by_cases hn0 : k.toNat * i.size = 0
      · have e1 : (⟨repeatL z k.toNat⟩ : Array Value) = #[] := by
          apply Array.ext'
          have : (repeatL z k.toNat).length = 0 := by rw [repeatL_length, hzl]; exact hn0
          simp [List.length_eq_zero_iff.1 this]
        have e2 : repeatL z k.toNat = [] := congrArg Array.toList e1
        simp [execOp, ho, Instr.makeSlice, run_under ht, h1, h2, asInt, asIntOf, run_info hi, hw1, hw2, hbig, hneg, hneg2, hneg3, hs, hn0, newRow, e2]
        have e3 : (Array.map (fun (_ : Nat) => (default : Value)) (Array.range 0)) = #[] := by apply Array.ext'; simp
        rw [e3]
      · simp [execOp, ho, Instr.makeSlice, run_under ht, h1, h2, asInt, asIntOf, run_info hi, hw1, hw2, hbig, hneg, hneg2, hneg3, hs, hn0, newRow, run_zero hv, hrow]
    · trivial
  · trivial

theorem ok_panic {x : Operand} (ho : o.op = .panic x) : OpOK P o (.panic x) := by
  intro g h B w0 w e e' hr he
  simp only [xop]
  split
  · rename_i t v hx
    have h1 := he x; rw [hx] at h1
    obtain ⟨v', h1, hv⟩ := h1.iface_inv
    exact ⟨g, .iface t v', w, by simp [execOp, ho, h1, Instr.panic], Le.refl _, hr, .iface hv⟩
  · trivial

theorem ok_mkMap {t : TypeId} (ho : o.op = .makeMap t none) : OpOK P o .mkMap := by
  intro g h B w0 w e e' hr he
  have h4 := hr.push (o := .map [] 0) (o' := .map ⟨[]⟩ 0) (es := 0) (tot := 0) ⟨[], by simp, .nil, rfl⟩
  refine ⟨_, .map (some w.heap.size), _, _, ?_, .inl rfl, Le.push _ _, h4, .map ⟨by simp [hr.len], fun y hy => by simp [← hr.len] at hy; subst hy; rfl⟩⟩
  simp [execOp, ho, Instr.makeMap]

end
end Go.Vm
