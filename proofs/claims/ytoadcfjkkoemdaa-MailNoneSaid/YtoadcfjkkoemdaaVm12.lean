/- A small machine over an abstract heap: its operations answer as the model's do (5). -/
import Derived.Test.YtoadcfjkkoemdaaVm11
set_option linter.unusedSimpArgs false
namespace Go.Vm
open Go.RowKit

section
variable {P : Program} {o : Oper} {op : AOp}

theorem resolve_builtin {e : Operand → Value} {c : Call} {b : Builtin} {ty : TypeId} (hc : c.callee = .builtin b) :
    ∃ cs, ∀ w, (resolve e c ty).run P w = .ok { target := .builtin b c.argTypes ty cs, args := c.args.map e } w :=
  ⟨_, fun w => by simp only [resolve, hc, Sem.run_pure]; rfl⟩

theorem arr2 {α : Type} {a : Array α} {x y : α} (h : a.toList = [x, y]) : a = #[x, y] := by apply Array.ext'; simpa using h
theorem arr1 {α : Type} {a : Array α} {x : α} (h : a.toList = [x]) : a = #[x] := by apply Array.ext'; simpa using h

theorem exec_builtin {e : Operand → Value} {c : Call} {b : Builtin} (ho : o.op = .call c) (hc : c.callee = .builtin b) (w : World) :
    ∃ cs, (execOp e o).run P w = (builtin b c.argTypes o.type cs (c.args.map e)).run P w := by
  obtain ⟨cs, h⟩ := resolve_builtin (P := P) (e := e) (ty := o.type) hc
  exact ⟨cs, by simp only [execOp, ho, Sem.run_bind, h, Result.andThen_ok, invoke]⟩

theorem appendOf_cases {size bytes : Nat} {zero : List Value} {zeros : Bool} {s x : Value} {h : Heap} : (∃ u h', appendOf size bytes zero zeros s x h = .ok u h') ∨ appendOf size bytes zero zeros s x h = .bad := by
  unfold appendOf
  repeat' (first | split | (dsimp only; split))
  all_goals first | exact .inr rfl | exact .inl ⟨_, _, rfl⟩

theorem ok_append {c : Call} {ts tx el : TypeId} {d : TypeDesc} {i : TypeInfo} {z : List Value} {zeros : Bool} {s x : Operand} (ho : o.op = .call c) (hc : c.callee = .builtin .append) (ha : c.args.toList = [s, x]) (hat : c.argTypes.toList = [ts, tx])
    (hts : P.underlying ts = some (.slice el)) (htx : P.underlying tx = some d) (hi : P.info? el = some i) (hz : zeroCellsT P el = some z)
    (hd : (∃ k, d = .int k) ∨ (∃ e, d = .slice e) ∨ d = .string) (hzs : zeros = zerosOf d) : OpOK P o (.append el i.size i.bytes z zeros s x) := by
  intro g h B w0 w e e' hr he
  simp only [xop]
  obtain ⟨_, i', v, hi', hv, hvz, hl⟩ := zeroCellsT_some hz
  rw [hi] at hi'; cases hi'
  rcases appendOf_cases (size := i.size) (bytes := i.bytes) (zero := z) (zeros := zeros) (s := e s) (x := e x) (h := h) with ⟨u, h', hu⟩ | hu
  · rw [hu]
    obtain ⟨g', u', w', hrun, hl', hr', hvr⟩ := append_sound (P := P) (ty := o.type) hr hts htx hi hv hvz hl hd hzs (he s) (he x) hu
    refine ⟨g', u', w', _, ?_, .inl rfl, hl', hr', hvr⟩
    obtain ⟨cs, hcs⟩ := exec_builtin (P := P) (e := e') ho hc w
    rw [hcs, arr2 ha, arr2 hat]
    simp only [List.map_toArray, List.map_cons, List.map_nil, builtin, Sem.run_bind]
    rw [hrun]; rfl
  · rw [hu]; trivial

theorem firstCells_slice {size n : Nat} {a : Addr} {m c : Nat} : Builtin.firstCells size n (.slice (some a) m c) = loadCells a (n * size) := rfl

theorem ok_copy {c : Call} {td el : TypeId} {n : Nat} {ats : List TypeId} {d s : Operand} (ho : o.op = .call c) (hc : c.callee = .builtin .copy) (ha : c.args.toList = [d, s]) (hat : c.argTypes.toList = td :: ats)
    (htd : P.underlying td = some (.slice el)) (hn : sizeT P el = some n) : OpOK P o (.copy n d s) := by
  intro g h B w0 w e e' hr he
  simp only [xop]
  have hat0 : c.argTypes[0]? = some td := by
    have : c.argTypes.toList[0]? = some td := by rw [hat]; rfl
    simpa using this
  have hrunE : (execOp e' o).run P w = ((Builtin.copy_ c.argTypes o.type #[e' d, e' s]).run P w).andThen fun v w' => .ok (.value v) w' := by
    obtain ⟨cs, hcs⟩ := exec_builtin (P := P) (e := e') ho hc w
    rw [hcs, arr2 ha]
    simp only [List.map_toArray, List.map_cons, List.map_nil, builtin, Sem.run_bind]
    rfl
  have hcopy : ∀ (base' : Option Addr) (dl dc m : Nat) (sv : Value) (cells' : List Value) (w' : World), (Builtin.lenOf sv).run P w = .ok m w → (Builtin.firstCells n (min m dl) sv).run P w = .ok ⟨cells'⟩ w →
      ((match base' with | some a => storeCells a cells' | none => pure ()).run P w) = .ok () w' →
      (Builtin.copy_ c.argTypes o.type #[.slice base' dl dc, sv]).run P w = .ok (.int .i64 (min m dl : Nat)) w' := by
    intro base' dl dc m sv cells' w' h1 h2 h3
    cases base' <;> simp only at h3 <;> simp [Builtin.copy_, hat0, run_under htd, run_size hn, h1, h2, h3, goInt, Nat.min_def] <;> simp_all [Nat.min_def]
  unfold copyOf
  split
  · rename_i base len cap hd
    have hdv := he d; rw [hd] at hdv
    have hb : ∃ base' cap', e' d = .slice base' len cap' ∧ (∀ a, base = some a → ∃ a', base' = some a' ∧ AR g a a') ∧ (base = none → base' = none) := by
      cases base with
      | none => exact ⟨none, cap, hdv.eq_ground rfl, (fun a h => by cases h), fun _ => rfl⟩
      | some a => obtain ⟨a', c', h1, har, _⟩ := hdv.slice; exact ⟨some a', c', h1, (fun b hb => by cases hb; exact ⟨a', rfl, har⟩), fun h => by cases h⟩
    obtain ⟨base', cap', hde, hba, hbn⟩ := hb
    split
    · rename_i b m k hs
      have hsv := he s; rw [hs] at hsv
      obtain ⟨b', k', hse, hbr, _⟩ := hsv.slice
      split
      · trivial
      · rename_i cs hcs
        obtain ⟨cs', hrun, hvr⟩ := loadCells_sound (P := P) hr hcs hbr rfl rfl
        have hl1 : (Builtin.lenOf (.slice (some b') m k')).run P w = .ok m w := rfl
        split
        · obtain rfl := hbn rfl
          refine ResOK.same (v' := .int .i64 (min m len : Nat)) hr (.gr rfl) ?_
          rw [hrunE, hde, hse, hcopy none len cap' m _ cs' w hl1 hrun rfl]; rfl
        · rename_i a
          obtain ⟨a', rfl, har⟩ := hba a rfl
          split
          · rename_i h' hp
            obtain ⟨w', hst, hr'⟩ := store_sound (P := P) hr hp hvr har rfl rfl
            refine ⟨g, .int .i64 (min m len : Nat), w', _, ?_, .inl rfl, Le.refl _, hr', .gr rfl⟩
            rw [hrunE, hde, hse, hcopy (some a') len cap' m _ cs' w' hl1 hrun hst]; rfl
          · trivial
    · rename_i m k hs
      have hsv := he s; rw [hs] at hsv
      have hse := hsv.eq_ground rfl
      split
      · rename_i h0
        have hst : ∀ b : Option Addr, ((match b with | some a => storeCells a [] | none => pure ()).run P w) = .ok () w := fun b => by cases b <;> rfl
        refine ResOK.same (v' := .int .i64 0) hr (.gr rfl) ?_
        have := hcopy base' len cap' m (.slice none m k) [] w rfl (by rw [h0]; rfl) (hst base')
        rw [h0] at this
        rw [hrunE, hde, hse, this]; rfl
      · trivial
    · rename_i t hs
      have hsv := he s; rw [hs] at hsv
      have hse := hsv.string
      split
      · trivial
      · rename_i hn1
        obtain rfl : n = 1 := by simpa using hn1
        have hl1 : (Builtin.lenOf (.string t)).run P w = .ok t.size w := rfl
        have hf : (Builtin.firstCells 1 (min t.size len) (.string t)).run P w = .ok ⟨(ofBytes t).take (min t.size len)⟩ w := by
          simp only [Builtin.firstCells, Sem.run_pure]
          congr 1
          apply Array.ext'
          simp [ofBytes]
        split
        · obtain rfl := hbn rfl
          refine ResOK.same (v' := .int .i64 (min t.size len : Nat)) hr (.gr rfl) ?_
          rw [hrunE, hde, hse, hcopy none len cap' _ _ _ w hl1 hf rfl]; rfl
        · rename_i a
          obtain ⟨a', rfl, har⟩ := hba a rfl
          split
          · rename_i h' hp
            have hg : ∀ l : List UInt8, groundL (l.map fun b => Value.int .u8 b.toNat) = true := by
              intro l; induction l with
              | nil => rfl
              | cons a l ih => simp [groundL, ground, ih]
            obtain ⟨w', hst, hr'⟩ := store_sound (P := P) hr hp ((VRL.of_ground (hg _)).take _) har rfl rfl
            refine ⟨g, .int .i64 (min t.size len : Nat), w', _, ?_, .inl rfl, Le.refl _, hr', .gr rfl⟩
            rw [hrunE, hde, hse, hcopy (some a') len cap' _ _ _ w' hl1 hf hst]; rfl
          · trivial
    · trivial
  · trivial

theorem ok_strToBytes {src dst el : TypeId} {x : Operand} (ho : o.op = .convert src dst x) (hs : P.underlying src = some .string) (hd : P.underlying dst = some (.slice el)) (hel : P.underlying el = some (.int .u8)) :
    OpOK P o (.strToBytes el x) := by
  intro g h B w0 w e e' hr he
  simp only [xop]
  split
  · rename_i s hx
    have h1 := he x; rw [hx] at h1; have h1 := h1.string
    have hrun := run_bytes_of_string (P := P) w src dst el s hs hd hel
    have hg : ∀ l : List UInt8, groundL (l.map fun b => Value.int .u8 b.toNat) = true := by
      intro l; induction l with
      | nil => rfl
      | cons a l ih => simp [groundL, ground, ih]
    have hge : s.size ≤ grownCap w s.size 0 el := grown_ge w s.size 0 el
    have hrow : bytesRow s (grownCap w s.size 0 el) = ⟨ofBytes s ++ List.replicate (grownCap w s.size 0 el - s.size) (.int .u8 0)⟩ := by
      apply Array.ext'
      simp [bytesRow, ofBytes]
    have hol : (ofBytes s).length = s.size := by unfold ofBytes; rw [List.length_map, Array.length_toList]; rfl
    have h4 := alloc_sound (hr.drawn (w.drawn + 1)) (VRL.of_ground (g := g) (hg s.data.toList)) el 1
      ((bytesRow s (grownCap w s.size 0 el)).size, (bytesRow s (grownCap w s.size 0 el)).size + 1) (List.replicate (grownCap w s.size 0 el - s.size) (.int .u8 0))
      (fun q hq => by
        have : (bytesRow s (grownCap w s.size 0 el)).size = (List.map (fun b : UInt8 => Value.int .u8 b.toNat) s.data.toList).length + (List.replicate (grownCap w s.size 0 el - s.size) (Value.int .u8 0)).length := by
          rw [hrow]; simp [ofBytes]
        rw [← this] at hq
        have h5 : ¬ ((bytesRow s (grownCap w s.size 0 el)).size ≤ q) := by omega
        simp [h5]) (by simp)
    refine ⟨_, .slice (some ⟨w.heap.size, 0, none⟩) s.size (grownCap w s.size 0 el), _, _, ?_, .inl rfl, Le.push _ _, h4, ?_⟩
    · simp only [execOp, ho, Sem.run_bind, h1, hrun, Result.andThen_ok, Sem.run_pure]
      rw [hrow]
      rfl
    · refine .osl (k := 1) rfl (AR_new hr) hge (fun y hy => ?_)
      simp only [← hr.len] at hy
      simp at hy; subst hy
      have hol' := hol
      unfold ofBytes at hol'
      simp only [List.length_replicate]
      omega
  · trivial

end
end Go.Vm
