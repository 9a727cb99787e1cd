/- A small machine over an abstract heap: its operations answer as the model's do (5). -/
import Derived.Test.YtbmpalbdbcjieaaGreatVB
set_option linter.unusedSimpArgs false
namespace Go.Vm
open Go.RowKit
section
variable {P : Program} {o : Oper} {op : AOp}
theorem resolve_builtin {e : Operand → Value} {c : Call} {b : Builtin} {ty : TypeId} (hc : c.callee = .builtin b) :
    ∃ cs, ∀ w, (resolve e c ty).run P w = .ok { target := .builtin b c.argTypes ty cs, args := c.args.map e } w :=
  ⟨_, fun w => by simp only [resolve, hc, Sem.run_pure]; rfl⟩
theorem arr2 {α : Type} {a : Array α} {x y : α} (h : a.toList = [x, y]) : a = #[x, y] := by apply Array.ext'; simpa using h
theorem arr1 {α : Type} {a : Array α} {x : α} (h : a.toList = [x]) : a = #[x] := by apply Array.ext'; simpa using h
theorem exec_builtin {e : Operand → Value} {c : Call} {b : Builtin} (ho : o.op = .call c) (hc : c.callee = .builtin b) (w : World) :
    ∃ cs, (execOp e o).run P w = (builtin b c.argTypes o.type cs (c.args.map e)).run P w := by
  obtain ⟨cs, h⟩ := resolve_builtin (P := P) (e := e) (ty := o.type) hc
  exact ⟨cs, by simp only [execOp, ho, Sem.run_bind, h, Result.andThen_ok, invoke]⟩
theorem appendOf_cases {size bytes : Nat} {zero : List Value} {zeros : Bool} {s x : Value} {h : Heap} : (∃ u h', appendOf size bytes zero zeros s x h = .ok u h') ∨ appendOf size bytes zero zeros s x h = .bad := by
  unfold appendOf
  repeat' (first | split | (dsimp only; split))
  all_goals first | exact .inr rfl | exact .inl ⟨_, _, rfl⟩
theorem ok_append {c : Call} {ts tx el : TypeId} {d : TypeDesc} {i : TypeInfo} {z : List Value} {zeros : Bool} {s x : Operand} (ho : o.op = .call c) (hc : c.callee = .builtin .append) (ha : c.args.toList = [s, x]) (hat : c.argTypes.toList = [ts, tx])
    (hts : P.underlying ts = some (.slice el)) (htx : P.underlying tx = some d) (hi : P.info? el = some i) (hz : zeroCellsT P el = some z)
    (hd : (∃ k, d = .int k) ∨ (∃ e, d = .slice e) ∨ d = .string) (hzs : zeros = zerosOf d) : OpOK P o (.append el i.size i.bytes z zeros s x) := by
  intro g h B w0 w e e' hr he
  simp only [xop]
  obtain ⟨_, i', v, hi', hv, hvz, hl⟩ := zeroCellsT_some hz
  rw [hi] at hi'; cases hi'
  rcases appendOf_cases (size := i.size) (bytes := i.bytes) (zero := z) (zeros := zeros) (s := e s) (x := e x) (h := h) with ⟨u, h', hu⟩ | hu
  · rw [hu]
    obtain ⟨g', u', w', hrun, hl', hr', hvr⟩ := append_sound (P := P) (ty := o.type) hr hts htx hi hv hvz hl hd hzs (he s) (he x) hu
    refine ⟨g', u', w', _, ?_, .inl rfl, hl', hr', hvr⟩
    obtain ⟨cs, hcs⟩ := exec_builtin (P := P) (e := e') ho hc w
    rw [hcs, arr2 ha, arr2 hat]
    simp only [List.map_toArray, List.map_cons, List.map_nil, builtin, Sem.run_bind]
    rw [hrun]; rfl
  · rw [hu]; trivial
theorem ok_copy {c : Call} {td el : TypeId} {n : Nat} {ats : List TypeId} {d s : Operand} (ho : o.op = .call c) (hc : c.callee = .builtin .copy) (ha : c.args.toList = [d, s]) (hat : c.argTypes.toList = td :: ats)
    (htd : P.underlying td = some (.slice el)) (hn : sizeT P el = some n) : OpOK P o (.copy n d s) := by
  intro g h B w0 w e e' hr he
  simp only [xop]
  have hat0 : c.argTypes[0]? = some td := by
    have : c.argTypes.toList[0]? = some td := by rw [hat]; rfl
    simpa using this
  have hrunE : (execOp e' o).run P w = ((Builtin.copy_ c.argTypes o.type #[e' d, e' s]).run P w).andThen fun v w' => .ok (.value v) w' := by
    obtain ⟨cs, hcs⟩ := exec_builtin (P := P) (e := e') ho hc w
    rw [hcs, arr2 ha]
    simp only [List.map_toArray, List.map_cons, List.map_nil, builtin, Sem.run_bind]
    rfl
  have hcopy : ∀ (base' : Option Addr) (dl dc m : Nat) (sv : Value) (cells' : List Value) (w' : World), (Builtin.lenOf sv).run P w = .ok m w → (Builtin.firstCells n (min m dl) sv).run P w = .ok ⟨cells'⟩ w →
      ((match base' with | some a => storeCells a cells' | none => pure ()).run P w) = .ok () w' →
      (Builtin.copy_ c.argTypes o.type #[.slice base' dl dc, sv]).run P w = .ok (.int .i64 (min m dl : Nat)) w' := by
    intro base' dl dc m sv cells' w' h1 h2 h3
    cases base' <;> simp only at h3 <;> simp [Builtin.copy_, hat0, run_under htd, run_size hn, h1, h2, h3, goInt, Nat.min_def] <;> simp_all [Nat.min_def]
  unfold copyOf
  split
  · rename_i base len cap hd
    have hdv := he d; rw [hd] at hdv
    have hb : ∃ base' cap', e' d = .slice base' len cap' ∧ (∀ a, base = some a → ∃ a', base' = some a' ∧ AR g a a') ∧ (base = none → base' = none) := by
      cases base with
      | none => exact ⟨none, cap, hdv.eq_ground rfl, (fun a h => by cases h), fun _ => rfl⟩
      | some a => obtain ⟨a', c', h1, har, _⟩ := hdv.slice; exact ⟨some a', c', h1, (fun b hb => by cases hb; exact ⟨a', rfl, har⟩), fun h => by cases h⟩
    obtain ⟨base', cap', hde, hba, hbn⟩ := hb
    split
    · rename_i b m k hs
      have hsv := he s; rw [hs] at hsv
      obtain ⟨b', k', hse, hbr, _⟩ := hsv.slice
      split
      · trivial
      · rename_i cs hcs
        obtain ⟨cs', hrun, hvr⟩ := loadCells_sound (P := P) hr hcs hbr rfl rfl
        have hl1 : (Builtin.lenOf (.slice (some b') m k')).run P w = .ok m w := rfl
        split
        · obtain rfl := hbn rfl
          refine ResOK.same (v' := .int .i64 (min m len : Nat)) hr (.gr rfl) ?_
          rw [hrunE, hde, hse, hcopy none len cap' m _ cs' w hl1 hrun rfl]; rfl
        · rename_i a
          obtain ⟨a', rfl, har⟩ := hba a rfl
          split
          · rename_i h' hp
            obtain ⟨w', hst, hr'⟩ := store_sound (P := P) hr hp hvr har rfl rfl
            refine ⟨g, .int .i64 (min m len : Nat), w', _, ?_, .inl rfl, Le.refl _, hr', .gr rfl⟩
            rw [hrunE, hde, hse, hcopy (some a') len cap' m _ cs' w' hl1 hrun hst]; rfl
          · trivial
    · rename_i m k hs
      have hsv := he s; rw [hs] at hsv
      have hse := hsv.eq_ground rfl
      split
      · rename_i h0
        have hst : ∀ b : Option Addr, ((match b with | some a => storeCells a [] | none => pure ()).run P w) = .ok () w := fun b => by cases b <;> rfl
        refine ResOK.same (v' := .int .i64 0) hr (.gr rfl) ?_
        have := hcopy base' len cap' m (.slice none m k) [] w rfl (by rw [h0]; rfl) (hst base')
        rw [h0] at this
        rw [hrunE, hde, hse, this]; rfl
      · trivial
    · rename_i t hs
      have hsv := he s; rw [hs] at hsv
      have hse := hsv.string
      split
      · trivial
      · rename_i hn1
        obtain rfl : n = 1 := by simpa using hn1
        have hl1 : (Builtin.lenOf (.string t)).run P w = .ok t.size w := rfl
        have hf : (Builtin.firstCells 1 (min t.size len) (.string t)).run P w = .ok ⟨(ofBytes t).take (min t.size len)⟩ w := by
          simp only [Builtin.firstCells, Sem.run_pure]
          congr 1
          apply Array.ext'
          simp [ofBytes]
        split
        · obtain rfl := hbn rfl
          refine ResOK.same (v' := .int .i64 (min t.size len : Nat)) hr (.gr rfl) ?_
          rw [hrunE, hde, hse, hcopy none len cap' _ _ _ w hl1 hf rfl]; rfl
        · rename_i a
          obtain ⟨a', rfl, har⟩ := hba a rfl
          split
          · rename_i h' hp
            have hg : ∀ l : List UInt8, groundL (l.map fun b => Value.int .u8 b.toNat) = true := by
              intro l; induction l with
              | nil => rfl
              | cons a l ih => simp [groundL, ground, ih]
            obtain ⟨w', hst, hr'⟩ := store_sound (P := P) hr hp ((VRL.of_ground (hg _)).take _) har rfl rfl
            refine ⟨g, .int .i64 (min t.size len : Nat), w', _, ?_, .inl rfl, Le.refl _, hr', .gr rfl⟩
            rw [hrunE, hde, hse, hcopy (some a') len cap' _ _ _ w' hl1 hf hst]; rfl
          · trivial
    · trivial
  · trivial
theorem ok_strToBytes {src dst el : TypeId} {x : Operand} (ho : o.op = .convert src dst x) (hs : P.underlying src = some .string) (hd : P.underlying dst = some (.slice el)) (hel : P.underlying el = some (.int .u8)) :
    OpOK P o (.strToBytes el x) := by
  intro g h B w0 w e e' hr he
  simp only [xop]
  split
  · rename_i s hx
    have h1 := he x; rw [hx] at h1; have h1 := h1.string
    have hrun := run_bytes_of_string (P := P) w src dst el s hs hd hel
    have hg : ∀ l : List UInt8, groundL (l.map fun b => Value.int .u8 b.toNat) = true := by
      intro l; induction l with
      | nil => rfl
      | cons a l ih => simp [groundL, ground, ih]
    have hge : s.size ≤ grownCap w s.size 0 el := grown_ge w s.size 0 el
    have hrow : bytesRow s (grownCap w s.size 0 el) = ⟨ofBytes s ++ List.replicate (grownCap w s.size 0 el - s.size) (.int .u8 0)⟩ := by
      apply Array.ext'
      simp [bytesRow, ofBytes]
    have hol : (ofBytes s).length = s.size := by unfold ofBytes; rw [List.length_map, Array.length_toList]; rfl
    have h4 := alloc_sound (hr.drawn (w.drawn + 1)) (VRL.of_ground (g := g) (hg s.data.toList)) el 1
      ((bytesRow s (grownCap w s.size 0 el)).size, (bytesRow s (grownCap w s.size 0 el)).size + 1) (List.replicate (grownCap w s.size 0 el - s.size) (.int .u8 0))
      (fun q hq => by
        have : (bytesRow s (grownCap w s.size 0 el)).size = (List.map (fun b : UInt8 => Value.int .u8 b.toNat) s.data.toList).length + (List.replicate (grownCap w s.size 0 el - s.size) (Value.int .u8 0)).length := by
          rw [hrow]; simp [ofBytes]
        rw [← this] at hq
        have h5 : ¬ ((bytesRow s (grownCap w s.size 0 el)).size ≤ q) := by omega
        simp [h5]) (by simp)
    refine ⟨_, .slice (some ⟨w.heap.size, 0, none⟩) s.size (grownCap w s.size 0 el), _, _, ?_, .inl rfl, Le.push _ _, h4, ?_⟩
    · simp only [execOp, ho, Sem.run_bind, h1, hrun, Result.andThen_ok, Sem.run_pure]
      rw [hrow]
      rfl
    · refine .osl (k := 1) rfl (AR_new hr) hge (fun y hy => ?_)
      simp only [← hr.len] at hy
      simp at hy; subst hy
      have hol' := hol
      unfold ofBytes at hol'
      simp only [List.length_replicate]
      omega
  · trivial
end
end Go.Vm

/- A small machine over an abstract heap: its operations answer as the model's do (6): parts of values. -/
set_option linter.unusedSimpArgs false
namespace Go.Vm
open Go.RowKit
section
variable {P : Program} {o : Oper} {op : AOp}
theorem zip_over : ∀ (xs : List Value) (k : Nat) (l : List Value), k + xs.length ≤ l.length →
    ((xs.zipIdx k).foldl (fun (cs : List Value) (p : Value × Nat) => cs.set p.2 p.1) l) = over l k xs
  | [], k, l, h => by rw [over_eq l k [] h]; simp
  | x :: xs, k, l, h => by
    simp only [List.zipIdx_cons, List.foldl_cons]
    rw [zip_over xs (k + 1) (l.set k x) (by simp at h ⊢; omega), over_set l k x xs (by simpa using h)]
theorem fold_over (v : Array Value) (off : Nat) (l : List Value) (h : off + v.size ≤ l.length) :
    (v.zipIdx.foldl (fun (cs : Array Value) (x : Value × Nat) => cs.setIfInBounds (off + x.2) x.1) ⟨l⟩) = ⟨over l off v.toList⟩ := by
  have key : ∀ (xs : List (Value × Nat)) (l : List Value), xs.foldl (fun (cs : Array Value) (x : Value × Nat) => cs.setIfInBounds (off + x.2) x.1) ⟨l⟩ = ⟨xs.foldl (fun (cs : List Value) (x : Value × Nat) => cs.set (off + x.2) x.1) l⟩ := by
    intro xs
    induction xs with
    | nil => intro l; rfl
    | cons x xs ih =>
      intro l
      simp only [List.foldl_cons]
      rw [← ih]
      congr 1
      apply Array.ext'
      simp
  rw [← Array.foldl_toList, key]
  congr 1
  have h2 := zip_over v.toList off l (by simpa using h)
  rw [← h2]
  have h3 : ∀ (xs : List Value) (k : Nat) (l : List Value), (xs.zipIdx k).foldl (fun (cs : List Value) (x : Value × Nat) => cs.set (off + x.2) x.1) l = (xs.zipIdx (off + k)).foldl (fun (cs : List Value) (p : Value × Nat) => cs.set p.2 p.1) l := by
    intro xs
    induction xs with
    | nil => intro k l; rfl
    | cons x xs ih => intro k l; simp only [List.zipIdx_cons, List.foldl_cons]; rw [ih, Nat.add_assoc]
  have := h3 v.toList 0 l
  simpa using this
theorem fill_eq (place : Nat → Option (Nat × Nat)) : ∀ (parts : List (Nat × Value)) (pl : List (Nat × Nat × Value)) (cells c : List Value),
    pl.length = parts.length → (∀ (j : Nat) (p : Nat × Value) (q : Nat × Nat × Value), parts[j]? = some p → pl[j]? = some q → place p.1 = some (q.1, q.2.1) ∧ q.2.2 = p.2) →
    fillL cells pl = some c → Instr.fill place ⟨cells⟩ parts = some ⟨c⟩
  | [], [], cells, c, _, _, h => by simp [fillL] at h; subst h; rfl
  | [], _ :: _, _, _, h, _, _ => by simp at h
  | _ :: _, [], _, _, h, _, _ => by simp at h
  | (i, v) :: parts, (off, size, u) :: pl, cells, c, hl, hp, h => by
    have h0 := hp 0 (i, v) (off, size, u) rfl rfl
    simp only at h0
    obtain ⟨hpl, rfl⟩ := h0
    simp only [fillL] at h
    split at h
    · rename_i hc
      simp only [Instr.fill, hpl, List.size_toArray]
      rw [if_neg (by rw [hc.1]; simp; omega)]
      have := fold_over u.cells off cells (by rw [hc.1]; exact hc.2)
      rw [show (u.cells.zipIdx.foldl (fun cs x => match x with | (c, j) => cs.setIfInBounds (off + j) c) (⟨cells⟩ : Array Value)) = ⟨over cells off u.cells.toList⟩ from this]
      exact fill_eq place parts pl _ c (by simpa using hl) (fun j p q h1 h2 => hp (j + 1) p q (by simpa using h1) (by simpa using h2)) h
    · cases h
theorem fillL_vr {g : Gh} : ∀ (pl pl' : List (Nat × Nat × Value)) (cells cells' c : List Value), pl'.length = pl.length →
    (∀ (j : Nat) (p q : Nat × Nat × Value), pl[j]? = some p → pl'[j]? = some q → q.1 = p.1 ∧ q.2.1 = p.2.1 ∧ VR g p.2.2 q.2.2) → VRL g cells cells' → fillL cells pl = some c →
    ∃ c', fillL cells' pl' = some c' ∧ VRL g c c'
  | [], [], cells, cells', c, _, _, hv, h => by simp [fillL] at h ⊢; subst h; exact hv
  | [], _ :: _, _, _, _, h, _, _, _ => by simp at h
  | _ :: _, [], _, _, _, h, _, _, _ => by simp at h
  | (off, size, u) :: pl, (off', size', u') :: pl', cells, cells', c, hl, hp, hv, h => by
    have h0 := hp 0 _ _ rfl rfl
    simp only at h0
    obtain ⟨rfl, rfl, hu⟩ := h0
    simp only [fillL] at h ⊢
    split at h
    · rename_i hc
      have hcl := cells_vr hu
      have h1 := hcl.length
      simp only [Array.length_toList] at h1
      have h2 := hv.length
      rw [if_pos ⟨by omega, by omega⟩]
      exact fillL_vr pl pl' _ _ c (by simpa using hl) (fun j p q h3 h4 => hp (j + 1) p q (by simpa using h3) (by simpa using h4))
        (over_vr hv hcl _ (by simp only [Array.length_toList]; omega)) h
    · cases h
theorem partsAt_spec {places : List (Nat × Nat)} : ∀ {parts : List (Nat × Operand)} {l : List (Nat × Nat × Operand)}, partsAt places parts = some l →
    l.length = parts.length ∧ ∀ (j : Nat) (p : Nat × Operand) (q : Nat × Nat × Operand), parts[j]? = some p → l[j]? = some q → places[p.1]? = some (q.1, q.2.1) ∧ q.2.2 = p.2
  | [], l, h => by simp [partsAt] at h; subst h; simp
  | (i, x) :: r, l, h => by
    simp only [partsAt] at h
    split at h
    · rename_i o s l' hp hr
      cases h
      obtain ⟨h1, h2⟩ := partsAt_spec hr
      refine ⟨by simp [h1], fun j p q hj hq => ?_⟩
      cases j with
      | zero => simp at hj hq; subst hj hq; exact ⟨hp, rfl⟩
      | succ j => exact h2 j p q (by simpa using hj) (by simpa using hq)
    · cases h
theorem fill_sound {g : Gh} {e e' : Operand → Value} (he : ∀ x, VR g (e x) (e' x)) {places : List (Nat × Nat)} {place : Nat → Option (Nat × Nat)} {parts : Array (Nat × Operand)} {l : List (Nat × Nat × Operand)} {cells c : List Value}
    (hl : partsAt places parts.toList = some l) (hpl : ∀ i p, places[i]? = some p → place i = some p) (hg : groundL cells = true) (hc : fillL cells (l.map fun p => (p.1, p.2.1, e p.2.2)) = some c) :
    ∃ c', Instr.fill place ⟨cells⟩ (parts.map fun p => (p.1, e' p.2)).toList = some ⟨c'⟩ ∧ VRL g c c' := by
  obtain ⟨h1, h2⟩ := partsAt_spec hl
  obtain ⟨c', h3, h4⟩ := fillL_vr (g := g) _ (l.map fun p => (p.1, p.2.1, e' p.2.2)) cells cells c (by simp) (fun j p q hp hq => by
    simp only [List.getElem?_map, Option.map_eq_some_iff] at hp hq
    obtain ⟨a, ha, rfl⟩ := hp
    obtain ⟨b, hb, rfl⟩ := hq
    rw [ha] at hb; cases hb
    exact ⟨rfl, rfl, he _⟩) (VRL.of_ground hg) hc
  refine ⟨c', ?_, h4⟩
  refine fill_eq place _ (l.map fun p => (p.1, p.2.1, e' p.2.2)) cells c' (by simp [h1]) (fun j p q hp hq => ?_) h3
  simp only [Array.toList_map, List.getElem?_map, Option.map_eq_some_iff] at hp hq
  obtain ⟨a, ha, rfl⟩ := hp
  obtain ⟨b, hb, rfl⟩ := hq
  obtain ⟨h5, h6⟩ := h2 j a b ha hb
  exact ⟨hpl _ _ h5, by simp only [h6]⟩
theorem places_run {P : Program} : ∀ {fs : List Field} {pl : List (Nat × Nat)}, placesOf P fs = some pl → ∀ w, (fs.mapM (m := Sem) fun f => do pure (f.offset, ← sizeOf f.type)).run P w = .ok pl w
  | [], pl, h, w => by simp [placesOf] at h; subst h; simp
  | f :: fs, pl, h, w => by
    simp only [placesOf] at h
    split at h
    · rename_i s l hs hl
      cases h
      have := places_run hl w
      simp only [List.mapM_cons, Sem.run_bind, run_size hs, Result.andThen_ok, Sem.run_pure]
      rw [this]; rfl
    · cases h
theorem ok_build_struct {t : TypeId} {parts : Array (Nat × Operand)} {fs : Array Field} {z : Value} {pl : List (Nat × Nat)} {l : List (Nat × Nat × Operand)} (ho : o.op = .build t parts) (ht : P.underlying t = some (.struct fs))
    (hz : zeroT P t = some z) (hp : placesOf P fs.toList = some pl) (hl : partsAt pl parts.toList = some l) : OpOK P o (.build z.cells.toList l) := by
  intro g h B w0 w e e' hr he
  simp only [xop]
  split
  · rename_i c hc
    obtain ⟨c', h1, h2⟩ := fill_sound (place := (pl.toArray[·]?)) he hl (fun i p hi => by simpa using hi) (groundL_cells (zeroT_some hz).1) hc
    refine ResOK.same (v' := .agg ⟨c'⟩) hr (.agg h2) ?_
    have hpr := places_run (P := P) hp w
    have hfs : (fs.mapM (m := Sem) fun f => do pure (f.offset, ← sizeOf f.type)).run P w = .ok pl.toArray w := by
      rw [Array.mapM_eq_mapM_toList]
      simp only [Sem.run_map]
      rw [hpr]; rfl
    have h1' : Instr.fill (fun x => pl[x]?) z.cells (parts.map fun p => (p.1, e' p.2)).toList = some ⟨c'⟩ := by simpa using h1
    simp only [execOp, ho, Instr.build, Sem.run_bind, run_zero hz, Result.andThen_ok, run_under ht]
    rw [hfs]
    simp only [Result.andThen_ok]
    rw [show (Instr.fill (fun x => pl.toArray[x]?) z.cells (Array.map (fun x => match x with | (i, x) => (i, e' x)) parts).toList) = some ⟨c'⟩ from h1]
    rfl
  · trivial
theorem ok_build_array {t : TypeId} {parts : Array (Nat × Operand)} {n s : Nat} {el : TypeId} {z : Value} {l : List (Nat × Nat × Operand)} (ho : o.op = .build t parts) (ht : P.underlying t = some (.array n el))
    (hz : zeroT P t = some z) (hs : sizeT P el = some s) (hl : partsAt ((List.range (n + 1)).map fun i => (i * s, s)) parts.toList = some l) : OpOK P o (.build z.cells.toList l) := by
  intro g h B w0 w e e' hr he
  simp only [xop]
  split
  · rename_i c hc
    obtain ⟨c', h1, h2⟩ := fill_sound (place := fun i => some (i * s, s)) he hl (fun i p hi => by
      rw [List.getElem?_map] at hi
      obtain ⟨a, ha, rfl⟩ := Option.map_eq_some_iff.1 hi
      rw [List.getElem?_range (by have := (List.getElem?_eq_some_iff.1 ha).1; simpa using this)] at ha
      cases ha; rfl) (groundL_cells (zeroT_some hz).1) hc
    refine ResOK.same (v' := .agg ⟨c'⟩) hr (.agg h2) ?_
    simp only [execOp, ho, Instr.build, Sem.run_bind, run_zero hz, Result.andThen_ok, run_under ht, run_size hs]
    rw [show (Instr.fill (fun i => some (i * s, s)) z.cells (Array.map (fun x => match x with | (i, x) => (i, e' x)) parts).toList) = some ⟨c'⟩ from h1]
    rfl
  · trivial
theorem ok_buildSlice {t : TypeId} {parts : Array (Nat × Operand)} {len s : Nat} {el : TypeId} {z : List Value} {l : List (Nat × Nat × Operand)} (ho : o.op = .buildSlice t len parts) (ht : P.underlying t = some (.slice el))
    (hs : sizeT P el = some s) (hz : zeroCellsT P el = some z) (hc : s ≠ 0 ∧ len * s ≤ 16777216) (hl : partsAt ((List.range (len + 1)).map fun i => (i * s, s)) parts.toList = some l) :
    OpOK P o (.buildSlice el (repeatL z len) len l) := by
  intro g h B w0 w e e' hr he
  obtain ⟨hg, i, v, hi, hv, hvz, hzl⟩ := zeroCellsT_some hz
  have his : s = i.size := by simp [sizeT, hi] at hs; exact hs.symm
  simp only [xop]
  split
  · rename_i c hcf
    obtain ⟨c', h1, h2⟩ := fill_sound (place := fun i => some (i * s, s)) he hl (fun i p hi => by
      rw [List.getElem?_map] at hi
      obtain ⟨a, ha, rfl⟩ := Option.map_eq_some_iff.1 hi
      rw [List.getElem?_range (by have := (List.getElem?_eq_some_iff.1 ha).1; simpa using this)] at ha
      cases ha; rfl) (repeatL_ground hg len) hcf
    have h4 := alloc_sound hr h2 el 0 (0, 0) [] (by simp) (by simp)
    refine ⟨_, .slice (some ⟨w.heap.size, 0, none⟩) len len, _, _, ?_, .inl rfl, Le.push _ _, h4, .sl rfl (AR_new hr)⟩
    have hlim : ¬ (len * s > 2 ^ 24) := by omega
    have hzs : v.cells.size = s := by rw [his, ← hzl, ← hvz]; simp
    have hrow : (if len * s = 0 then #[] else (Array.range (len * s)).map fun x => v.cells[x % v.cells.size]!) = (⟨repeatL z len⟩ : Array Value) := by
      split
      · rename_i h0
        apply Array.ext'
        have : (repeatL z len).length = 0 := by rw [repeatL_length, hzl, ← his]; exact h0
        simp [List.length_eq_zero_iff.1 this]
      · have := range_zero v.cells len
        rw [hzs, hvz] at this
        rw [hzs]; exact this
    simp only [execOp, ho, Instr.buildSlice, Sem.run_bind, run_under ht, Result.andThen_ok, run_size hs, hlim, if_false, Sem.run_ite, Sem.run_pure]
    by_cases h0 : len * s = 0
    · simp only [h0, if_true, Result.andThen_ok] at hrow ⊢
      have e1 : (⟨repeatL z len⟩ : Array Value) = #[] := hrow.symm
      rw [e1] at h1
      have e2 : (Array.map (fun x => (#[] : Array Value)[x % (#[] : Array Value).size]!) (Array.range 0)) = #[] := by simp
      rw [e2]
      rw [show (Instr.fill (fun i => some (i * s, s)) #[] (Array.map (fun x => match x with | (i, x) => (i, e' x)) parts).toList) = some ⟨c'⟩ from h1]
      simp [newRow]
    · simp only [h0, if_false] at hrow ⊢
      simp only [Sem.run_bind, run_zero hv, Result.andThen_ok, Sem.run_pure]
      rw [hrow]
      rw [show (Instr.fill (fun i => some (i * s, s)) (⟨repeatL z len⟩ : Array Value) (Array.map (fun x => match x with | (i, x) => (i, e' x)) parts).toList) = some ⟨c'⟩ from h1]
      simp [newRow]
  · trivial
end
end Go.Vm

/- A small machine over an abstract heap: its operations answer as the model's do (7). -/
set_option linter.unusedSimpArgs false
namespace Go.Vm
open Go.RowKit
section
variable {P : Program} {o : Oper} {op : AOp}
theorem part_agg {g : Gh} {t : TypeId} {n off : Nat} {c c' : List Value} (ha : aggOf P t = some (some n)) (hv : VRL g c c') (_hl : off + n ≤ c.length) (w : World) :
    ∃ v', (part t ⟨c'⟩ off).run P w = .ok v' w ∧ VR g (.agg ⟨(c.drop off).take n⟩) v' := by
  obtain ⟨h1, h2⟩ := aggOf_some ha
  refine ⟨.agg ⟨(c'.drop off).take n⟩, ?_, .agg ((hv.drop off).take n)⟩
  have hlen := hv.length
  simp only [part, Sem.run_bind, h1, Result.andThen_ok, if_true, run_size h2, Sem.run_pure]
  congr 2
  apply Array.ext'
  simp only [Array.toList_extract, List.extract_eq_take_drop]
  congr 1
  omega
theorem part_one {g : Gh} {t : TypeId} {off : Nat} {c c' : List Value} (ha : aggOf P t = some none) (hv : VRL g c c') (hl : off < c.length) (w : World) :
    ∃ v', (part t ⟨c'⟩ off).run P w = .ok v' w ∧ VR g (lget c off) v' := by
  have h1 := aggOf_none ha
  obtain ⟨v', h2, h3⟩ := hv.get (lget_get hl)
  refine ⟨v', ?_, h3⟩
  simp only [part, Sem.run_bind, h1, Result.andThen_ok, Bool.false_eq_true, if_false]
  simp [h2]
theorem ok_field {s : TypeId} {x : Operand} {f : Nat} {fs : Array Field} {fd : Field} {ag : Option Nat} (ho : o.op = .field s x f) (hs : P.underlying s = some (.struct fs)) (hf : fs[f]? = some fd) (ha : aggOf P fd.type = some ag) :
    OpOK P o (.field ag fd.offset x) := by
  intro g h B w0 w e e' hr he
  simp only [xop]
  split
  · rename_i c hx
    have h1 := he x; rw [hx] at h1
    obtain ⟨c', h1, hv⟩ := h1.agg_inv
    split
    · rename_i n
      split
      · rename_i hl
        obtain ⟨v', hrun, hvr⟩ := part_agg (P := P) ha hv hl w
        refine ResOK.same hr hvr ?_
        simp only [execOp, ho, Instr.field, Sem.run_bind, run_under hs, Result.andThen_ok, hf, h1, asAgg, Sem.run_pure, hrun]
      · trivial
    · split
      · rename_i hl
        obtain ⟨v', hrun, hvr⟩ := part_one (P := P) ha hv hl w
        refine ResOK.same hr hvr ?_
        simp only [execOp, ho, Instr.field, Sem.run_bind, run_under hs, Result.andThen_ok, hf, h1, asAgg, Sem.run_pure, hrun]
      · trivial
  · trivial
theorem ok_index {t : TypeId} {x i : Operand} {n s : Nat} {el : TypeId} {ag : Option Nat} (ho : o.op = .index t x i) (ht : P.underlying t = some (.array n el)) (hs : sizeT P el = some s) (ha : aggOf P el = some ag) :
    OpOK P o (.index n s ag x i) := by
  intro g h B w0 w e e' hr he
  simp only [xop]
  split
  · rename_i c j hx hj
    have h1 := he x; rw [hx] at h1
    obtain ⟨c', h1, hv⟩ := h1.agg_inv
    obtain ⟨k, q, hq, h0, hlt, rfl⟩ := idx_some hj
    have h2 := he i; rw [hq] at h2; have h2 := h2.int
    split
    · rename_i m
      split
      · rename_i hl
        obtain ⟨v', hrun, hvr⟩ := part_agg (P := P) ha hv hl w
        refine ResOK.same hr hvr ?_
        simp only [execOp, ho, Instr.index, h2, asIntOf, Sem.run_bind, Sem.run_pure, run_under ht, Result.andThen_ok, h1, h0, hlt, and_self, if_true, run_size hs, hrun]
      · trivial
    · split
      · rename_i hl
        obtain ⟨v', hrun, hvr⟩ := part_one (P := P) ha hv hl w
        refine ResOK.same hr hvr ?_
        simp only [execOp, ho, Instr.index, h2, asIntOf, Sem.run_bind, Sem.run_pure, run_under ht, Result.andThen_ok, h1, h0, hlt, and_self, if_true, run_size hs, hrun]
      · trivial
  · trivial
theorem call_run {e' : Operand → Value} {c : Call} {b : Builtin} {r : Value} {w w' : World} (ho : o.op = .call c) (hc : c.callee = .builtin b)
    (hb : ∀ cs, (builtin b c.argTypes o.type cs (c.args.map e')).run P w = .ok (.value r) w') : (execOp e' o).run P w = .ok (.value r) w' := by
  obtain ⟨cs, hcs⟩ := exec_builtin (P := P) (e := e') ho hc w
  rw [hcs]; exact hb cs
theorem first_type {c : Call} {t : TypeId} {ts : List TypeId} (h : c.argTypes.toList = t :: ts) : c.argTypes[0]? = some t := by
  have : c.argTypes.toList[0]? = some t := by rw [h]; rfl
  simpa using this
theorem ok_lenArr {c : Call} {x : Operand} {t el : TypeId} {n : Nat} (ho : o.op = .call c) (hc : c.callee = .builtin .len) (ha : c.args.toList = [x]) (hat : c.argTypes.toList = [t])
    (ht : P.underlying t = some (.array n el) ∨ ∃ a, P.underlying t = some (.pointer a) ∧ P.underlying a = some (.array n el)) : OpOK P o (.lenArr n) := by
  intro g h B w0 w e e' hr he
  refine ResOK.same (v' := .int .i64 n) hr (.gr rfl) (call_run ho hc fun cs => ?_)
  rw [arr1 ha, arr1 hat]
  rcases ht with ht | ⟨a, ht, hp⟩
  · simp [builtin, Builtin.len_, run_under ht, goInt]
  · simp [builtin, Builtin.len_, run_under ht, run_under hp, goInt]
theorem ERL.length {g : Gh} : ∀ {l l' : List MapEntry}, ERL g l l' → l'.length = l.length
  | _, _, .nil => rfl
  | _, _, .cons _ h => by simp [ERL.length h]
theorem HR.of_map {g : Gh} {h : Heap} {B : Nat} {w0 w : World} (hr : HR g h B w0 w) {r r' : Nat} {es : List MapEntry} {clock : Nat} (hg : h.get r = .map es clock) (hb : BR g r r') :
    ∃ x es', g[r]? = some (some x) ∧ x.b = r' ∧ w.heap[r']? = some (.map ⟨es'⟩ clock) ∧ ERL g es es' ∧ x.sh = 0 := by
  by_cases hx : ∃ x, g[r]? = some (some x)
  · obtain ⟨x, hx⟩ := hx
    have := (hr.alive r x hx).2.2
    rw [hg] at this
    obtain ⟨es', h1, h2, h3⟩ := this
    have hbr := hb.2 x hx
    exact ⟨x, es', hx, hbr.symm, by rw [hbr]; exact h1, h2, h3⟩
  · have := hr.dead r fun x hx' => hx ⟨x, hx'⟩
    rw [hg] at this; cases this
theorem ok_lenStr {c : Call} {x : Operand} {t : TypeId} (ho : o.op = .call c) (hc : c.callee = .builtin .len) (ha : c.args.toList = [x]) (hat : c.argTypes.toList = [t]) (ht : P.underlying t = some .string) : OpOK P o (.lenStr x) := by
  intro g h B w0 w e e' hr he
  simp only [xop]
  split
  · rename_i s hx
    have h1 := he x; rw [hx] at h1; have h1 := h1.string
    refine ResOK.same (v' := .int .i64 s.size) hr (.gr rfl) (call_run ho hc fun cs => ?_)
    rw [arr1 ha, arr1 hat]
    simp [builtin, Builtin.len_, run_under ht, goInt, h1]
  · trivial
theorem ok_lenSl {c : Call} {x : Operand} {t el : TypeId} (ho : o.op = .call c) (hc : c.callee = .builtin .len) (ha : c.args.toList = [x]) (hat : c.argTypes.toList = [t]) (ht : P.underlying t = some (.slice el)) : OpOK P o (.lenSl x) := by
  intro g h B w0 w e e' hr he
  simp only [xop]
  split
  · rename_i base n k hx
    have h1 := he x; rw [hx] at h1
    have h2 : ∃ b' k', e' x = .slice b' n k' := by
      cases base with
      | none => exact ⟨_, _, h1.eq_ground rfl⟩
      | some a => obtain ⟨a', c', h2, _⟩ := h1.slice; exact ⟨_, _, h2⟩
    obtain ⟨b', k', h2⟩ := h2
    refine ResOK.same (v' := .int .i64 n) hr (.gr rfl) (call_run ho hc fun cs => ?_)
    rw [arr1 ha, arr1 hat]
    simp [builtin, Builtin.len_, run_under ht, goInt, h2]
  · trivial
theorem mapAt_cases {g : Gh} {h : Heap} {B : Nat} {w0 w : World} (hr : HR g h B w0 w) {v v' : Value} {m : Option (Nat × List MapEntry × Nat)} (hm : mapAt h v = some m) (hv : VR g v v') :
    (m = none ∧ v' = .map none) ∨ ∃ r r' es es' clock x, m = some (r, es, clock) ∧ v' = .map (some r') ∧ h.get r = .map es clock ∧ g[r]? = some (some x) ∧ x.b = r' ∧ w.heap[r']? = some (.map ⟨es'⟩ clock) ∧ ERL g es es' ∧ x.sh = 0 := by
  unfold mapAt at hm
  split at hm
  · cases hm; exact .inl ⟨rfl, hv.eq_ground rfl⟩
  · rename_i r
    split at hm
    · rename_i es clock hg
      cases hm
      obtain ⟨r', h1, hb⟩ := hv.map_inv
      obtain ⟨x, es', h2, h3, h4, h5, h6⟩ := hr.of_map hg hb
      exact .inr ⟨r, r', es, es', clock, x, rfl, h1, hg, h2, h3, h4, h5, h6⟩
    · cases hm
  · cases hm
theorem run_getObj_map {w : World} {r : Nat} {es : Array MapEntry} {clock : Nat} (h : w.heap[r]? = some (.map es clock)) : (getObj r).run P w = .ok (.map es clock) w := by
  simp [getObj, Sem.run, h]
theorem run_setObj {w : World} {r : Nat} {ob o' : Obj} (h : w.heap[r]? = some ob) (hn : ∀ c e f, ob ≠ .cells c e f) : (setObj r o').run P w = .ok () (withBlock w r o') := by
  cases ob with
  | cells c e f => exact absurd rfl (hn c e f)
  | _ => simp only [setObj, Sem.run, h]; rfl
theorem ok_lenMap {c : Call} {x : Operand} {t kt el : TypeId} (ho : o.op = .call c) (hc : c.callee = .builtin .len) (ha : c.args.toList = [x]) (hat : c.argTypes.toList = [t]) (ht : P.underlying t = some (.map kt el)) : OpOK P o (.lenMap x) := by
  intro g h B w0 w e e' hr he
  simp only [xop]
  split
  · rename_i hm
    rcases mapAt_cases hr hm (he x) with ⟨_, h1⟩ | ⟨r, r', es, es', clock, y, h1, _⟩
    · refine ResOK.same (v' := .int .i64 0) hr (.gr rfl) (call_run ho hc fun cs => ?_)
      rw [arr1 ha, arr1 hat]
      simp [builtin, Builtin.len_, run_under ht, goInt, h1]
    · cases h1
  · rename_i r0 es0 cl0 hm
    rcases mapAt_cases hr hm (he x) with ⟨h1, _⟩ | ⟨r, r', es, es', clock, y, h1, h2, h3, h4, h5, h6, h7, _⟩
    · cases h1
    · cases h1
      refine ResOK.same (v' := .int .i64 es0.length) hr (.gr rfl) (call_run ho hc fun cs => ?_)
      rw [arr1 ha, arr1 hat]
      simp [builtin, Builtin.len_, run_under ht, goInt, h2, run_getObj_map h6, h7.length]
  · trivial
theorem ok_cap {c : Call} {x : Operand} {t el : TypeId} (ho : o.op = .call c) (hc : c.callee = .builtin .cap) (ha : c.args.toList = [x]) (hat : c.argTypes.toList = [t]) (ht : P.underlying t = some (.slice el)) : OpOK P o (.cap x) := by
  intro g h B w0 w e e' hr he
  simp only [xop]
  have key : ∀ b' n k, e' x = .slice b' n k → (execOp e' o).run P w = .ok (.value (.int .i64 k)) w := fun b' n k h2 => call_run ho hc fun cs => by
    rw [arr1 ha, arr1 hat]
    simp [builtin, Builtin.cap_, run_under ht, goInt, h2]
  split
  · rename_i n k hx
    have h1 := he x; rw [hx] at h1
    exact ResOK.same (v' := .int .i64 k) hr (.gr rfl) (key _ _ _ (h1.eq_ground rfl))
  · rename_i b off n k hx
    have h1 := he x; rw [hx] at h1
    obtain ⟨a', c', h2, _, _, h3, _⟩ := h1.slice
    have := h3 rfl
    subst this
    exact ResOK.same (v' := .int .i64 c') hr (.gr rfl) (key _ _ _ h2)
  · trivial
theorem wrap_nat {n : Int} (h0 : 0 ≤ n) (h : n < 1048576) : IntKind.i64.wrap n = n := IntWalk.i64_in _ (by omega)
theorem ok_makeSlice {t el : TypeId} {l c : Operand} {i : TypeInfo} {z : List Value} (ho : o.op = .makeSlice t l c) (ht : P.underlying t = some (.slice el)) (hi : P.info? el = some i) (hz : zeroCellsT P el = some z) :
    OpOK P o (.makeSlice el i.size i.bytes z l c) := by
  intro g h B w0 w e e' hr he
  obtain ⟨hg, i', v, hi', hv, hvz, hzl⟩ := zeroCellsT_some hz
  rw [hi] at hi'; cases hi'
  simp only [xop]
  split
  · rename_i m k hl hc
    split
    · rename_i hb
      obtain ⟨h0, hlc, hc1, hb1, hs0⟩ := hb
      have h1 := he l; rw [hl] at h1; have h1 := h1.int
      have h2 := he c; rw [hc] at h2; have h2 := h2.int
      have h4 := alloc_sound hr (VRL.of_ground (g := g) (repeatL_ground hg k.toNat)) el 0 (0, 0) [] (by simp) (by simp)
      refine ⟨_, .slice (some ⟨w.heap.size, 0, none⟩) m.toNat k.toNat, _, _, ?_, .inl rfl, Le.push _ _, h4, .sl rfl (AR_new hr)⟩
      have hk : ((k.toNat : Nat) : Int) = k := by omega
      have hbig : ¬ (281474976710656 < (i.bytes : Int) * k) := by
        have := small_mul (n := i.bytes) (b := k.toNat) hb1 (by omega)
        rw [hk] at this; exact this
      have hneg : ¬ (k < 0) := by omega
      have hneg2 : ¬ (m < 0) := by omega
      have hneg3 : ¬ (k < m) := by omega
      have hzs : v.cells.size = i.size := by rw [← hzl, ← hvz]; simp
      have hw1 := wrap_nat h0 (by omega : m < 1048576)
      have hw2 := wrap_nat (by omega : 0 ≤ k) hc1
      have hs := run_size (show sizeT P el = some i.size by simp [sizeT, hi])
      have hrow : (Array.range (k.toNat * i.size)).map (fun x => v.cells[x % v.cells.size]!) = (⟨repeatL z k.toNat⟩ : Array Value) := by
        have := range_zero v.cells k.toNat
        rw [hzs, hvz] at this
        rw [hzs]; exact this
      by_cases hn0 : k.toNat * i.size = 0
      · have e1 : (⟨repeatL z k.toNat⟩ : Array Value) = #[] := by
          apply Array.ext'
          have : (repeatL z k.toNat).length = 0 := by rw [repeatL_length, hzl]; exact hn0
          simp [List.length_eq_zero_iff.1 this]
        have e2 : repeatL z k.toNat = [] := congrArg Array.toList e1
        simp [execOp, ho, Instr.makeSlice, run_under ht, h1, h2, asInt, asIntOf, run_info hi, hw1, hw2, hbig, hneg, hneg2, hneg3, hs, hn0, newRow, e2]
        have e3 : (Array.map (fun (_ : Nat) => (default : Value)) (Array.range 0)) = #[] := by apply Array.ext'; simp
        rw [e3]
      · simp [execOp, ho, Instr.makeSlice, run_under ht, h1, h2, asInt, asIntOf, run_info hi, hw1, hw2, hbig, hneg, hneg2, hneg3, hs, hn0, newRow, run_zero hv, hrow]
    · trivial
  · trivial
theorem ok_panic {x : Operand} (ho : o.op = .panic x) : OpOK P o (.panic x) := by
  intro g h B w0 w e e' hr he
  simp only [xop]
  split
  · rename_i t v hx
    have h1 := he x; rw [hx] at h1
    obtain ⟨v', h1, hv⟩ := h1.iface_inv
    exact ⟨g, .iface t v', w, by simp [execOp, ho, h1, Instr.panic], Le.refl _, hr, .iface hv⟩
  · trivial
theorem ok_mkMap {t : TypeId} (ho : o.op = .makeMap t none) : OpOK P o .mkMap := by
  intro g h B w0 w e e' hr he
  have h4 := hr.push (o := .map [] 0) (o' := .map ⟨[]⟩ 0) (es := 0) (tot := 0) ⟨[], by simp, .nil, rfl⟩
  refine ⟨_, .map (some w.heap.size), _, _, ?_, .inl rfl, Le.push _ _, h4, .map ⟨by simp [hr.len], fun y hy => by simp [← hr.len] at hy; subst hy; rfl⟩⟩
  simp [execOp, ho, Instr.makeMap]
end
end Go.Vm

/- A small machine over an abstract heap: its operations answer as the model's do (8): maps, iterators, ==. -/
set_option linter.unusedSimpArgs false
namespace Go.Vm
open Go.RowKit
section
variable {P : Program} {o : Oper} {op : AOp}
theorem kindT_cases {t : TypeId} {kd : TypeDesc} (h : kindT P t = some kd) : P.underlying t = some kd ∧ ((∃ k, kd = .int k) ∨ kd = .string ∨ kd = .bool) := by
  unfold kindT at h
  split at h
  · rename_i k hk; cases h; exact ⟨hk, .inl ⟨k, rfl⟩⟩
  · rename_i hk; cases h; exact ⟨hk, .inr (.inl rfl)⟩
  · rename_i hk; cases h; exact ⟨hk, .inr (.inr rfl)⟩
  · cases h
theorem checkKey_run {t : TypeId} {kd : TypeDesc} (h : kindT P t = some kd) (b : Bool) (v : Value) (w : World) : (Instr.checkKey b 10000 t v).run P w = .ok () w := by
  obtain ⟨h1, h2⟩ := kindT_cases h
  rw [show (10000 : Nat) = 9999 + 1 from rfl]
  unfold Instr.checkKey
  simp only [Sem.run_bind, run_under h1, Result.andThen_ok]
  rcases h2 with ⟨k, rfl⟩ | rfl | rfl <;> cases v <;> rfl
theorem sameNow_ground {kd : TypeDesc} {a b : Value} {r : Bool} (h : Instr.sameNow kd a b = some r) : ground a = true ∧ ground b = true := by
  unfold Instr.sameNow at h
  split at h <;> first | exact ⟨rfl, rfl⟩ | cases h
theorem findNow_vr {g : Gh} {kd : TypeDesc} {k k' : Value} (hk : VR g k k') : ∀ {es es' : List MapEntry} {i : Nat} {r : Option (Nat × Value)}, ERL g es es' → Instr.findNow kd k es i = some r →
    ∃ r', Instr.findNow kd k' es' i = some r' ∧ (match r, r' with
      | none, none => True
      | some (j, v), some (j', v') => j' = j ∧ VR g v v'
      | _, _ => False)
  | [], _, i, r, .nil, h => by simp [Instr.findNow] at h ⊢; subst h; trivial
  | e :: es, _, i, r, .cons he hes, h => by
    rename_i e' es'
    simp only [Instr.findNow] at h
    cases hs : Instr.sameNow kd k e.key with
    | none => rw [hs] at h; cases h
    | some b =>
      obtain ⟨h1, h2⟩ := sameNow_ground hs
      have e1 := hk.eq_ground h1
      have e2 := he.1.eq_ground h2
      simp only [Instr.findNow, e1, e2, hs]
      rw [hs] at h
      cases b with
      | true => simp only at h; cases h; exact ⟨_, rfl, rfl, he.2.1⟩
      | false =>
        simp only at h ⊢
        have := findNow_vr (kd := kd) hk hes h
        rw [e1] at this
        exact this
theorem findKey_run {t : TypeId} {kd : TypeDesc} (h : kindT P t = some kd) {k : Value} {es : List MapEntry} {r : Option (Nat × Value)} (hf : Instr.findNow kd k es 0 = some r) (w : World) : (Instr.findKey t k es).run P w = .ok r w := by
  obtain ⟨h1, _⟩ := kindT_cases h
  simp only [Instr.findKey, Sem.run_bind, run_under h1, Result.andThen_ok, hf, Sem.run_pure]
theorem kindM_cases {t : TypeId} {kd : TypeDesc} (h : kindM P t = some kd) : (∃ fs, P.underlying t = some (.struct fs) ∧ kd = .slice t) ∨ (kindT P t = some kd ∧ ∀ e, kd ≠ .slice e) := by
  unfold kindM at h
  split at h
  · rename_i fs hk; cases h; exact .inl ⟨fs, hk, rfl⟩
  · refine .inr ⟨h, fun e q => ?_⟩
    obtain ⟨_, ⟨k, hk⟩ | hk | hk⟩ := kindT_cases h <;> rw [hk] at q <;> cases q
theorem findM_now {kd : TypeDesc} (h : ∀ e, kd ≠ .slice e) (k : Value) (es : List MapEntry) : findM P kd k es = Instr.findNow kd k es 0 := by
  unfold findM
  split
  · rename_i kt; exact absurd rfl (h kt)
  · rfl
theorem prBind {α β : Type} (s : Sem α) (k : α → Sem β) : pr P (s >>= k) = match pr P s with
    | some (.ok a) => pr P (k a)
    | some (.error v) => some (.error v)
    | none => none := by
  induction s with
  | pure a => rfl
  | program f ih => exact ih P
  | halt x => cases x <;> rfl
  | _ => rfl
theorem findKey_nil {t : TypeId} {d : TypeDesc} (ht : P.underlying t = some d) {k : Value} (w : World) : (Instr.findKey t k []).run P w = .ok none w := by
  simp only [Instr.findKey, Sem.run_bind, run_under ht, Result.andThen_ok, Instr.findNow, Sem.run_pure]
theorem kindM_under {t : TypeId} {kd : TypeDesc} (h : kindM P t = some kd) : ∃ d, P.underlying t = some d := by
  rcases kindM_cases h with ⟨fs, ht, _⟩ | ⟨h1, _⟩
  · exact ⟨_, ht⟩
  · exact ⟨_, (kindT_cases h1).1⟩
theorem sameNow_struct (fs : Array Field) (a b : Value) : Instr.sameNow (.struct fs) a b = none := by cases a <;> cases b <;> rfl
theorem findAsking_vr {g : Gh} {t : TypeId} {k : Value} (w : World) : ∀ {es es' : List MapEntry} {i : Nat} {r : Option (Nat × Value)}, ERL g es es' → es.all (fun e => ground e.key) = true → pr P (Instr.findAsking t k es i) = some (.ok r) →
    ∃ r', (Instr.findAsking t k es' i).run P w = .ok r' w ∧ (match r, r' with
      | none, none => True
      | some (j, v), some (j', v') => j' = j ∧ VR g v v'
      | _, _ => False)
  | [], _, i, r, .nil, _, h => by
    have h : some (Except.ok none) = some (.ok r) := h
    cases h
    exact ⟨none, rfl, trivial⟩
  | e :: es, _, i, r, .cons he hes, hg, h => by
    rename_i e' es'
    rw [List.all_cons, Bool.and_eq_true] at hg
    have e2 := he.1.eq_ground hg.1
    have h : pr P (Op.equal t k e.key >>= fun b => if b then pure (some (i, e.val)) else Instr.findAsking t k es (i + 1)) = some (.ok r) := h
    show ∃ r', (Op.equal t k e'.key >>= fun b => if b then pure (some (i, e'.val)) else Instr.findAsking t k es' (i + 1)).run P w = .ok r' w ∧ _
    rw [e2]
    rw [prBind] at h
    cases hb : pr P (Op.equal t k e.key) with
    | none => rw [hb] at h; cases h
    | some x =>
      cases x with
      | error v => rw [hb] at h; cases h
      | ok b =>
        rw [hb] at h
        have h1 := (pr_sound P (Op.equal t k e.key) w).1 b hb
        simp only [Sem.run_bind, h1, Result.andThen_ok]
        cases b with
        | true =>
          have h : some (Except.ok (some (i, e.val))) = some (.ok r) := h
          cases h
          exact ⟨some (i, e'.val), rfl, rfl, he.2.1⟩
        | false =>
          exact findAsking_vr w hes hg.2 h
theorem findM_run {g : Gh} {t : TypeId} {kd : TypeDesc} (h : kindM P t = some kd) {k k' : Value} (hk : VR g k k') {es es' : List MapEntry} (he : ERL g es es') {r : Option (Nat × Value)} (w : World) : findM P kd k es = some r →
    (∀ b, (Instr.checkKey b 10000 t k').run P w = .ok () w) ∧ ∃ r', (Instr.findKey t k' es').run P w = .ok r' w ∧ (match r, r' with
      | none, none => True
      | some (j, v), some (j', v') => j' = j ∧ VR g v v'
      | _, _ => False) := by
  intro hf
  rcases kindM_cases h with ⟨fs, ht, rfl⟩ | ⟨h1, h2⟩
  · simp only [findM] at hf
    split at hf
    · rename_i hg
      rw [Bool.and_eq_true] at hg
      have ek := hk.eq_ground hg.1
      split at hf
      · rename_i r0 hc1 hc2 hfa
        cases hf
        rw [ek]
        refine ⟨fun b => ?_, ?_⟩
        · cases b with
          | true => exact (pr_sound P _ w).1 () hc1
          | false => exact (pr_sound P _ w).1 () hc2
        · obtain ⟨r', h3, h4⟩ := findAsking_vr w he hg.2 hfa
          refine ⟨r', ?_, h4⟩
          cases he with
          | nil =>
            simp only [Instr.findKey, Sem.run_bind, run_under ht, Result.andThen_ok, Instr.findNow]
            exact h3
          | cons _ _ =>
            have : ∀ (e : MapEntry) (es : List MapEntry), Instr.findNow (.struct fs) k (e :: es) 0 = none := fun e es => by
              simp only [Instr.findNow]
              rw [sameNow_struct]
            simp only [Instr.findKey, Sem.run_bind, run_under ht, Result.andThen_ok, this]
            exact h3
      · cases hf
    · cases hf
  · rw [findM_now h2] at hf
    obtain ⟨r', hf', hr⟩ := findNow_vr hk he hf
    exact ⟨fun b => checkKey_run h1 b k' w, r', findKey_run h1 hf' w, hr⟩
theorem ok_lookup {t kt el : TypeId} {m k : Operand} {ok : Bool} {kd : TypeDesc} {z : Value} (ho : o.op = .lookup t m k ok) (ht : P.underlying t = some (.map kt el)) (hk : kindM P kt = some kd) (hz : zeroT P el = some z) :
    OpOK P o (.lookup kd z ok m k) := by
  intro g h B w0 w e e' hr he
  have hzg := (zeroT_some hz).1
  have hvz : ∀ g, VR g (if ok = true then Value.tuple #[z, .bool false] else z) (if ok = true then Value.tuple #[z, .bool false] else z) := fun g => by
    cases ok
    · exact .gr hzg
    · exact .gr (by simp [ground, groundA, groundL, hzg])
  simp only [xop]
  split
  · rename_i hm
    rcases mapAt_cases hr hm (he m) with ⟨_, h1⟩ | ⟨r, r', es, es', clock, y, h1, _⟩
    · split
      · rename_i r0 hf0
        refine ResOK.same hr (hvz g) ?_
        obtain ⟨hck, r1, hf, hrr⟩ := findM_run (P := P) hk (he k) (.nil : ERL g [] []) w hf0
        have hf1 : (Instr.findKey kt (e' k) []).run P w = .ok none w := by
          obtain ⟨d, hd⟩ := kindM_under hk
          exact findKey_nil hd w
        simp only [execOp, ho, Instr.lookup, Sem.run_bind, run_under ht, Result.andThen_ok, h1, Sem.run_pure, hck, hf1, run_zero hz]
        try rfl
      · trivial
    · cases h1
  · rename_i r0 es0 cl0 hm
    rcases mapAt_cases hr hm (he m) with ⟨h1, _⟩ | ⟨r, r', es, es', clock, y, h1, h2, h3, h4, h5, h6, h7, _⟩
    · cases h1
    · cases h1
      split
      · rename_i j v hf
        obtain ⟨hck, r1, hf', hrr⟩ := findM_run (P := P) hk (he k) h7 w hf
        cases r1 with
        | none => simp at hrr
        | some p =>
          obtain ⟨j', v'⟩ := p
          simp only at hrr
          refine ResOK.same (v' := if ok = true then Value.tuple #[v', .bool true] else v') hr ?_ ?_
          · cases ok
            · exact hrr.2
            · exact .tuple (.cons hrr.2 (.cons (.gr rfl) .nil))
          · simp only [execOp, ho, Instr.lookup, Sem.run_bind, run_under ht, Result.andThen_ok, h2, run_getObj_map h6, Sem.run_pure, hck, hf']
      · rename_i hf
        obtain ⟨hck, r1, hf', hrr⟩ := findM_run (P := P) hk (he k) h7 w hf
        cases r1 with
        | some p => simp at hrr
        | none =>
          refine ResOK.same hr (hvz g) ?_
          simp only [execOp, ho, Instr.lookup, Sem.run_bind, run_under ht, Result.andThen_ok, h2, run_getObj_map h6, Sem.run_pure, hck, hf', run_zero hz]
      · trivial
  · trivial
theorem ERL.append {g : Gh} : ∀ {a a' b b' : List MapEntry}, ERL g a a' → ERL g b b' → ERL g (a ++ b) (a' ++ b')
  | _, _, _, _, .nil, h => h
  | _, _, _, _, .cons h1 h2, h => .cons h1 (ERL.append h2 h)
theorem ERL.modify {g : Gh} {f f' : MapEntry → MapEntry} (hf : ∀ a a', ER g a a' → ER g (f a) (f' a')) : ∀ {a a' : List MapEntry} (i : Nat), ERL g a a' → ERL g (a.modify i f) (a'.modify i f')
  | _, _, i, .nil => by simp; exact .nil
  | _, _, 0, .cons h1 h2 => by simp; exact .cons (hf _ _ h1) h2
  | _, _, i + 1, .cons h1 h2 => by simp; exact .cons h1 (ERL.modify hf i h2)
theorem ERL.eraseIdx {g : Gh} : ∀ {a a' : List MapEntry} (i : Nat), ERL g a a' → ERL g (a.eraseIdx i) (a'.eraseIdx i)
  | _, _, i, .nil => by simp; exact .nil
  | _, _, 0, .cons _ h2 => by simpa using h2
  | _, _, i + 1, .cons h1 h2 => by simp; exact .cons h1 (ERL.eraseIdx i h2)
theorem findNow_get {kd : TypeDesc} {k v : Value} : ∀ {es : List MapEntry} {i j : Nat}, Instr.findNow kd k es i = some (some (j, v)) → i ≤ j ∧ ∃ en, es[j - i]? = some en ∧ Instr.sameNow kd k en.key = some true
  | [], i, j, h => by simp [Instr.findNow] at h
  | e :: es, i, j, h => by
    simp only [Instr.findNow] at h
    cases hs : Instr.sameNow kd k e.key with
    | none => rw [hs] at h; cases h
    | some b =>
      rw [hs] at h
      cases b with
      | true => simp only at h; cases h; exact ⟨Nat.le_refl _, e, by simp, hs⟩
      | false =>
        simp only at h
        obtain ⟨h1, en, h2, h3⟩ := findNow_get h
        refine ⟨by omega, en, ?_, h3⟩
        rw [show j - i = (j - (i + 1)) + 1 from by omega]
        simpa using h2
theorem bytes_beq {a b : ByteArray} (h : (a == b) = true) : a = b := by
  have h1 : (a.data == b.data) = true := h
  cases a; cases b
  simp only at h1
  rw [eq_of_beq h1]
theorem bytes_beq_self (a : ByteArray) : (a == a) = true := by
  show (a.data == a.data) = true
  exact beq_self_eq_true _
theorem sameBits_of_now {kd : TypeDesc} {a b : Value} (h : Instr.sameNow kd a b = some true) : Instr.sameBits 10000 b a = true := by
  unfold Instr.sameNow at h
  split at h
  · split at h
    · rename_i hk; subst hk; simp at h; subst h; simp [Instr.sameBits]
    · cases h
  · simp only [Option.some.injEq] at h
    obtain rfl := bytes_beq h
    simp only [Instr.sameBits, bytes_beq_self]
  · simp at h; subst h; simp [Instr.sameBits]
  · cases h
theorem keyStays_run {kd : TypeDesc} {a b : Value} (h : Instr.sameNow kd a b = some true) (w : World) : (Instr.keyThatStays b a).run P w = .ok a w := by
  simp only [Instr.keyThatStays, sameBits_of_now h, if_true, Sem.run_pure]
theorem ok_mapUpdate {t kt el : TypeId} {m k x : Operand} {kd : TypeDesc} (ho : o.op = .mapUpdate t m k x ∨ o.op = .insert t m k x) (ht : P.underlying t = some (.map kt el)) (hk : kindM P kt = some kd) : OpOK P o (.mapUpdate kd m k x) := by
  intro g h B w0 w e e' hr he
  have hexec : ∀ w', (Instr.mapUpdate t (e' m) (e' k) (e' x)).run P w = .ok () w' → (execOp e' o).run P w = .ok .skip w' := fun w' hw' => by
    rcases ho with ho | ho <;> simp only [execOp, ho, Sem.run_bind, hw', Result.andThen_ok, Sem.run_pure]
  simp only [xop]
  split
  · rename_i r0 es0 cl0 hm
    rcases mapAt_cases hr hm (he m) with ⟨h1, _⟩ | ⟨r, r', es, es', clock, y, h1, h2, h3, h4, h5, h6, h7, h8⟩
    · cases h1
    · cases h1
      subst h5
      split
      · rename_i j v hf
        split
        · trivial
        rename_i hsl
        rcases kindM_cases hk with ⟨fs, _, hq⟩ | ⟨hk, _⟩
        · exact absurd hq (hsl _)
        rw [findM_now hsl] at hf
        obtain ⟨r1, hf', hrr⟩ := findNow_vr (he k) h7 hf
        cases r1 with
        | none => simp at hrr
        | some p =>
          obtain ⟨j', v'⟩ := p
          simp only at hrr
          obtain ⟨rfl, _⟩ := hrr
          obtain ⟨_, en, hen, hsn⟩ := findNow_get hf'
          simp only [Nat.sub_zero] at hen
          have hfk := findKey_run (P := P) hk hf' w
          have hks := keyStays_run (P := P) hsn w
          have hset := run_setObj (P := P) (o' := .map ((⟨es'⟩ : Array MapEntry).modify j' fun en => { en with key := e' k, val := e' x }) cl0) h6 (by simp)
          have hrun : (Instr.mapUpdate t (e' m) (e' k) (e' x)).run P w = .ok () (withBlock w y.b (.map ((⟨es'⟩ : Array MapEntry).modify j' fun en => { en with key := e' k, val := e' x }) cl0)) := by
            have hget : ((((⟨es'⟩ : Array MapEntry)[j']?).map (·.key)).getD (e' k)) = en.key := by simp [hen]
            simp only [Instr.mapUpdate, Sem.run_bind, run_under ht, Result.andThen_ok, h2, run_getObj_map h6, checkKey_run hk, hfk, hget, hks, hset]
          refine ⟨g, undef, _, .skip, hexec _ hrun, .inr ⟨rfl, rfl⟩, Le.refl _, ?_, .gr rfl⟩
          refine hr.set h4 (by rw [h3]; rfl) rfl rfl rfl rfl ⟨es'.modify j' fun en => { en with key := e' k, val := e' x }, ?_, ERL.modify (f := fun en => { en with key := e k, val := e x }) (f' := fun en => { en with key := e' k, val := e' x }) (fun a a' ha => ⟨he k, he x, ha.2.2⟩) _ h7, h8⟩
          rw [heap_withBlock h6]
          congr 2
          apply Array.ext'; simp
      · rename_i hf
        obtain ⟨hck, r1, hfk, hrr⟩ := findM_run (P := P) hk (he k) h7 w hf
        cases r1 with
        | some p => simp at hrr
        | none =>
          have hset := run_setObj (P := P) (o' := .map ((⟨es'⟩ : Array MapEntry).push { key := e' k, val := e' x, born := cl0 }) (cl0 + 1)) h6 (by simp)
          have hrun : (Instr.mapUpdate t (e' m) (e' k) (e' x)).run P w = .ok () (withBlock w y.b (.map ((⟨es'⟩ : Array MapEntry).push { key := e' k, val := e' x, born := cl0 }) (cl0 + 1))) := by
            simp only [Instr.mapUpdate, Sem.run_bind, run_under ht, Result.andThen_ok, h2, run_getObj_map h6, hck, hfk, hset]
          refine ⟨g, undef, _, .skip, hexec _ hrun, .inr ⟨rfl, rfl⟩, Le.refl _, ?_, .gr rfl⟩
          refine hr.set h4 (by rw [h3]; rfl) rfl rfl rfl rfl ⟨es' ++ [{ key := e' k, val := e' x, born := cl0 }], ?_, h7.append (.cons ⟨he k, he x, rfl⟩ .nil), h8⟩
          rw [heap_withBlock h6]
          congr 2
          apply Array.ext'; simp
      · trivial
  · trivial
theorem ok_delete {c : Call} {t kt el : TypeId} {ats : List TypeId} {m k : Operand} {kd : TypeDesc} (ho : o.op = .call c) (hc : c.callee = .builtin .delete) (ha : c.args.toList = [m, k]) (hat : c.argTypes.toList = t :: ats)
    (ht : P.underlying t = some (.map kt el)) (hk : kindT P kt = some kd) : OpOK P o (.delete kd m k) := by
  intro g h B w0 w e e' hr he
  have hexec : ∀ w', (Builtin.delete_ c.argTypes o.type #[e' m, e' k]).run P w = .ok (.tuple #[]) w' → (execOp e' o).run P w = .ok (.value undef) w' := fun w' hw' =>
    call_run ho hc fun cs => by
      rw [arr2 ha]
      simp only [List.map_toArray, List.map_cons, List.map_nil, builtin, Sem.run_bind, hw', Result.andThen_ok, Sem.run_pure]
      rfl
  have hat0 := first_type hat
  simp only [xop]
  split
  · rename_i hm
    rcases mapAt_cases hr hm (he m) with ⟨_, h1⟩ | ⟨r, r', es, es', clock, y, h1, _⟩
    · refine ResOK.same (v' := undef) hr (.gr rfl) (hexec w ?_)
      simp [Builtin.delete_, hat0, run_under ht, h1, checkKey_run hk]
    · cases h1
  · rename_i r0 es0 cl0 hm
    rcases mapAt_cases hr hm (he m) with ⟨h1, _⟩ | ⟨r, r', es, es', clock, y, h1, h2, h3, h4, h5, h6, h7, h8⟩
    · cases h1
    · cases h1
      subst h5
      split
      · rename_i j v hf
        obtain ⟨r1, hf', hrr⟩ := findNow_vr (he k) h7 hf
        cases r1 with
        | none => simp at hrr
        | some p =>
          obtain ⟨j', v'⟩ := p
          simp only at hrr
          obtain ⟨rfl, _⟩ := hrr
          have hfk := findKey_run (P := P) hk hf' w
          have hset := run_setObj (P := P) (o' := .map ((⟨es'⟩ : Array MapEntry).eraseIdxIfInBounds j') cl0) h6 (by simp)
          refine ⟨g, undef, _, _, hexec (withBlock w y.b (.map ((⟨es'⟩ : Array MapEntry).eraseIdxIfInBounds j') cl0)) ?_, .inl rfl, Le.refl _, ?_, .gr rfl⟩
          · have hset' := hset
            simp only [List.eraseIdxIfInBounds_toArray] at hset'
            simp [Builtin.delete_, hat0, run_under ht, h2, run_getObj_map h6, checkKey_run hk, hfk, hset']
          refine hr.set h4 (by rw [h3]; rfl) rfl rfl rfl rfl ⟨es'.eraseIdx j', ?_, ERL.eraseIdx _ h7, h8⟩
          rw [heap_withBlock h6]
          congr 2
          apply Array.ext'; simp
      · rename_i hf
        obtain ⟨r1, hf', hrr⟩ := findNow_vr (he k) h7 hf
        cases r1 with
        | some p => simp at hrr
        | none =>
          have hfk := findKey_run (P := P) hk hf' w
          have hset := run_setObj (P := P) (o' := .map ⟨es'⟩ cl0) h6 (by simp)
          rw [withBlock_self h6] at hset
          refine ResOK.same (v' := undef) hr (.gr rfl) (hexec w ?_)
          simp [Builtin.delete_, hat0, run_under ht, h2, run_getObj_map h6, checkKey_run hk, hfk, hset]
      · trivial
  · trivial
end
end Go.Vm

/- A small machine over an abstract heap: its operations answer as the model's do (9): iterators, ==, all of them. -/
set_option linter.unusedSimpArgs false
namespace Go.Vm
open Go.RowKit
section
variable {P : Program} {o : Oper} {op : AOp}
theorem ok_rangeStr {t : TypeId} {x : Operand} (ho : o.op = .range t x) (ht : P.underlying t = some .string) : OpOK P o (.rangeStr x) := by
  intro g h B w0 w e e' hr he
  simp only [xop]
  split
  · rename_i s hx
    have h1 := he x; rw [hx] at h1; have h1 := h1.string
    have h4 := hr.push (o := .strIter s 0) (o' := .stringIter s 0) (es := 0) (tot := 0) ⟨by simp, rfl⟩
    refine ⟨_, .pointer (some ⟨w.heap.size, 0, none⟩), _, _, ?_, .inl rfl, Le.push _ _, h4, .ptr (AR_new hr)⟩
    simp [execOp, ho, Instr.range, run_under ht, h1]
  · trivial
theorem ok_rangeMap {t kt el : TypeId} {x : Operand} (ho : o.op = .range t x) (ht : P.underlying t = some (.map kt el)) : OpOK P o (.rangeMap x) := by
  intro g h B w0 w e e' hr he
  simp only [xop]
  split
  · rename_i hm
    rcases mapAt_cases hr hm (he x) with ⟨_, h1⟩ | ⟨r, r', es, es', clock, y, h1, _⟩
    · have h4 := hr.push (o := .mapIter none 0 [] 0) (o' := .mapIter none 0 #[] 0) (es := 0) (tot := 0) ⟨none, by simp, trivial, rfl⟩
      refine ⟨_, .pointer (some ⟨w.heap.size, 0, none⟩), _, _, ?_, .inl rfl, Le.push _ _, h4, .ptr (AR_new hr)⟩
      simp [execOp, ho, Instr.range, run_under ht, h1]
    · cases h1
  · rename_i r0 es0 cl0 hm
    rcases mapAt_cases hr hm (he x) with ⟨h1, _⟩ | ⟨r, r', es, es', clock, y, h1, h2, h3, h4, h5, h6, h7, h8⟩
    · cases h1
    · cases h1
      have hlt := (List.getElem?_eq_some_iff.1 h4).1
      have hn := hr.push (o := .mapIter (some r0) cl0 [] cl0) (o' := .mapIter (some r') cl0 #[] cl0) (es := 0) (tot := 0) ⟨some r', by simp, by
        refine ⟨by simp; omega, fun z hz => ?_⟩
        rw [List.getElem?_append_left hlt, h4] at hz
        cases hz; exact h5.symm, rfl⟩
      refine ⟨_, .pointer (some ⟨w.heap.size, 0, none⟩), _, _, ?_, .inl rfl, Le.push _ _, hn, .ptr (AR_new hr)⟩
      simp [execOp, ho, Instr.range, run_under ht, h2, run_getObj_map h6]
  · trivial
theorem HR.of_obj {g : Gh} {h : Heap} {B : Nat} {w0 w : World} (hr : HR g h B w0 w) {r : Nat} {ob : AObj} (hg : h.get r = ob) (hd : ob ≠ .dead) : ∃ x, g[r]? = some (some x) ∧ OR g w x ob := by
  by_cases hx : ∃ x, g[r]? = some (some x)
  · obtain ⟨x, hx⟩ := hx
    have := (hr.alive r x hx).2.2
    rw [hg] at this
    exact ⟨x, hx, this⟩
  · have := hr.dead r fun x hx' => hx ⟨x, hx'⟩
    rw [hg] at this; exact absurd this hd
theorem ok_nextStr {it : Operand} (ho : o.op = .next it true) : OpOK P o (.nextStr it) := by
  intro g h B w0 w e e' hr he
  simp only [xop]
  split
  · rename_i r hx
    have h1 := he it; rw [hx] at h1
    obtain ⟨a', h1, har⟩ := h1.pointer
    split
    · rename_i s pos hg
      obtain ⟨x, hgx, hob, hsh⟩ := hr.of_obj hg (by simp)
      have ha' := har.2 x hgx
      simp only [hsh, Nat.add_zero] at ha'
      subst ha'
      have hget : (getObj x.b).run P w = .ok (.stringIter s pos) w := by simp [getObj, Sem.run, hob]
      split
      · rename_i hpos
        have hset := run_setObj (P := P) (o' := .stringIter s (pos + (Utf8.decode s pos).2)) hob (by simp)
        refine ⟨g, .tuple #[.bool true, .int .i64 pos, .int .i32 (Utf8.decode s pos).1], withBlock w x.b (.stringIter s (pos + (Utf8.decode s pos).2)), _, ?_, .inl rfl, Le.refl _, hr.set hgx (by rw [hg]; rfl) rfl rfl rfl rfl ⟨heap_withBlock hob, hsh⟩, .gr (by simp [ground, groundA, groundL])⟩
        simp [execOp, ho, Instr.next, h1, hget, hpos, hset, goInt]
      · rename_i hpos
        refine ResOK.same (v' := .tuple #[.bool false]) hr (.gr (by simp [ground, groundA, groundL])) ?_
        simp [execOp, ho, Instr.next, h1, hget, hpos]
    · trivial
  · trivial
theorem ERL.find {g : Gh} (stamp : Nat) : ∀ {l l' : List MapEntry}, ERL g l l' → ∀ {e : MapEntry}, l.find? (fun en => en.born == stamp) = some e → ∃ e', l'.find? (fun en => en.born == stamp) = some e' ∧ ER g e e'
  | _, _, .nil, e, h => by simp at h
  | a :: l, a' :: l', .cons ha ht, e, h => by
    rw [List.find?_cons] at h ⊢
    rw [ha.2.2]
    cases hb : (a.born == stamp) with
    | true => rw [hb] at h; cases h; exact ⟨a', rfl, ha⟩
    | false => rw [hb] at h; exact ERL.find stamp ht h
theorem ok_entryMap {it : Operand} (ho : o.op = .entry it) : OpOK P o (.entryMap it) := by
  intro g h B w0 w e e' hr he
  simp only [xop]
  split
  · rename_i r hx
    have h1 := he it; rw [hx] at h1
    obtain ⟨a', h1, har⟩ := h1.pointer
    split
    · rename_i m since seen stepped hg
      split
      · rename_i stamp es clock hsl hgm
        split
        · rename_i hcl
          split
          · rename_i en hen
            obtain ⟨x, hgx, m', hob, hmr, hsh⟩ := hr.of_obj hg (by simp)
            have ha' := har.2 x hgx
            simp only [hsh, Nat.add_zero] at ha'
            subst ha'
            cases m' with
            | none => simp [MR] at hmr
            | some m' =>
              have hbr : BR g m m' := hmr
              obtain ⟨y, es', hy, hyb, hmo, her, _⟩ := hr.of_map hgm hbr
              obtain ⟨en', hen', hee⟩ := her.find stamp hen
              have hget : (getObj x.b).run P w = .ok (.mapIter (some m') since ⟨seen⟩ stepped) w := by simp [getObj, Sem.run, hob]
              have hgetm : (getObj m').run P w = .ok (.map ⟨es'⟩ clock) w := run_getObj_map hmo
              refine ResOK.same (v' := .tuple #[en'.key, en'.val]) hr (.tuple (.cons hee.1 (.cons hee.2.1 .nil))) ?_
              have hback : (⟨seen⟩ : Array Nat).back? = some stamp := by simp [Array.back?, hsl, ← List.getLast?_eq_getElem?]
              have hfind : (⟨es'⟩ : Array MapEntry).find? (fun e => e.born == stamp) = some en' := by simpa using hen'
              simp only [execOp, ho, Instr.entry, h1, Sem.run_bind, hget, Result.andThen_ok, hback, hgetm, hfind]
              simp [hcl]
          · trivial
        · trivial
      · trivial
    · trivial
  · trivial
theorem frozen_alive {g : Gh} {w : World} {x : GB} {c : List Value} {es : Nat} (hc : CellsR g w x c es) {off : Nat} (ho : off < c.length) : w.frozen? ⟨x.b, x.sh + off, none⟩ = false := by
  obtain ⟨c', el, fz, h1, h2, h3, h4, h5, h7, h6⟩ := hc
  simp only [World.frozen?, h1]
  exact h5 _ (by omega)
theorem sameAddr_run {g : Gh} {h : Heap} {B : Nat} {w0 w : World} (hr : HR g h B w0 w) {a b a' b' : Addr} (ha : alive h a = true) (hb : alive h b = true) (har : AR g a a') (hbr : AR g b b') :
    (sameAddr a' b').run P w = .ok (a.block == b.block && a.off == b.off) w := by
  have key : ∀ {a a' : Addr}, alive h a = true → AR g a a' → ∃ x c es, g[a.block]? = some (some x) ∧ CellsR g w x c es ∧ a.off < c.length ∧ es ≠ 1 ∧ (h.get a.block).isRo = false ∧ a' = ⟨x.b, x.sh + a.off, none⟩ := by
    intro a a' ha har
    unfold alive at ha
    split at ha
    · rename_i c es hg
      obtain ⟨x, hx, hcr⟩ := hr.of_cells hg
      simp only [Bool.and_eq_true, decide_eq_true_eq, bne_iff_ne, ne_eq] at ha
      exact ⟨x, c, es, hx, hcr, ha.1, ha.2, by rw [hg]; rfl, har.2 x hx⟩
    · cases ha
  obtain ⟨x, c, es, hx, hcx, hlx, hex, hxo1, rfl⟩ := key ha har
  obtain ⟨y, d, fs, hy, hdy, hly, hey, hyo1, rfl⟩ := key hb hbr
  by_cases hbl : a.block = b.block
  · rw [hbl] at hx
    rw [hx] at hy; cases hy
    have e1 : ((⟨x.b, x.sh + a.off, none⟩ : Addr) == ⟨x.b, x.sh + b.off, none⟩) = (a.off == b.off) := by
      by_cases h0 : a.off = b.off
      · simp [h0]
      · rw [beq_eq_false_iff_ne.2 h0, beq_eq_false_iff_ne]
        intro h1; injection h1; omega
    simp [sameAddr, hbl, e1]
  · have hne : x.b ≠ y.b := fun h1 => hbl (hr.inj _ _ x y (hr.own hx (hxo1)) hx hy h1)
    have hf1 := frozen_alive hcx hlx
    obtain ⟨c', el, fz, h1, h2, h3, h4, h5, h7, h6⟩ := hcx
    obtain ⟨d', el2, fz2, k1, k2, k3, k4, k5, k7, k6⟩ := hdy
    have hz1 := h7 hex
    have hz2 := k7 hey
    subst hz1 hz2
    have hs1 : w.shape? x.b = some (el, c'.size) := by simp [World.shape?, h1]
    have hs2 : w.shape? y.b = some (el2, d'.size) := by simp [World.shape?, k1]
    have hfr : ∀ q s, w.frozen? ⟨x.b, q, s⟩ = false := fun q s => by simp [World.frozen?, h1]
    have hfr2 : ∀ q s, w.frozen? ⟨y.b, q, s⟩ = false := fun q s => by simp [World.frozen?, k1]
    simp [sameAddr, hne, hfr, hfr2, noView, viewAt, hs1, hs2, mayBeOne, stringish, hbl]
def eqTy (P : Program) (t : TypeId) : EqKind → Prop
  | .ptr => ∃ el n, P.underlying t = some (.pointer el) ∧ sizeT P el = some (n + 1)
  | .slice => ∃ el, P.underlying t = some (.slice el)
  | .map => ∃ k el, P.underlying t = some (.map k el)
  | .func => ∃ a b c, P.underlying t = some (.func a b c)
  | .iface => ∃ ms, P.underlying t = some (.interface ms)
theorem eqv_run {g : Gh} {h : Heap} {B : Nat} {w0 w : World} (hr : HR g h B w0 w) {t : TypeId} {kind : EqKind} (ht : eqTy P t kind) {u v u' v' : Value} {b : Bool} (hb : eqv h kind u v = some b) (hu : VR g u u') (hv : VR g v v') (x y : Operand) (bo : BinOp) (hbo : bo = .eql ∨ bo = .neq) :
    (∀ d, (Op.equalIn (d + 1) t u' v').run P w = .ok b w) ∧ (eqGuard bo t x y u' v').run P w = .ok () w ∧ (bo = .eql → binOp bo t u' v' = (do pure (.bool (← Op.equal t u' v')))) ∧ (bo = .neq → binOp bo t u' v' = (do pure (.bool (!(← Op.equal t u' v'))))) := by
  have isl : ∀ {a : Addr} {n c : Nat} {u' : Value}, VR g (.slice (some a) n c) u' → ∃ a' c', u' = .slice (some a') n c' := fun h => by obtain ⟨a', c', h1, _⟩ := h.slice; exact ⟨a', c', h1⟩
  have ifn : ∀ {f : Fn} {p q : Array Value} {u' : Value}, VR g (.func f p q) u' → ∃ f' p' q', u' = .func f' p' q' := fun h => by
    cases h with
    | gr _ => exact ⟨_, _, _, rfl⟩
    | yield _ => exact ⟨_, _, _, rfl⟩
    | func _ _ => exact ⟨_, _, _, rfl⟩
  have gd : ∀ (u' v' : Value), (∀ (p : u' = .nilIface ∧ v' = .nilIface), False) → (∀ a b, u' = .agg a → v' = .agg b → False) → (eqGuard bo t x y u' v').run P w = .ok () w := by
    intro u' v' h1 h2
    rcases hbo with rfl | rfl <;>
      (unfold eqGuard
       simp only [Bool.not_true, Bool.false_eq_true, if_false]
       split
       · exact absurd (h1 ⟨rfl, rfl⟩) id
       · exact absurd (h2 _ _ rfl rfl) id
       · rfl)
  unfold eqv at hb
  split at hb
  · rename_i q
    obtain ⟨el, n, ht, hs⟩ := ht
    cases hb
    have h1 := hu.eq_ground rfl; subst h1
    cases q with
    | none =>
      have h2 := hv.eq_ground rfl; subst h2
      exact ⟨by (intro d; simp only [Op.equalIn, Sem.run_bind, run_under ht, Result.andThen_ok]; rfl), gd _ _ (by simp) (by simp), fun h => by subst h; rfl, fun h => by subst h; rfl⟩
    | some a =>
      obtain ⟨a', h2, _⟩ := hv.pointer; subst h2
      exact ⟨by (intro d; simp only [Op.equalIn, Sem.run_bind, run_under ht, Result.andThen_ok]; rfl), gd _ _ (by simp) (by simp), fun h => by subst h; rfl, fun h => by subst h; rfl⟩
  · obtain ⟨el, n, ht, hs⟩ := ht
    cases hb
    obtain ⟨a', h2, _⟩ := hu.pointer; subst h2
    have h1 := hv.eq_ground rfl; subst h1
    exact ⟨by (intro d; simp only [Op.equalIn, Sem.run_bind, run_under ht, Result.andThen_ok]; rfl), gd _ _ (by simp) (by simp), fun h => by subst h; rfl, fun h => by subst h; rfl⟩
  · rename_i a c
    obtain ⟨el, n, ht, hs⟩ := ht
    split at hb
    · rename_i hal
      simp only [Bool.and_eq_true] at hal
      cases hb
      obtain ⟨a', h1, har⟩ := hu.pointer; subst h1
      obtain ⟨b', h2, hbr⟩ := hv.pointer; subst h2
      have := sameAddr_run (P := P) hr hal.1 hal.2 har hbr
      exact ⟨by (intro d; simp only [Op.equalIn, Sem.run_bind, run_under ht, Result.andThen_ok, run_size hs]; simpa using this), gd _ _ (by simp) (by simp), fun h => by subst h; rfl, fun h => by subst h; rfl⟩
    · cases hb
  · rename_i n c q m d
    obtain ⟨el, ht⟩ := ht
    cases hb
    have h1 := hu.eq_ground rfl; subst h1
    cases q with
    | none =>
      have h2 := hv.eq_ground rfl; subst h2
      exact ⟨by (intro d; simp only [Op.equalIn, Sem.run_bind, run_under ht, Result.andThen_ok]; rfl), gd _ _ (by simp) (by simp), fun h => by subst h; rfl, fun h => by subst h; rfl⟩
    | some a =>
      obtain ⟨a', c', h2⟩ := isl hv; subst h2
      exact ⟨by (intro d; simp only [Op.equalIn, Sem.run_bind, run_under ht, Result.andThen_ok]; rfl), gd _ _ (by simp) (by simp), fun h => by subst h; rfl, fun h => by subst h; rfl⟩
  · obtain ⟨el, ht⟩ := ht
    cases hb
    obtain ⟨a', c', h2⟩ := isl hu; subst h2
    have h1 := hv.eq_ground rfl; subst h1
    exact ⟨by (intro d; simp only [Op.equalIn, Sem.run_bind, run_under ht, Result.andThen_ok]; rfl), gd _ _ (by simp) (by simp), fun h => by subst h; rfl, fun h => by subst h; rfl⟩
  · rename_i q
    obtain ⟨kt, el, ht⟩ := ht
    cases hb
    have h1 := hu.eq_ground rfl; subst h1
    cases q with
    | none =>
      have h2 := hv.eq_ground rfl; subst h2
      exact ⟨by (intro d; simp only [Op.equalIn, Sem.run_bind, run_under ht, Result.andThen_ok]; rfl), gd _ _ (by simp) (by simp), fun h => by subst h; rfl, fun h => by subst h; rfl⟩
    | some a =>
      obtain ⟨a', h2, _⟩ := hv.map_inv; subst h2
      exact ⟨by (intro d; simp only [Op.equalIn, Sem.run_bind, run_under ht, Result.andThen_ok]; rfl), gd _ _ (by simp) (by simp), fun h => by subst h; rfl, fun h => by subst h; rfl⟩
  · obtain ⟨kt, el, ht⟩ := ht
    cases hb
    obtain ⟨a', h2, _⟩ := hu.map_inv; subst h2
    have h1 := hv.eq_ground rfl; subst h1
    exact ⟨by (intro d; simp only [Op.equalIn, Sem.run_bind, run_under ht, Result.andThen_ok]; rfl), gd _ _ (by simp) (by simp), fun h => by subst h; rfl, fun h => by subst h; rfl⟩
  · obtain ⟨p1, p2, p3, ht⟩ := ht
    cases hb
    have h1 := hu.eq_ground rfl; subst h1
    have h2 := hv.eq_ground rfl; subst h2
    exact ⟨by (intro d; simp only [Op.equalIn, Sem.run_bind, run_under ht, Result.andThen_ok]; rfl), gd _ _ (by simp) (by simp), fun h => by subst h; rfl, fun h => by subst h; rfl⟩
  · obtain ⟨p1, p2, p3, ht⟩ := ht
    cases hb
    have h1 := hu.eq_ground rfl; subst h1
    obtain ⟨f', p', q', h2⟩ := ifn hv; subst h2
    exact ⟨by (intro d; simp only [Op.equalIn, Sem.run_bind, run_under ht, Result.andThen_ok]; rfl), gd _ _ (by simp) (by simp), fun h => by subst h; rfl, fun h => by subst h; rfl⟩
  · obtain ⟨p1, p2, p3, ht⟩ := ht
    cases hb
    obtain ⟨f', p', q', h2⟩ := ifn hu; subst h2
    have h1 := hv.eq_ground rfl; subst h1
    exact ⟨by (intro d; simp only [Op.equalIn, Sem.run_bind, run_under ht, Result.andThen_ok]; rfl), gd _ _ (by simp) (by simp), fun h => by subst h; rfl, fun h => by subst h; rfl⟩
  · obtain ⟨ms, ht⟩ := ht
    cases hb
    have h1 := hu.eq_ground rfl; subst h1
    obtain ⟨q, h2, _⟩ := hv.iface_inv; subst h2
    exact ⟨by (intro d; simp only [Op.equalIn, Sem.run_bind, run_under ht, Result.andThen_ok]; rfl), gd _ _ (by simp) (by simp), fun h => by subst h; rfl, fun h => by subst h; rfl⟩
  · obtain ⟨ms, ht⟩ := ht
    cases hb
    obtain ⟨q, h2, _⟩ := hu.iface_inv; subst h2
    have h1 := hv.eq_ground rfl; subst h1
    exact ⟨by (intro d; simp only [Op.equalIn, Sem.run_bind, run_under ht, Result.andThen_ok]; rfl), gd _ _ (by simp) (by simp), fun h => by subst h; rfl, fun h => by subst h; rfl⟩
  · cases hb
theorem ok_eq {bo : BinOp} {t yt : TypeId} {x y : Operand} {kind : EqKind} (ho : o.op = .binOp bo t x y yt) (hbo : bo = .eql ∨ bo = .neq) (ht : eqTy P t kind) : OpOK P o (.eq kind (isNeq bo) (slim o) x y) := by
  intro g h B w0 w e e' hr he
  simp only [xop, eqOpV]
  split
  · rename_i b hb
    obtain ⟨h0, h2, h3, h4⟩ := eqv_run (P := P) hr ht hb (he x) (he y) x y bo hbo
    have h1 : (Op.equal t (e' x) (e' y)).run P w = .ok b w := h0 9999
    rcases hbo with rfl | rfl
    · refine ResOK.same (v' := .bool b) hr (by simp only [isNeq, Bool.false_bne]; exact .gr rfl) ?_
      simp only [execOp, ho, Sem.run_bind, h2, Result.andThen_ok, h3 rfl, h1, Sem.run_pure]
    · refine ResOK.same (v' := .bool !b) hr (by simp only [isNeq, Bool.true_bne]; exact .gr rfl) ?_
      simp only [execOp, ho, Sem.run_bind, h2, Result.andThen_ok, h4 rfl, h1, Sem.run_pure]
  · rw [← execOp_slim e' o]
    exact raw_sound hr he (slim o) (fun cs b => by simp [slim, ho])
end
end Go.Vm

/- A small machine over an abstract heap: functions without a body. -/
set_option linter.unusedSimpArgs false
namespace Go.Vm
open Go.RowKit
section
variable {P : Program} {o : Oper}
theorem loadBytes_run {w : World} : ∀ (l : List Value) (s : List UInt8) (a : Addr) (acc : ByteArray), bytesOf l = some s → (∀ (j : Nat) (v : Value), l[j]? = some v → w.cell? (a.add j) = some v) →
    (Extern.Bytes.loadBytes a l.length acc).run P w = .ok ⟨⟨acc.data.toList ++ s⟩⟩ w
  | [], s, a, acc, h, _ => by simp [bytesOf] at h; subst h; simp [Extern.Bytes.loadBytes]
  | v :: l, s, a, acc, h, hc => by
    cases v with
    | int k n =>
      cases k <;> simp [bytesOf] at h
      obtain ⟨s', h', rfl⟩ := h
      have h0 : w.cell? a = some (.int .u8 n) := by
        have := hc 0 _ rfl
        simpa [Addr.add] using this
      have ih := loadBytes_run (w := w) l s' (a.add 1) (acc.push n.toNat.toUInt8) h' (fun j y hy => by
        have := hc (j + 1) y (by simpa using hy)
        have e : (a.add 1).add j = a.add (j + 1) := by
          unfold Addr.add
          by_cases hj : j = 0
          · subst hj; simp
          · simp [hj]; omega
        rw [e]; exact this)
      simp only [List.length_cons, Extern.Bytes.loadBytes, Sem.run_bind, run_load, h0, Result.andThen_ok]
      rw [ih]
      simp [ByteArray.push]
    | _ => simp [bytesOf] at h
theorem bytesV_run {g : Gh} {h : Heap} {B : Nat} {w0 w : World} (hr : HR g h B w0 w) {v v' : Value} (hv : VR g v v') {s : List UInt8} (hs : bytesV h v = some s) : (Extern.Bytes.bytesOf v').run P w = .ok ⟨⟨s⟩⟩ w := by
  unfold bytesV at hs
  split at hs
  · cases hs
    rw [hv.string]
    simp [Extern.Bytes.bytesOf]
  · cases hs
    rw [hv.eq_ground rfl]
    simp [Extern.Bytes.bytesOf]
    rfl
  · rename_i a n c
    obtain ⟨a', c', rfl, har, _⟩ := hv.slice
    obtain ⟨cs, hc, hb⟩ := Option.bind_eq_some_iff.1 hs
    have hlen := cellsAt_length hc
    unfold cellsAt at hc
    by_cases hn0 : n = 0
    · subst hn0
      rw [if_pos rfl] at hc
      cases hc
      simp [bytesOf] at hb
      subst hb
      simp [Extern.Bytes.bytesOf, Extern.Bytes.loadBytes]
      rfl
    rw [if_neg hn0] at hc
    split at hc
    · rename_i d hd
      split at hc
      · rename_i hle
        cases hc
        obtain ⟨x, hx, c'', el, fz, h1, h4, h6⟩ := hr.of_read hd
        obtain rfl := har.at hx
        have h7 := (h6.drop a.off).take n
        rw [List.drop_take, List.drop_drop, List.take_take] at h7
        rw [show min n (d.length - a.off) = n from by omega] at h7
        have heq := bytes_vr h7 hb
        have := loadBytes_run (P := P) (w := w) ((d.drop a.off).take n) s ⟨x.b, x.sh + a.off, none⟩ .empty hb (fun j v hj => by
          have hadd : (⟨x.b, x.sh + a.off, none⟩ : Addr).add j = ⟨x.b, x.sh + a.off + j, none⟩ := by unfold Addr.add; split <;> simp_all
          rw [hadd]
          rw [← heq, List.getElem?_take] at hj
          split at hj
          · rw [List.getElem?_drop] at hj
            simp only [World.cell?, h1]
            simpa using hj
          · cases hj)
        rw [hlen] at this
        simp only [Extern.Bytes.bytesOf, this]
        simp [ByteArray.empty, ByteArray.emptyWithCapacity]
        rfl
      · cases hc
    · cases hc
  · cases hs
theorem extName_compare {n : String} (h : extName n = some .compare) : n = "internal/bytealg.Compare" := by
  unfold extName at h
  split at h
  · assumption
  · split at h <;> cases h
theorem extName_index {n : String} (h : extName n = some .indexByte) : n = "internal/bytealg.IndexByteString" := by
  unfold extName at h
  split at h
  · cases h
  · split at h
    · assumption
    · cases h
theorem find_compare {fn : Func} (h : fn.name = "internal/bytealg.Compare") : Extern.find fn = some Extern.BytealgCompare.compare := by
  unfold Extern.find
  rw [h]
  rfl
theorem find_index {fn : Func} (h : fn.name = "internal/bytealg.IndexByteString") : Extern.find fn = some Extern.BytealgIndexByte.indexByte := by
  unfold Extern.find
  rw [h]
  rfl
theorem compare_eq (a b : Value) : Extern.BytealgCompare.compare ⟨[a, b]⟩ = (do pure (goInt (Extern.BytealgCompare.cmp (← Extern.Bytes.bytesOf a) (← Extern.Bytes.bytesOf b))) : Sem Value) := rfl
theorem indexByte_eq (a c : Value) : Extern.BytealgIndexByte.indexByte ⟨[a, c]⟩ = (do
    let b ← Extern.Bytes.bytesOf a
    let c ← Extern.Bytes.asByte c
    match (List.range b.size).find? fun i => b[i]! == c with
    | some i => pure (goInt i)
    | none => pure (goInt (-1)) : Sem Value) := rfl
theorem extV_run {g : Gh} {h : Heap} {B : Nat} {w0 w : World} (hr : HR g h B w0 w) {k : ExtK} {fn : Func} (hn : extName fn.name = some k) (hb : fn.body.isNone = true) (hx : Extern.findNext fn = none) {f : FuncId} (hf : P.funcs[f]? = some fn)
    {args args' : List Value} (hv : VRL g args args') {v : Value} (he : extV h k args = some v) : (callFunc f ⟨args'⟩).run P w = .ok (.value v) w ∧ VR g v v := by
  have hname : (fn.name == "runtime.NumGoroutine") = false := by
    cases k with
    | compare => rw [extName_compare hn]; rfl
    | indexByte => rw [extName_index hn]; rfl
  have hcall : ∀ e : Array Value → Sem Value, Extern.find fn = some e → (callFunc f ⟨args'⟩).run P w = ((e ⟨args'⟩).run P w).andThen fun v w' => .ok (.value v) w' := by
    intro e he
    simp only [callFunc, Sem.run_bind, run_program, Result.andThen_ok, hf, hname, Bool.false_eq_true, if_false, hb, if_true, run_mark, hx, he]
    rfl
  unfold extV at he
  split at he
  · rename_i a b
    cases hv with
    | cons h1 hv => cases hv with
      | cons h2 hv => cases hv with
        | nil =>
          split at he
          · rename_i x y hx' hy'
            cases he
            refine ⟨?_, .gr rfl⟩
            rw [hcall _ (find_compare (extName_compare hn))]
            simp only [compare_eq, Sem.run_bind, bytesV_run hr h1 hx', bytesV_run hr h2 hy', Result.andThen_ok, Sem.run_pure, goInt]
          · cases he
  · rename_i b c
    cases hv with
    | cons h1 hv => cases hv with
      | cons h2 hv => cases hv with
        | nil =>
          have h2 := h2.int
          subst h2
          split at he
          · rename_i x hx'
            split at he
            · rename_i i hi
              cases he
              refine ⟨?_, .gr rfl⟩
              rw [hcall _ (find_index (extName_index hn))]
              simp only [indexByte_eq, Extern.Bytes.asByte, Sem.run_bind, bytesV_run hr h1 hx', Result.andThen_ok, Sem.run_pure, hi, goInt]
            · rename_i hi
              cases he
              refine ⟨?_, .gr rfl⟩
              rw [hcall _ (find_index (extName_index hn))]
              simp only [indexByte_eq, Extern.Bytes.asByte, Sem.run_bind, bytesV_run hr h1 hx', Result.andThen_ok, Sem.run_pure, hi, goInt]
          · cases he
  · cases he
theorem ok_ext {c : Call} {f : Operand} {args : List Operand} {k : ExtK} (ho : o.op = .call c) (hcl : c.callee = .value f) (hargs : c.args.toList = args) : OpOK P o (.ext k f args) := by
  intro g h B w0 w e e' hr he
  simp only [xop]
  split
  · rename_i fid hf
    split
    · rename_i hk
      split
      · rename_i v hv
        unfold extFn at hk
        split at hk
        · rename_i fn hfn
          split at hk
          · rename_i hb
            simp only [Bool.and_eq_true, Option.isNone_iff_eq_none] at hb
            have hfv := he f
            rw [hf] at hfv
            obtain ⟨first', captured', hf', h1, h2⟩ := hfv.func_inv
            cases h1
            cases h2
            have hav : VRL g (args.map e) (args.map e') := VRL.map fun x _ => he x
            obtain ⟨hrun, hvr⟩ := extV_run (P := P) hr hk (by simp [hb.1]) hb.2 hfn hav hv
            refine ResOK.same (v' := v) hr hvr ?_
            simp only [execOp, ho, resolve, hcl]
            rw [show c.args.map e' = ⟨args.map e'⟩ from by rw [← hargs]; apply Array.ext'; simp]
            simp only [hf', Deferred.ofValue, Sem.run_bind, Sem.run_pure, Result.andThen_ok, invoke]
            simpa using hrun
          · cases hk
        · cases hk
      · trivial
    · trivial
  · trivial
end
end Go.Vm
