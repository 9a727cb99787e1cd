/- A small machine over an abstract heap: its operations answer as the model's do (6): parts of values. -/
import Derived.Test.YtoadcfjkkoemdaaVm12
set_option linter.unusedSimpArgs false
namespace Go.Vm
open Go.RowKit

section
variable {P : Program} {o : Oper} {op : AOp}

/-! ### Structs and arrays out of parts -/

theorem zip_over : ∀ (xs : List Value) (k : Nat) (l : List Value), k + xs.length ≤ l.length →
    ((xs.zipIdx k).foldl (fun (cs : List Value) (p : Value × Nat) => cs.set p.2 p.1) l) = over l k xs
  | [], k, l, h => by rw [over_eq l k [] h]; simp
  | x :: xs, k, l, h => by
    simp only [List.zipIdx_cons, List.foldl_cons]
    rw [zip_over xs (k + 1) (l.set k x) (by simp at h ⊢; omega), over_set l k x xs (by simpa using h)]

theorem fold_over (v : Array Value) (off : Nat) (l : List Value) (h : off + v.size ≤ l.length) :
    (v.zipIdx.foldl (fun (cs : Array Value) (x : Value × Nat) => cs.setIfInBounds (off + x.2) x.1) ⟨l⟩) = ⟨over l off v.toList⟩ := by
  have key : ∀ (xs : List (Value × Nat)) (l : List Value), xs.foldl (fun (cs : Array Value) (x : Value × Nat) => cs.setIfInBounds (off + x.2) x.1) ⟨l⟩ = ⟨xs.foldl (fun (cs : List Value) (x : Value × Nat) => cs.set (off + x.2) x.1) l⟩ := by
    intro xs
    induction xs with
    | nil => intro l; rfl
    | cons x xs ih =>
      intro l
      simp only [List.foldl_cons]
      rw [← ih]
      congr 1
      apply Array.ext'
      simp
  rw [← Array.foldl_toList, key]
  congr 1
  have h2 := zip_over v.toList off l (by simpa using h)
  rw [← h2]
  have h3 : ∀ (xs : List Value) (k : Nat) (l : List Value), (xs.zipIdx k).foldl (fun (cs : List Value) (x : Value × Nat) => cs.set (off + x.2) x.1) l = (xs.zipIdx (off + k)).foldl (fun (cs : List Value) (p : Value × Nat) => cs.set p.2 p.1) l := by
    intro xs
    induction xs with
    | nil => intro k l; rfl
    | cons x xs ih => intro k l; simp only [List.zipIdx_cons, List.foldl_cons]; rw [ih, Nat.add_assoc]
  have := h3 v.toList 0 l
  simpa using this

theorem fill_eq (place : Nat → Option (Nat × Nat)) : ∀ (parts : List (Nat × Value)) (pl : List (Nat × Nat × Value)) (cells c : List Value),
    pl.length = parts.length → (∀ (j : Nat) (p : Nat × Value) (q : Nat × Nat × Value), parts[j]? = some p → pl[j]? = some q → place p.1 = some (q.1, q.2.1) ∧ q.2.2 = p.2) →
    fillL cells pl = some c → Instr.fill place ⟨cells⟩ parts = some ⟨c⟩
  | [], [], cells, c, _, _, h => by simp [fillL] at h; subst h; rfl
  | [], _ :: _, _, _, h, _, _ => by simp at h
  | _ :: _, [], _, _, h, _, _ => by simp at h
  | (i, v) :: parts, (off, size, u) :: pl, cells, c, hl, hp, h => by
    have h0 := hp 0 (i, v) (off, size, u) rfl rfl
    simp only at h0
    obtain ⟨hpl, rfl⟩ := h0
    simp only [fillL] at h
    split at h
    · rename_i hc
      simp only [Instr.fill, hpl, List.size_toArray]
      rw [if_neg (by rw [hc.1]; simp; omega)]
      have := fold_over u.cells off cells (by rw [hc.1]; exact hc.2)
      rw [show (u.cells.zipIdx.foldl (fun cs x => match x with | (c, j) => cs.setIfInBounds (off + j) c) (⟨cells⟩ : Array Value)) = ⟨over cells off u.cells.toList⟩ from this]
      exact fill_eq place parts pl _ c (by simpa using hl) (fun j p q h1 h2 => hp (j + 1) p q (by simpa using h1) (by simpa using h2)) h
    · cases h

theorem fillL_vr {g : Gh} : ∀ (pl pl' : List (Nat × Nat × Value)) (cells cells' c : List Value), pl'.length = pl.length →
    (∀ (j : Nat) (p q : Nat × Nat × Value), pl[j]? = some p → pl'[j]? = some q → q.1 = p.1 ∧ q.2.1 = p.2.1 ∧ VR g p.2.2 q.2.2) → VRL g cells cells' → fillL cells pl = some c →
    ∃ c', fillL cells' pl' = some c' ∧ VRL g c c'
  | [], [], cells, cells', c, _, _, hv, h => by simp [fillL] at h ⊢; subst h; exact hv
  | [], _ :: _, _, _, _, h, _, _, _ => by simp at h
  | _ :: _, [], _, _, _, h, _, _, _ => by simp at h
  | (off, size, u) :: pl, (off', size', u') :: pl', cells, cells', c, hl, hp, hv, h => by
    have h0 := hp 0 _ _ rfl rfl
    simp only at h0
    obtain ⟨rfl, rfl, hu⟩ := h0
    simp only [fillL] at h ⊢
    split at h
    · rename_i hc
      have hcl := cells_vr hu
      have h1 := hcl.length
      simp only [Array.length_toList] at h1
      have h2 := hv.length
      rw [if_pos ⟨by omega, by omega⟩]
      exact fillL_vr pl pl' _ _ c (by simpa using hl) (fun j p q h3 h4 => hp (j + 1) p q (by simpa using h3) (by simpa using h4))
        (over_vr hv hcl _ (by simp only [Array.length_toList]; omega)) h
    · cases h

theorem partsAt_spec {places : List (Nat × Nat)} : ∀ {parts : List (Nat × Operand)} {l : List (Nat × Nat × Operand)}, partsAt places parts = some l →
    l.length = parts.length ∧ ∀ (j : Nat) (p : Nat × Operand) (q : Nat × Nat × Operand), parts[j]? = some p → l[j]? = some q → places[p.1]? = some (q.1, q.2.1) ∧ q.2.2 = p.2
  | [], l, h => by simp [partsAt] at h; subst h; simp
  | (i, x) :: r, l, h => by
    simp only [partsAt] at h
    split at h
    · rename_i o s l' hp hr
      cases h
      obtain ⟨h1, h2⟩ := partsAt_spec hr
      refine ⟨by simp [h1], fun j p q hj hq => ?_⟩
      cases j with
      | zero => simp at hj hq; subst hj hq; exact ⟨hp, rfl⟩
      | succ j => exact h2 j p q (by simpa using hj) (by simpa using hq)
    · cases h

/-- the parts laid in, here and there -/
theorem fill_sound {g : Gh} {e e' : Operand → Value} (he : ∀ x, VR g (e x) (e' x)) {places : List (Nat × Nat)} {place : Nat → Option (Nat × Nat)} {parts : Array (Nat × Operand)} {l : List (Nat × Nat × Operand)} {cells c : List Value}
    (hl : partsAt places parts.toList = some l) (hpl : ∀ i p, places[i]? = some p → place i = some p) (hg : groundL cells = true) (hc : fillL cells (l.map fun p => (p.1, p.2.1, e p.2.2)) = some c) :
    ∃ c', Instr.fill place ⟨cells⟩ (parts.map fun p => (p.1, e' p.2)).toList = some ⟨c'⟩ ∧ VRL g c c' := by
  obtain ⟨h1, h2⟩ := partsAt_spec hl
  obtain ⟨c', h3, h4⟩ := fillL_vr (g := g) _ (l.map fun p => (p.1, p.2.1, e' p.2.2)) cells cells c (by simp) (fun j p q hp hq => by
    simp only [List.getElem?_map, Option.map_eq_some_iff] at hp hq
    obtain ⟨a, ha, rfl⟩ := hp
    obtain ⟨b, hb, rfl⟩ := hq
    rw [ha] at hb; cases hb
    exact ⟨rfl, rfl, he _⟩) (VRL.of_ground hg) hc
  refine ⟨c', ?_, h4⟩
  refine fill_eq place _ (l.map fun p => (p.1, p.2.1, e' p.2.2)) cells c' (by simp [h1]) (fun j p q hp hq => ?_) h3
  simp only [Array.toList_map, List.getElem?_map, Option.map_eq_some_iff] at hp hq
  obtain ⟨a, ha, rfl⟩ := hp
  obtain ⟨b, hb, rfl⟩ := hq
  obtain ⟨h5, h6⟩ := h2 j a b ha hb
  exact ⟨hpl _ _ h5, by simp only [h6]⟩

theorem places_run {P : Program} : ∀ {fs : List Field} {pl : List (Nat × Nat)}, placesOf P fs = some pl → ∀ w, (fs.mapM (m := Sem) fun f => do pure (f.offset, ← sizeOf f.type)).run P w = .ok pl w
  | [], pl, h, w => by simp [placesOf] at h; subst h; simp
  | f :: fs, pl, h, w => by
    simp only [placesOf] at h
    split at h
    · rename_i s l hs hl
      cases h
      have := places_run hl w
      simp only [List.mapM_cons, Sem.run_bind, run_size hs, Result.andThen_ok, Sem.run_pure]
      rw [this]; rfl
    · cases h

theorem ok_build_struct {t : TypeId} {parts : Array (Nat × Operand)} {fs : Array Field} {z : Value} {pl : List (Nat × Nat)} {l : List (Nat × Nat × Operand)} (ho : o.op = .build t parts) (ht : P.underlying t = some (.struct fs))
    (hz : zeroT P t = some z) (hp : placesOf P fs.toList = some pl) (hl : partsAt pl parts.toList = some l) : OpOK P o (.build z.cells.toList l) := by
  intro g h B w0 w e e' hr he
  simp only [xop]
  split
  · rename_i c hc
    obtain ⟨c', h1, h2⟩ := fill_sound (place := (pl.toArray[·]?)) he hl (fun i p hi => by simpa using hi) (groundL_cells (zeroT_some hz).1) hc
    refine ResOK.same (v' := .agg ⟨c'⟩) hr (.agg h2) ?_
    have hpr := places_run (P := P) hp w
    have hfs : (fs.mapM (m := Sem) fun f => do pure (f.offset, ← sizeOf f.type)).run P w = .ok pl.toArray w := by
      rw [Array.mapM_eq_mapM_toList]
      simp only [Sem.run_map]
      rw [hpr]; rfl
    have h1' : Instr.fill (fun x => pl[x]?) z.cells (parts.map fun p => (p.1, e' p.2)).toList = some ⟨c'⟩ := by simpa using h1
    simp only [execOp, ho, Instr.build, Sem.run_bind, run_zero hz, Result.andThen_ok, run_under ht]
    rw [hfs]
    simp only [Result.andThen_ok]
    rw [show (Instr.fill (fun x => pl.toArray[x]?) z.cells (Array.map (fun x => match x with | (i, x) => (i, e' x)) parts).toList) = some ⟨c'⟩ from h1]
    rfl
  · trivial

theorem ok_build_array {t : TypeId} {parts : Array (Nat × Operand)} {n s : Nat} {el : TypeId} {z : Value} {l : List (Nat × Nat × Operand)} (ho : o.op = .build t parts) (ht : P.underlying t = some (.array n el))
    (hz : zeroT P t = some z) (hs : sizeT P el = some s) (hl : partsAt ((List.range (n + 1)).map fun i => (i * s, s)) parts.toList = some l) : OpOK P o (.build z.cells.toList l) := by
  intro g h B w0 w e e' hr he
  simp only [xop]
  split
  · rename_i c hc
    obtain ⟨c', h1, h2⟩ := fill_sound (place := fun i => some (i * s, s)) he hl (fun i p hi => by
      rw [List.getElem?_map] at hi
      obtain ⟨a, ha, rfl⟩ := Option.map_eq_some_iff.1 hi
      rw [List.getElem?_range (by have := (List.getElem?_eq_some_iff.1 ha).1; simpa using this)] at ha
      cases ha; rfl) (groundL_cells (zeroT_some hz).1) hc
    refine ResOK.same (v' := .agg ⟨c'⟩) hr (.agg h2) ?_
    simp only [execOp, ho, Instr.build, Sem.run_bind, run_zero hz, Result.andThen_ok, run_under ht, run_size hs]
    rw [show (Instr.fill (fun i => some (i * s, s)) z.cells (Array.map (fun x => match x with | (i, x) => (i, e' x)) parts).toList) = some ⟨c'⟩ from h1]
    rfl
  · trivial

theorem ok_buildSlice {t : TypeId} {parts : Array (Nat × Operand)} {len s : Nat} {el : TypeId} {z : List Value} {l : List (Nat × Nat × Operand)} (ho : o.op = .buildSlice t len parts) (ht : P.underlying t = some (.slice el))
    (hs : sizeT P el = some s) (hz : zeroCellsT P el = some z) (hc : s ≠ 0 ∧ len * s ≤ 16777216) (hl : partsAt ((List.range (len + 1)).map fun i => (i * s, s)) parts.toList = some l) :
    OpOK P o (.buildSlice el (repeatL z len) len l) := by
  intro g h B w0 w e e' hr he
  obtain ⟨hg, i, v, hi, hv, hvz, hzl⟩ := zeroCellsT_some hz
  have his : s = i.size := by simp [sizeT, hi] at hs; exact hs.symm
  simp only [xop]
  split
  · rename_i c hcf
    obtain ⟨c', h1, h2⟩ := fill_sound (place := fun i => some (i * s, s)) he hl (fun i p hi => by
      rw [List.getElem?_map] at hi
      obtain ⟨a, ha, rfl⟩ := Option.map_eq_some_iff.1 hi
      rw [List.getElem?_range (by have := (List.getElem?_eq_some_iff.1 ha).1; simpa using this)] at ha
      cases ha; rfl) (repeatL_ground hg len) hcf
    have h4 := alloc_sound hr h2 el 0 (0, 0) [] (by simp) (by simp)
    refine ⟨_, .slice (some ⟨w.heap.size, 0, none⟩) len len, _, _, ?_, .inl rfl, Le.push _ _, h4, .sl rfl (AR_new hr)⟩
    have hlim : ¬ (len * s > 2 ^ 24) := by omega
    have hzs : v.cells.size = s := by rw [his, ← hzl, ← hvz]; simp
    have hrow : (if len * s = 0 then #[] else (Array.range (len * s)).map fun x => v.cells[x % v.cells.size]!) = (⟨repeatL z len⟩ : Array Value) := by
      split
      · rename_i h0
        apply Array.ext'
        have : (repeatL z len).length = 0 := by rw [repeatL_length, hzl, ← his]; exact h0
        simp [List.length_eq_zero_iff.1 this]
      · have := range_zero v.cells len
        rw [hzs, hvz] at this
        rw [hzs]; exact this
    simp only [execOp, ho, Instr.buildSlice, Sem.run_bind, run_under ht, Result.andThen_ok, run_size hs, hlim, if_false, Sem.run_ite, Sem.run_pure]
    by_cases h0 : len * s = 0
    · simp only [h0, if_true, Result.andThen_ok] at hrow ⊢
      have e1 : (⟨repeatL z len⟩ : Array Value) = #[] := hrow.symm
      rw [e1] at h1
      have e2 : (Array.map (fun x => (#[] : Array Value)[x % (#[] : Array Value).size]!) (Array.range 0)) = #[] := by simp
      rw [e2]
      rw [show (Instr.fill (fun i => some (i * s, s)) #[] (Array.map (fun x => match x with | (i, x) => (i, e' x)) parts).toList) = some ⟨c'⟩ from h1]
      simp [newRow]
    · simp only [h0, if_false] at hrow ⊢
      simp only [Sem.run_bind, run_zero hv, Result.andThen_ok, Sem.run_pure]
      rw [hrow]
      rw [show (Instr.fill (fun i => some (i * s, s)) (⟨repeatL z len⟩ : Array Value) (Array.map (fun x => match x with | (i, x) => (i, e' x)) parts).toList) = some ⟨c'⟩ from h1]
      simp [newRow]
  · trivial

end
end Go.Vm
