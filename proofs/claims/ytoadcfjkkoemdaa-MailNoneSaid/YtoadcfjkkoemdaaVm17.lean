/- A small machine over an abstract heap: every operation that it answers, the model answers so. -/
import Derived.Test.YtoadcfjkkoemdaaVm16b
set_option linter.unusedSimpArgs false
namespace Go.Vm
open Go.RowKit

section
variable {P : Program} {o : Oper} {op : AOp}

theorem OpOK.bad (hb : ∀ e h, xop P e h op = .bad) : OpOK P o op := by
  intro g h B w0 w e e' hr he
  rw [hb]; trivial

theorem builtin_sound {b : Builtin} {c : Call} (ho : o.op = .call c) (hc : c.callee = .builtin b) (h : compBuiltin P b c (slim o) = some op) : OpOK P o op := by
  have hns : ∀ cs b, o.op ≠ .select cs b := fun cs b => by simp [ho]
  unfold compBuiltin at h
  split at h
  · rename_i x t ha hat
    split at h
    · rename_i n el ht; cases h; exact ok_lenArr ho hc ha hat (.inl ht)
    · rename_i a ht
      split at h
      · rename_i n el hp; cases h; exact ok_lenArr ho hc ha hat (.inr ⟨a, ht, hp⟩)
      · cases h
    · rename_i ht; cases h; exact ok_lenStr ho hc ha hat ht
    · rename_i el ht; cases h; exact ok_lenSl ho hc ha hat ht
    · rename_i kt el ht; cases h; exact ok_lenMap ho hc ha hat ht
    · cases h
  · rename_i x t ha hat
    split at h
    · rename_i el ht; cases h; exact ok_cap ho hc ha hat ht
    · cases h
  · rename_i s x ts tx ha hat
    split at h
    · rename_i el d hts htx
      split at h
      · rename_i i z hi hz
        split at h
        · rename_i k; cases h; exact ok_append ho hc ha hat hts htx hi hz (.inl ⟨k, rfl⟩) rfl
        · rename_i k; cases h; exact ok_append ho hc ha hat hts htx hi hz (.inr (.inl ⟨k, rfl⟩)) rfl
        · cases h; exact ok_append ho hc ha hat hts htx hi hz (.inr (.inr rfl)) rfl
        · cases h
      · cases h
    · cases h
  · rename_i d s t ats ha hat
    split at h
    · rename_i el ht
      obtain ⟨n, hn, rfl⟩ := Option.map_eq_some_iff.1 h
      exact ok_copy ho hc ha hat ht hn
    · cases h
  · rename_i m k t ats ha hat
    split at h
    · rename_i kt el ht
      obtain ⟨kd, hk, rfl⟩ := Option.map_eq_some_iff.1 h
      exact ok_delete ho hc ha hat ht hk
    · cases h
  · cases h; exact ok_raw hns
  · cases h; exact ok_raw hns
  · cases h; exact OpOK.bad fun _ _ => rfl
  · cases h

theorem xop_sound (h : compOp P o = some op) : OpOK P o op := by
  unfold compOp at h
  simp only [show (slim o).op = o.op from rfl] at h
  have hns : (∀ cs b, o.op ≠ .select cs b) → OpOK P o (.raw (slim o)) := ok_raw
  cases ho : o.op with
  | move x => rw [ho] at h; cases h; exact ok_mov x (.inl ho)
  | assign x => rw [ho] at h; cases h; exact ok_mov x (.inr ho)
  | pick c a b => rw [ho] at h; cases h; exact ok_pick ho
  | alloc el =>
    rw [ho] at h
    obtain ⟨z, hz, rfl⟩ := Option.map_eq_some_iff.1 h
    exact ok_alloc ho hz
  | box el x => rw [ho] at h; cases h; exact ok_box ho
  | build t parts =>
    rw [ho] at h
    simp only at h
    split at h
    · rename_i fs z ht hz
      split at h
      · rename_i pl hp
        obtain ⟨l, hl, rfl⟩ := Option.map_eq_some_iff.1 h
        exact ok_build_struct ho ht hz hp hl
      · cases h
    · rename_i n el z ht hz
      split at h
      · rename_i s hs
        obtain ⟨l, hl, rfl⟩ := Option.map_eq_some_iff.1 h
        exact ok_build_array ho ht hz hs hl
      · cases h
    · cases h
  | buildSlice t len parts =>
    rw [ho] at h
    simp only at h
    split at h
    · rename_i el ht
      split at h
      · rename_i s z hs hz
        split at h
        · rename_i hc
          obtain ⟨l, hl, rfl⟩ := Option.map_eq_some_iff.1 h
          exact ok_buildSlice ho ht hs hz hc hl
        · cases h
      · cases h
    · cases h
  | insert t m k x =>
    rw [ho] at h
    simp only at h
    split at h
    · rename_i kt el ht
      obtain ⟨kd, hk, rfl⟩ := Option.map_eq_some_iff.1 h
      exact ok_mapUpdate (.inr ho) ht hk
    · cases h
  | load t a =>
    rw [ho] at h
    obtain ⟨g, hg, rfl⟩ := Option.map_eq_some_iff.1 h
    exact ok_load ho hg
  | store t a x =>
    rw [ho] at h
    obtain ⟨n, hn, rfl⟩ := Option.map_eq_some_iff.1 h
    exact ok_store ho hn
  | nilCheck x => rw [ho] at h; cases h; exact ok_nilCheck ho
  | binOp bo t x y yt =>
    rw [ho] at h
    simp only at h
    have hraw : OpOK P o (.raw (slim o)) := hns (fun cs b => by simp [ho])
    have key : (bo = .eql ∨ bo = .neq) → (match P.underlying t with
        | some (.pointer el) => match sizeT P el with
          | some (_ + 1) => some (.eq .ptr (isNeq bo) (slim o) x y)
          | _ => some (.raw (slim o))
        | some (.slice _) => some (.eq .slice (isNeq bo) (slim o) x y)
        | some (.map _ _) => some (.eq .map (isNeq bo) (slim o) x y)
        | some (.func _ _ _) => some (.eq .func (isNeq bo) (slim o) x y)
        | some (.interface _) => some (.eq .iface (isNeq bo) (slim o) x y)
        | _ => some (.bin bo (slim o) x y)) = some op → OpOK P o op := by
      intro hbo h
      split at h
      · rename_i el ht
        split at h
        · rename_i n hs; cases h; exact ok_eq (kind := .ptr) ho hbo ⟨el, n, ht, hs⟩
        · cases h; exact hraw
      · rename_i el ht; cases h; exact ok_eq (kind := .slice) ho hbo ⟨el, ht⟩
      · rename_i k el ht; cases h; exact ok_eq (kind := .map) ho hbo ⟨k, el, ht⟩
      · rename_i a b c ht; cases h; exact ok_eq (kind := .func) ho hbo ⟨a, b, c, ht⟩
      · rename_i ms ht; cases h; exact ok_eq (kind := .iface) ho hbo ⟨ms, ht⟩
      · cases h; exact ok_bin ho
    cases bo with
    | eql => exact key (.inl rfl) h
    | neq => exact key (.inr rfl) h
    | _ => cases h; exact ok_bin ho
  | unOp u t x => rw [ho] at h; cases h; exact hns (fun cs b => by simp [ho])
  | convert src dst x =>
    rw [ho] at h
    simp only at h
    have hraw : OpOK P o (.raw (slim o)) := hns (fun cs b => by simp [ho])
    split at h
    · rename_i d k hs hd; cases h; exact ok_conv ho hs hd
    · rename_i el hs hd
      split at h
      · rename_i hel; cases h; exact ok_bytesToStr ho hs hd hel
      · cases h; exact hraw
    · rename_i el hs hd
      split at h
      · rename_i hel hsz; cases h; exact ok_strToBytes ho hs hd hel
      · cases h
    · cases h; exact hraw
  | sliceToArrayPointer t x =>
    rw [ho] at h
    simp only at h
    split at h
    · rename_i n el ht; cases h; exact ok_arrayAt ho ht
    · cases h
  | makeInterface t x =>
    rw [ho] at h
    simp only at h
    split at h
    · cases h
    · rename_i d hd ht; cases h; exact ok_mkIface ho ht (fun ms hm => hd ms (by rw [hm]))
    · cases h
  | makeFunc fn first captured =>
    rw [ho] at h
    simp only at h
    split at h
    · rename_i f; cases h; exact ok_mkFunc ho
    · cases h
  | makeMap t r =>
    rw [ho] at h
    cases r with
    | none => cases h; exact ok_mkMap ho
    | some x => cases h
  | makeSlice t l c =>
    rw [ho] at h
    simp only at h
    split at h
    · rename_i el ht
      split at h
      · rename_i i z hi hz; cases h; exact ok_makeSlice ho ht hi hz
      · cases h
    · cases h
  | slice t x lo hi mx =>
    rw [ho] at h
    simp only at h
    split at h
    · rename_i n el ht
      split at h
      · rename_i s hs
        split at h
        · cases h
        · cases h; exact ok_sliceArr ho (.inl ht) hs
      · cases h
    · rename_i a ht
      split at h
      · rename_i n el hp
        split at h
        · rename_i s hs
          split at h
          · cases h
          · cases h; exact ok_sliceArr ho (.inr ⟨a, ht, hp⟩) hs
        · cases h
      · cases h
    · rename_i el ht
      split at h
      · rename_i s hs
        split at h
        · cases h
        · rename_i hc
          cases h
          refine ok_sliceSl ho ht hs (fun h1 => ?_)
          cases hi with
          | none => exact absurd (.inr ⟨h1, rfl⟩) hc
          | some y => rfl
      · cases h
    · rename_i ht
      split at h
      · cases h; exact ok_sliceStr ho ht
      · cases h
    · cases h
  | fieldAddr s x f =>
    rw [ho] at h
    simp only at h
    split at h
    · rename_i fs hs
      split at h
      · rename_i fd hf
        split at h
        · rename_i n hn
          split at h
          · cases h
          · rename_i h0; cases h; exact ok_fieldAddr ho hs hf hn h0
        · cases h
      · cases h
    · cases h
  | field s x f =>
    rw [ho] at h
    simp only at h
    split at h
    · rename_i fs hs
      split at h
      · rename_i fd hf
        obtain ⟨g, hg, rfl⟩ := Option.map_eq_some_iff.1 h
        exact ok_field ho hs hf hg
      · cases h
    · cases h
  | indexAddr t x i =>
    rw [ho] at h
    simp only at h
    split at h
    · rename_i n el ht
      split at h
      · rename_i s hs
        split at h
        · cases h
        · cases h; exact ok_indexArr ho ht hs
      · cases h
    · rename_i el ht
      split at h
      · rename_i s hs
        split at h
        · cases h
        · cases h; exact ok_indexSl ho ht hs
      · cases h
    · cases h
  | index t x i =>
    rw [ho] at h
    simp only at h
    split at h
    · rename_i n el ht
      split at h
      · rename_i s g hs hg; cases h; exact ok_index ho ht hs hg
      · cases h
    · cases h; exact hns (fun cs b => by simp [ho])
    · cases h
  | lookup t m k ok =>
    rw [ho] at h
    simp only at h
    split at h
    · rename_i kt el ht
      split at h
      · rename_i kd z hk hz; cases h; exact ok_lookup ho ht hk hz
      · cases h
    · cases h
  | mapUpdate t m k x =>
    rw [ho] at h
    simp only at h
    split at h
    · rename_i kt el ht
      obtain ⟨kd, hk, rfl⟩ := Option.map_eq_some_iff.1 h
      exact ok_mapUpdate (.inl ho) ht hk
    · cases h
  | range t x =>
    rw [ho] at h
    simp only at h
    split at h
    · rename_i ht; cases h; exact ok_rangeStr ho ht
    · rename_i k el ht; cases h; exact ok_rangeMap ho ht
    · cases h
  | next it isString =>
    rw [ho] at h
    cases isString with
    | true => cases h; exact ok_nextStr ho
    | false => cases h; exact OpOK.bad fun _ _ => rfl
  | entry it =>
    rw [ho] at h
    cases h; exact ok_entryMap ho
  | typeAssert x xt t ok =>
    rw [ho] at h
    simp only at h
    split at h
    · cases h
    · rename_i d z hd ht hz; cases h; exact ok_assert ho ht (fun ms hm => hd ms (by rw [hm])) hz
    · cases h
  | extract x i => rw [ho] at h; cases h; exact ok_extract ho
  | panic x => rw [ho] at h; cases h; exact ok_panic ho
  | call c =>
    rw [ho] at h
    simp only at h
    split at h
    · rename_i f hcl
      split at h
      · cases h; exact ok_ext ho hcl rfl
      · cases h; exact OpOK.bad fun _ _ => rfl
    · cases h; exact OpOK.bad fun _ _ => rfl
    · rename_i b hc; exact builtin_sound ho hc h
  | defer c =>
    rw [ho] at h
    simp only at h
    split at h
    · cases h; exact OpOK.bad fun _ _ => rfl
    · cases h
  | _ => rw [ho] at h; cases h

end
end Go.Vm
