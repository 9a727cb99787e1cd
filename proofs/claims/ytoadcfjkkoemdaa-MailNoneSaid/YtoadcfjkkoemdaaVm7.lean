/- A small machine over an abstract heap: its operations answer as the model's do (3): slices. -/
import Derived.Test.YtoadcfjkkoemdaaVm6
import Derived.Laws.Tables
namespace Go.Vm
open Go.RowKit

section
variable {P : Program} {o : Oper} {op : AOp}

theorem bnd_some {e : Operand → Value} {lim d r : Nat} {x : Operand} (h : bnd e lim d (some x) = some r) : ∃ k i, e x = .int k i ∧ 0 ≤ i ∧ i ≤ lim ∧ i.toNat = r := by
  obtain ⟨k, i, h1, h2, h3, h4⟩ := idx_some h
  exact ⟨k, i, h1, h2, by omega, h4⟩

theorem bound_run {e e' : Operand → Value} {g : Gh} (he : ∀ x, VR g (e x) (e' x)) {lim lim' d r : Nat} {x : Operand} (h : bnd e lim d (some x) = some r) (hl : lim ≤ lim') (code : BoundsCode) (w : World) :
    (Instr.sliceBound (e' x) lim' code).run P w = .ok r w := by
  obtain ⟨k, i, h1, h2, h3, h4⟩ := bnd_some h
  have := he x; rw [h1] at this; have := this.int
  have h5 : i ≤ (lim' : Int) := by omega
  simp [Instr.sliceBound, this, asIntOf, h2, h5, h4]

theorem bnd_le {e : Operand → Value} {lim d r : Nat} {x : Option Operand} (h : bnd e lim d x = some r) (hd : d ≤ lim) : r ≤ lim := by
  cases x with
  | none => simp [bnd] at h; omega
  | some x => obtain ⟨k, i, _, _, h3, h4⟩ := bnd_some h; omega

/-- the bounds of a slice, where the capacity is at least what is known of it -/
theorem bounds_run {e e' : Operand → Value} {g : Gh} (he : ∀ x, VR g (e x) (e' x)) (isSlice : Bool) {len cap cap' m r l : Nat} {lo hi mx : Option Operand}
    (hc : cap ≤ cap') (hmh : mx.isSome = true → hi.isSome = true) (h1 : bnd e cap cap mx = some m) (h2 : bnd e m len hi = some r) (h3 : bnd e r 0 lo = some l) (w : World) :
    (Instr.sliceBounds isSlice len cap' (lo.map e') (hi.map e') (mx.map e')).run P w = .ok (l, r, if mx.isSome then m else cap') w := by
  unfold Instr.sliceBounds
  cases mx with
  | none =>
    simp [bnd] at h1; subst h1
    cases hi with
    | none =>
      simp [bnd] at h2; subst h2
      cases lo with
      | none => simp [bnd] at h3; subst h3; simp
      | some y => simp [bound_run (P := P) he h3 (Nat.le_refl _)]
    | some x =>
      cases lo with
      | none => simp [bnd] at h3; subst h3; simp [bound_run (P := P) he h2 hc]
      | some y => simp [bound_run (P := P) he h2 hc, bound_run (P := P) he h3 (Nat.le_refl _)]
  | some z =>
    cases hi with
    | none => simp at hmh
    | some x =>
      cases lo with
      | none => simp [bnd] at h3; subst h3; simp [bound_run (P := P) he h1 hc, bound_run (P := P) he h2 (Nat.le_refl _)]
      | some y => simp [bound_run (P := P) he h1 hc, bound_run (P := P) he h2 (Nat.le_refl _), bound_run (P := P) he h3 (Nat.le_refl _)]

/-- what a slice expression answers -/
theorem slice_value {g : Gh} {h : Heap} {B : Nat} {w0 w : World} (hr : HR g h B w0 w) {e : Operand → Value} {size : Nat} {base base' : Option Addr} {len cap cap' : Nat} {lo hi mx : Option Operand} {v : Value} {h' : Heap}
    (hv : sliceOf e size (.slice base len cap) lo hi mx h = .ok v h') (hb : VR g (.slice base len cap) (.slice base' len cap')) :
    ∃ m r l, bnd e cap cap mx = some m ∧ bnd e m len hi = some r ∧ bnd e r 0 lo = some l ∧ h' = h ∧
      VR g v (.slice (if (if mx.isSome then m else cap') = l then base' else base'.map (·.add (l * size))) (r - l) ((if mx.isSome then m else cap') - l)) := by
  unfold sliceOf at hv
  dsimp only at hv
  split at hv
  · cases hv
  · rename_i m hm
    split at hv
    · cases hv
    · rename_i r hrr
      split at hv
      · cases hv
      · rename_i l hl
        split at hv
        · cases hv
        rename_i hmr
        have hlr : l ≤ r := bnd_le hl (by omega)
        refine ⟨m, r, l, hm, hrr, hl, ?_⟩
        cases base with
        | none =>
          have := hb.eq_ground rfl
          cases this
          cases hv
          refine ⟨rfl, ?_⟩
          cases mx with
          | none => simp [bnd] at hm; subst hm; simpa using VR.gr rfl
          | some z => simpa using VR.gr rfl
        | some a =>
          obtain ⟨a', c', he, har, hle, hn1, hn2⟩ := hb.slice
          cases he
          have hmap : ∀ n, VR g (.slice (some ⟨a.block, a.off + l * size, none⟩) (r - l) n) (.slice (some (a'.add (l * size))) (r - l) n) := fun n => .sl rfl (add_AR har _)
          cases hs : a.spot with
          | none =>
            simp only [hs] at hv
            cases hv
            refine ⟨rfl, ?_⟩
            have hcc := hn1 hs
            have hmm : (if mx.isSome then m else cap') = m := by
              cases mx with
              | none => simp [bnd] at hm; simp [hm, hcc]
              | some z => simp
            rw [hmm]
            by_cases he : m = l
            · rw [if_pos he, if_pos he]; exact .sl hs har
            · rw [if_neg he, if_neg he]; exact hmap _
          | some k =>
          cases mx with
          | some z =>
            simp only [hs] at hv
            cases hv
            refine ⟨rfl, ?_⟩
            simp only [Option.isSome_some, if_true]
            by_cases he : m = l
            · rw [if_pos he, if_pos he]; exact .sl rfl ⟨har.1, har.2⟩
            · rw [if_neg he, if_neg he]; exact hmap _
          | none =>
            simp only [hs] at hv
            simp [bnd] at hm
            subst hm
            have hlim := hn2 (by rw [hs]; simp)
            simp only [Option.isSome_none, Bool.false_eq_true, if_false]
            split at hv
            · rename_i h0
              cases hv
              subst h0
              refine ⟨rfl, ?_⟩
              have hadd : (if cap' = 0 then some a' else (some a').map (·.add (0 * size))) = some a' := by
                split <;> simp [Addr.add]
              rw [hadd]
              simp only [Nat.sub_zero]
              exact .osl hs har hle hlim
            · rename_i h0
              split at hv
              · rename_i hcl
                cases hv
                refine ⟨rfl, ?_⟩
                have hrl : r - l = 0 := by omega
                rw [hrl]
                have hz := hr.zero
                have h0' := (List.getElem?_eq_some_iff.1 hz).1
                have har0 : ∀ b, AR g ⟨0, 0, some k⟩ b := fun b => ⟨h0', fun y hy => by simp only at hy; rw [hz] at hy; cases hy⟩
                split
                · exact .osl rfl (har0 _) (by omega) (fun y hy => by simp only at hy; rw [hz] at hy; cases hy)
                · exact .osl rfl (har0 _) (by omega) (fun y hy => by simp only at hy; rw [hz] at hy; cases hy)
              · rename_i hcl
                split at hv
                · rename_i c es hg
                  split at hv
                  · rename_i hes
                    cases hv
                    refine ⟨rfl, ?_⟩
                    rw [if_neg (by omega)]
                    have h2 := add_AR har (l * size)
                    refine .osl (k := k) rfl ⟨h2.1, h2.2⟩ (by omega) (fun y hy => ?_)
                    have h1 := hlim y hy
                    obtain ⟨x, hx, c', el, fz, e1, e2, _⟩ := hr.of_cells hg
                    simp only at hy
                    rw [hx] at hy; cases hy
                    rw [e2, hes] at h1 ⊢
                    have : l * size + (cap' - l) * size = cap' * size := by
                      rw [← Nat.add_mul]; congr 1; omega
                    simp only
                    omega
                  · cases hv
                · cases hv

end
end Go.Vm
