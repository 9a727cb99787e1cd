/- A small machine over an abstract heap: append, copy and their kin. -/
import Derived.Test.YtoadcfjkkoemdaaVm10
namespace Go.Vm
open Go.RowKit

section
variable {P : Program} {o : Oper} {op : AOp}

theorem over_tail (l : List Value) (s m : Nat) (xs : List Value) (h : s + m + xs.length ≤ l.length) : ((over l (s + m) xs).drop s).take (m + xs.length) = (l.drop s).take m ++ xs := by
  rw [over_eq l (s + m) xs h]
  apply List.ext_getElem?
  intro j
  simp only [List.getElem?_take, List.getElem?_drop, List.getElem?_append, List.length_take, List.length_drop, List.length_append]
  repeat' split
  all_goals (try omega)
  all_goals (try rfl)
  all_goals (try (congr 1; omega))
  all_goals (symm; apply List.getElem?_eq_none; omega)

set_option maxRecDepth 20000 in
theorem append_sound {g : Gh} {h : Heap} {B : Nat} {w0 w : World} (hr : HR g h B w0 w) {ts tx ty el : TypeId} {d : TypeDesc} {i : TypeInfo} {v : Value} {zero : List Value} {zeros : Bool} {s s' x x' : Value}
    (hts : P.underlying ts = some (.slice el)) (htx : P.underlying tx = some d) (hi : P.info? el = some i) (hv : zeroT P el = some v) (hvz : v.cells.toList = zero) (hzl : zero.length = i.size)
    (hd : (∃ k, d = .int k) ∨ (∃ e, d = .slice e) ∨ d = .string) (hzs : zeros = zerosOf d) (hs : VR g s s') (hx : VR g x x') {u : Value} {h' : Heap}
    (ha : appendOf i.size i.bytes zero zeros s x h = .ok u h') :
    ∃ g' u' w', (Builtin.append_ #[ts, tx] ty #[s', x']).run P w = .ok u' w' ∧ Le g g' ∧ HR g' h' B w0 w' ∧ VR g' u u' := by
  subst hzs
  have hzg : groundL zero = true := by rw [← hvz]; exact groundL_cells (zeroT_some hv).1
  unfold appendOf at ha
  split at ha
  · cases ha
  rename_i hsz
  split at ha
  · rename_i base len cap n new hnew
    obtain ⟨new', hnr, hnl, hn1, hn2⟩ := new_run (P := P) hr hnew hx hzg hzl
    have hap : Appended P w i.size n zero (zerosOf d) x' new' := ⟨hnl, hn1, hn2⟩
    dsimp only at ha
    split at ha
    · cases ha
    rename_i hsmall
    simp only [ge_iff_le, not_or, Nat.not_le] at hsmall
    cases base with
    | none =>
      have hs' := hs.eq_ground rfl
      subst hs'
      simp only at ha
      split at ha
      · cases ha
      rename_i hc0
      obtain ⟨rfl, rfl⟩ : cap = 0 ∧ len = 0 := by
        constructor
        · exact Decidable.byContradiction fun h => hc0 (.inl h)
        · exact Decidable.byContradiction fun h => hc0 (.inr h)
      split at ha
      · rename_i hn0
        cases ha
        have hroom := append_room (P := P) (w := w) (ty := ty) (base' := none) (len := 0) (c' := 0) hts htx hi hv hvz hd hap (by omega) hsmall.2 (by omega)
        refine ⟨g, .slice none 0 0, w, ?_, Le.refl _, hr, .gr rfl⟩
        rw [hroom]
        obtain rfl : n = 0 := by omega
        simp
      · rename_i hn0
        cases ha
        obtain ⟨cap', extra, h1, h2, h3⟩ := append_grow (P := P) (w := w) (ty := ty) (base' := none) (len := 0) (c' := 0) (old' := []) hts htx hi hv hvz hzl hd hap hsmall.1 hsmall.2 (by omega) (fun w' _ => by simp [Builtin.firstCells])
        have h4 := alloc_sound (hr.drawn (w.drawn + 1)) hnr el i.size (0, 0) extra (by simp) (by simp)
        refine ⟨_, _, _, h3, Le.push _ _, h4, ?_⟩
        refine .osl (k := 0) rfl (AR_new hr) h1 (fun y hy => ?_)
        simp only [← hr.len] at hy
        simp at hy; subst hy
        simp only [Nat.zero_add, Nat.add_zero]
        rw [hnl, h2, ← Nat.add_mul]
        exact Nat.mul_le_mul_right _ (by omega)
    | some a =>
      obtain ⟨a', c', rfl, har, hle, he1, he2⟩ := hs.slice
      simp only at ha
      split at ha
      · -- room, known
        rename_i hroom
        split at ha
        · rename_i h'' hp
          cases ha
          obtain ⟨w', hst, hr'⟩ := store_sound (P := P) hr hp hnr (add_AR har (len * i.size)) rfl rfl
          have hrun := append_room (P := P) (w := w) (ty := ty) (base' := some a') (len := len) (c' := c') hts htx hi hv hvz hd hap (by omega) hsmall.2 (by omega)
          simp only [hst, Result.andThen_ok] at hrun
          refine ⟨g, _, w', hrun, Le.refl _, hr', ?_⟩
          cases hsp : a.spot with
          | none => rw [he1 hsp]; exact .sl hsp har
          | some k => exact .osl hsp har hle (he2 (by rw [hsp]; simp))
        · cases ha
      · rename_i hroom
        split at ha
        · cases ha
        rename_i old hold
        obtain ⟨old', hor, hovr⟩ := loadCells_sound' (P := P) hr hold har rfl rfl
        have hol := cellsAt_length hold
        have hol' := hovr.length
        have holdr : ∀ w', w'.heap = w.heap → (Builtin.firstCells i.size len (.slice (some a') len c')).run P w' = .ok ⟨old'⟩ w' := fun w' hw' => by simpa [Builtin.firstCells] using hor w' hw'
        have hgrow : ¬ len + n ≤ c' → ∀ (g1 : Gh) (h1 : Heap), HR g1 h1 B w0 w → Le g g1 → ∃ g' u' w', (Builtin.append_ #[ts, tx] ty #[.slice (some a') len c', x']).run P w = .ok u' w' ∧ Le g g' ∧
            HR g' (h1.push (.cells (old ++ new) i.size)) B w0 w' ∧ VR g' (.slice (some ⟨h1.n, 0, some 0⟩) (len + n) (len + n)) u' := by
          intro hnr' g1 h1 hr1 hl1
          obtain ⟨cap', extra, e1, e2, e3⟩ := append_grow (P := P) (w := w) (ty := ty) hts htx hi hv hvz hzl hd hap hsmall.1 hsmall.2 hnr' holdr
          have h4 := alloc_sound (hr1.drawn (w.drawn + 1)) ((hovr.mono hl1).append (hnr.mono hl1)) el i.size (0, 0) extra (by simp) (by simp)
          refine ⟨_, _, _, e3, hl1.trans (Le.push _ _), h4, ?_⟩
          refine .osl (k := 0) rfl (AR_new hr1) e1 (fun y hy => ?_)
          simp only [← hr1.len] at hy
          simp at hy; subst hy
          simp only [Nat.zero_add, Nat.add_zero]
          rw [hnl, hol', hol, e2, ← Nat.add_mul, ← Nat.add_mul]
          exact Nat.mul_le_mul_right _ (by omega)
        split at ha
        · rename_i hsp
          cases ha
          have := he1 hsp
          exact hgrow (by omega) g h hr (Le.refl _)
        · rename_i k hsp
          split at ha
          · rename_i c es hg
            split at ha
            · rename_i hes
              obtain ⟨hes, hnone⟩ := hes
              cases ha
              have hkill := hr.kill a.block
              by_cases hrm : len + n ≤ c'
              · -- there is room after all
                obtain ⟨y, hgy, c2, el2, fz, f1, f2, f3, f4, f5, f7, f6⟩ := hr.of_cells hg
                obtain rfl := har.at hgy
                obtain ⟨c2⟩ := c2
                simp only [List.size_toArray] at f3 f4 f5
                have hlim := he2 (by rw [hsp]; simp) y hgy
                rw [f2, hes, f3] at hlim
                have hlim2 : (len + n) * i.size ≤ c' * i.size := Nat.mul_le_mul_right _ hrm
                rw [Nat.add_mul] at hlim2
                have hone : ∀ v ∈ new', v.oneCell' = true := one_of_vr hnr hnone
                have hst := storeCells_run P y.b (y.sh + a.off + len * i.size) el2 fz new' 0 c2 w f1 (by rw [hnl]; omega) hone f5
                have hadd : (⟨y.b, y.sh + a.off, none⟩ : Addr).add (len * i.size) = ⟨y.b, y.sh + a.off + len * i.size, none⟩ := by
                  unfold Addr.add; split <;> simp_all
                have hrun := append_room (P := P) (w := w) (ty := ty) (base' := some ⟨y.b, y.sh + a.off, none⟩) (len := len) (c' := c') hts htx hi hv hvz hd hap (by omega) hsmall.2 hrm
                simp only [hadd, hst, Result.andThen_ok] at hrun
                have hno : ∀ (j : Nat) (z : GB), (g.set a.block none)[j]? = some (some z) → z.b ≠ y.b := by
                  intro j z hz hb
                  have hle := Le.kill g a.block
                  have hj : j < g.length := by have := (List.getElem?_eq_some_iff.1 hz).1; simpa using this
                  have := (hr.inj a.block j y z (hr.own hgy (by rw [hg]; rfl)) hgy (hle.2 j hj z hz) hb.symm).symm
                  subst this
                  rw [List.getElem?_set] at hz; simp at hz
                have hB := hr.alive a.block y hgy
                have hBo := hr.own hgy (by rw [hg]; rfl)
                refine ⟨g.set a.block none ++ [some ⟨y.b, y.sh + a.off, i.size, c2.length⟩], _, _, hrun, (Le.kill _ _).trans (Le.push _ _), ?_, ?_⟩
                · refine hkill.adopt (x := ⟨y.b, y.sh + a.off, i.size, c2.length⟩) hBo hB.2.1 hno rfl rfl rfl rfl ?_
                  refine ⟨_, el2, fz, heap_withBlock f1, rfl, ?_, ?_, ?_, ?_, ?_⟩
                  · simp only [List.size_toArray]; rw [over_length _ _ _ (by rw [hnl]; omega)]
                  · simp only [List.size_toArray, List.length_append]; rw [over_length _ _ _ (by rw [hnl]; omega), hol, ← hnr.length, hnl]; omega
                  · simp only [List.size_toArray]; rw [over_length _ _ _ (by rw [hnl]; omega)]; exact f5
                  · intro hne; exact f7 (by omega)
                  · have hl2 : Le g (g.set a.block none ++ [some ⟨y.b, y.sh + a.off, i.size, c2.length⟩]) := (Le.kill _ _).trans (Le.push _ _)
                    have hovr2 : VRL g old ((c2.drop (y.sh + a.off)).take (len * i.size)) := by
                      unfold cellsAt at hold
                      rw [hg] at hold
                      by_cases hn0 : len * i.size = 0
                      · rw [if_pos hn0] at hold
                        cases hold
                        rw [hn0, List.take_zero]
                        exact .nil
                      rw [if_neg hn0] at hold
                      have hold : (if a.off + len * i.size ≤ c.length then some ((c.drop a.off).take (len * i.size)) else none) = some old := hold
                      split at hold
                      · rename_i hl
                        cases hold
                        have := (f6.drop a.off).take (len * i.size)
                        rw [List.drop_take, List.drop_drop, List.take_take] at this
                        rw [show min (len * i.size) (c.length - a.off) = len * i.size from by omega] at this
                        exact this
                      · cases hold
                    have e1 : (old ++ new).length = len * i.size + new'.length := by rw [List.length_append, hol, hnr.length]
                    simp only [Nat.add_zero]
                    rw [e1, over_tail c2 (y.sh + a.off) (len * i.size) new' (by rw [hnl]; omega)]
                    exact (hovr2.mono hl2).append (hnr.mono hl2)
                · refine .osl (k := 0) rfl ?_ hrm (fun z hz => ?_)
                  · refine ⟨by simp [hr.len], fun z hz => ?_⟩
                    simp only [← hr.len] at hz
                    have : (g.set a.block none ++ [some (⟨y.b, y.sh + a.off, i.size, c2.length⟩ : GB)])[g.length]? = some (some ⟨y.b, y.sh + a.off, i.size, c2.length⟩) := by
                      rw [List.getElem?_append_right (by simp)]; simp
                    rw [this] at hz; cases hz; rfl
                  · simp only [← hr.len] at hz
                    have : (g.set a.block none ++ [some (⟨y.b, y.sh + a.off, i.size, c2.length⟩ : GB)])[g.length]? = some (some ⟨y.b, y.sh + a.off, i.size, c2.length⟩) := by
                      rw [List.getElem?_append_right (by simp)]; simp
                    rw [this] at hz; cases hz
                    simp only
                    omega
              · exact hgrow hrm _ _ hkill (Le.kill _ _)
            · cases ha
          · cases ha
  · cases ha

end
end Go.Vm
