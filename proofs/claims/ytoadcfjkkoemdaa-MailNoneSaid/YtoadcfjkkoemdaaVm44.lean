/- A small machine over an abstract heap: the front of a slice. -/
import Derived.Test.YtoadcfjkkoemdaaVm43
set_option linter.unusedSimpArgs false
set_option linter.unusedVariables false
namespace Go.Vm

/-- the front of a slice -/
theorem slice_to {h : Heap} {size : Nat} {v : Value} {c : List Value} {n : Nat} (ho : Own h size v c n) {e : Operand → Value} {hi : Operand} {j : Nat} {K : IntKind} (hhi : e hi = .int K j) (hj : j ≤ n) :
    ∃ v', sliceOf e size v none (some hi) none h = .ok v' h ∧ (∀ b, blockOf v' b → ownedBy v b) ∧ Rd h size v' (c.take (j * size)) j := by
  have ix : ∀ {lim : Nat} {K : IntKind} {i : Nat}, i ≤ lim → idx (lim + 1) (.int K i) = some i := fun hl => by rw [idx_in (by omega)]; simp
  cases ho with
  | none =>
    obtain rfl : j = 0 := by omega
    refine ⟨_, by simp only [sliceOf, bnd, hhi, ix (Nat.le_refl 0)]; rfl, fun b hb => by first | exact hb.elim | exact absurd rfl hb.2, ?_⟩
    simpa using Rd.nil
  | lit hq hg =>
    obtain rfl : j = 0 := by omega
    refine ⟨_, by simp only [sliceOf, bnd, hhi, ix (Nat.le_refl 0)]; rfl, fun b hb => by first | exact hb.elim | exact absurd rfl hb.2, ?_⟩
    simpa using Rd.nil
  | grown hq hn hle hl hl2 hg =>
    rename_i q k cap jj
    rw [List.length_append] at hl2
    have hca : cellsAt h q 0 (n * size) = some c := by
      rw [cellsAt_of (by rw [hg]; rfl) (by rw [List.length_append]; omega), List.drop_zero, ← hl, List.take_left]
    have hmul2 : j * size ≤ n * size := Nat.mul_le_mul_right _ hj
    refine ⟨.slice (some ⟨q, 0, some k⟩) j cap, by simp only [sliceOf, bnd, hhi, ix (show j ≤ cap by omega)]; rw [if_neg (by omega)]; simp, fun b hb => hb.1, ?_⟩
    refine Rd.mk hq ?_
    have := cellsAt_sub (k := 0) (m := j * size) hca (by omega)
    simpa using this

/-! ### What was handed in, taken apart -/

def fieldAt (P : Program) (t : TypeId) (i : Nat) : Option (Nat × TypeId) := match P.underlying t with
  | some (.struct fs) => fs[i]?.map fun f => (f.offset, f.type)
  | _ => none

theorem Fits.field {P : Program} {h : Heap} {m : Nat} {t : TypeId} {cs : List Value} (hv : Fits P h (m + 1) t cs) {i off : Nat} {ty : TypeId} (hf : fieldAt P t i = some (off, ty)) : Fits P h m ty ((cs.drop off).take (P.cellsOf ty)) := by
  unfold fieldAt at hf
  unfold Fits at hv
  split at hf
  · rename_i fs hu
    rw [hu] at hv
    obtain ⟨f, h1, h2⟩ := Option.map_eq_some_iff.1 hf
    cases h2
    exact hv.2 i f h1
  · cases hf
theorem Fits.len {P : Program} {h : Heap} {m : Nat} {t : TypeId} {cs : List Value} (hv : Fits P h (m + 1) t cs) {x : Nat × TypeId} (hf : fieldAt P t 0 = some x) : cs.length = P.cellsOf t := by
  unfold fieldAt at hf
  unfold Fits at hv
  split at hf
  · rename_i fs hu
    rw [hu] at hv
    exact hv.1
  · cases hf
theorem FitsV.agg {P : Program} {h : Heap} {m : Nat} {t : TypeId} {v : Value} (hv : FitsV P h m t v) {x : Nat × TypeId} (hf : fieldAt P t 0 = some x) : ∃ cs, v = .agg ⟨cs⟩ ∧ Fits P h m t cs := by
  unfold fieldAt at hf
  unfold FitsV at hv
  split at hf
  · rename_i fs hu
    rw [hu] at hv
    exact hv
  · cases hf
theorem Fits.str {P : Program} {h : Heap} {m : Nat} {t : TypeId} {cs : List Value} (hv : Fits P h (m + 1) t cs) (hu : P.underlying t = some .string) : ∃ s, cs = [.string s] ∧ s.size ≤ maxLen := by
  unfold Fits at hv; rw [hu] at hv; exact hv
theorem Fits.int {P : Program} {h : Heap} {m : Nat} {t : TypeId} {cs : List Value} {k : IntKind} (hv : Fits P h (m + 1) t cs) (hu : P.underlying t = some (.int k)) : ∃ x, cs = [.int k x] ∧ (Lit.int k x).wf = true := by
  unfold Fits at hv; rw [hu] at hv; exact hv
theorem FitsV.int {P : Program} {h : Heap} {m : Nat} {t : TypeId} {v : Value} {k : IntKind} (hv : FitsV P h (m + 1) t v) (hu : P.underlying t = some (.int k)) : ∃ x, v = .int k x ∧ (Lit.int k x).wf = true := by
  unfold FitsV at hv; rw [hu] at hv
  obtain ⟨x, h1, h2⟩ := hv.int hu
  injection h1 with h1 _
  exact ⟨x, h1, h2⟩
theorem FitsV.bool {P : Program} {h : Heap} {m : Nat} {t : TypeId} {v : Value} (hv : FitsV P h (m + 1) t v) (hu : P.underlying t = some .bool) : ∃ x, v = .bool x := by
  unfold FitsV at hv; rw [hu] at hv
  unfold Fits at hv; rw [hu] at hv
  obtain ⟨x, h1⟩ := hv
  injection h1 with h1 _
  exact ⟨x, h1⟩
theorem FitsAll.cons {P : Program} {h : Heap} {m : Nat} {t : TypeId} {ts : List TypeId} {vs : List Value} (hv : FitsAll P h m (t :: ts) vs) : ∃ v vs', vs = v :: vs' ∧ FitsV P h m t v ∧ FitsAll P h m ts vs' := by
  cases vs with
  | nil => exact hv.elim
  | cons v vs => exact ⟨v, vs, rfl, hv.1, hv.2⟩
theorem FitsAll.nil {P : Program} {h : Heap} {m : Nat} {vs : List Value} (hv : FitsAll P h m [] vs) : vs = [] := by
  cases vs with
  | nil => rfl
  | cons v vs => exact hv.elim
theorem wf_i64 {x : Int} (h : (Lit.int .i64 x).wf = true) : -9223372036854775808 ≤ x ∧ x ≤ 9223372036854775807 := by
  simp [Lit.wf, IntKind.min, IntKind.max, IntKind.signed, IntKind.bits] at h
  omega
theorem wf_u8 {x : Int} (h : (Lit.int .u8 x).wf = true) : 0 ≤ x ∧ x ≤ 255 := by
  simp [Lit.wf, IntKind.min, IntKind.max, IntKind.signed, IntKind.bits] at h
  omega
theorem vsplit (l : List Value) (a k : Nat) : l.drop a = (l.drop a).take k ++ l.drop (a + k) := by
  rw [← List.drop_drop, List.take_append_drop]

section
variable {P : Program} {T : Table} {ts ts' : List Value} {ds : List Deferred} {h h' : Heap} {rd : Option Nat} {op : AOp} {v : Value} {d : Nat} {chk : List (Option Nat × AOp × Option (Nat × Bool))} {pan : Bool} {rest : List AOper} {Q : QP} {F : Value → List Value}
theorem O.sliceTo {x hi : Operand} {size n : Nat} {c : List Value} {w : Value} {q : Int} {J : IntKind} (j : Nat) (ho : Own h size w c n) [e1 : Ev ts x w] [e3 : Ev ts hi (.int J q)] [s : LSetF ts d F] (hq : q = j) (hj : j ≤ n)
    (hk : ∀ v', (∀ b, blockOf v' b → ownedBy w b) → Rd h size v' (c.take (j * size)) j → RunO P T rest ⟨F v', ds, h, rd⟩ Q) : RunO P T (⟨some d, .sliceSl size x none (some hi) none, none, chk, pan⟩ :: rest) ⟨ts, ds, h, rd⟩ Q := by
  obtain ⟨v', hx, hbl, hr⟩ := slice_to (e := eval ts) (hi := hi) (K := J) ho (by rw [e3.eq, hq]) hj
  exact RunO.cons rfl (fun _ _ e => by cases e) (RunX.ok (h' := h) (v := v') (fun call => by rw [xo_plain rfl]; simp only [xop, e1.eq, hx]) (by
    show RunO P T rest ⟨lset ts d v', ds, h, rd⟩ Q
    rw [s.eq]; exact hk v' hbl hr))
end
end Go.Vm
