/- CrossNone: the block that is handed in. -/
import Derived.Test.YtlckmpioipiihaaXN3
namespace Go.Proofs.Ytlckmpioipiihaa.A
open Go Go.Vm
set_option maxRecDepth 10000
set_option linter.unusedVariables false

theorem cut_at (l : List Value) (a n : Nat) : l.drop a = (l.drop a).take n ++ l.drop (a + n) := by
  rw [← List.drop_drop]; exact (List.take_append_drop n _).symm
theorem one_at (l : List Value) (a : Nat) {v : Value} (h : l[a]? = some v) : (l.drop a).take 1 = [v] := by
  obtain ⟨ha, e⟩ := List.getElem?_eq_some_iff.1 h
  rw [List.drop_eq_getElem_cons ha, e]; rfl
theorem len32 (l : List Value) (a : Nat) (h : a + 32 ≤ l.length) : ((l.drop a).take 32).length = 32 := by
  rw [List.length_take, List.length_drop]; omega
theorem part_get {l : List Value} {a b c d : Nat} {v : Value} (hd : 0 < d) (hb : c < b) (h : (((l.drop a).take b).drop c).take d = [v]) : l[a + c]? = some v := by
  have := congrArg (fun l : List Value => l[0]?) h
  simpa [List.getElem?_take, List.getElem?_drop, hd, hb] using this
theorem slice_fit {h : Heap} {m : Nat} {t te : TypeId} {cs : List Value} (hv : Fits Try.prog h (m + 1) t cs) (hu : Try.prog.underlying t = some (.slice te)) : ∃ a n c, cs = [.slice a n c] := by
  unfold Fits at hv
  rw [hu] at hv
  rcases hv with hv | ⟨b, len, cap, c, hv, _⟩
  · exact ⟨_, _, _, hv⟩
  · exact ⟨_, _, _, hv⟩
theorem block_form (l : List Value) (h : l.length = 166) {v0 sv sl : Value} (h0 : l[0]? = some v0) (h164 : l[164]? = some sv) (h165 : l[165]? = some sl) :
    ∃ v1 v2 v7 L3 L4 L5 L6 L8, L3.length = 32 ∧ L4.length = 32 ∧ L5.length = 32 ∧ L6.length = 32 ∧ L8.length = 32 ∧ l = v0 :: v1 :: v2 :: (L3 ++ (L4 ++ (L5 ++ (L6 ++ (v7 :: (L8 ++ [sv, sl])))))) := by
  have e1 := one_at l 1 (List.getElem?_eq_getElem (by omega))
  have e2 := one_at l 2 (List.getElem?_eq_getElem (by omega))
  have e7 := one_at l 131 (List.getElem?_eq_getElem (by omega))
  refine ⟨l[1], l[2], l[131], _, _, _, _, _, len32 l 3 (by omega), len32 l 35 (by omega), len32 l 67 (by omega), len32 l 99 (by omega), len32 l 132 (by omega), ?_⟩
  have c0 := cut_at l 0 1
  rw [one_at l 0 h0, List.drop_zero] at c0
  have c1 := cut_at l (0 + 1) 1
  have c2 := cut_at l (0 + 1 + 1) 1
  have c3 := cut_at l (0 + 1 + 1 + 1) 32
  have c4 := cut_at l (0 + 1 + 1 + 1 + 32) 32
  have c5 := cut_at l (0 + 1 + 1 + 1 + 32 + 32) 32
  have c6 := cut_at l (0 + 1 + 1 + 1 + 32 + 32 + 32) 32
  have c7 := cut_at l (0 + 1 + 1 + 1 + 32 + 32 + 32 + 32) 1
  have c8 := cut_at l (0 + 1 + 1 + 1 + 32 + 32 + 32 + 32 + 1) 32
  have c9 := cut_at l (0 + 1 + 1 + 1 + 32 + 32 + 32 + 32 + 1 + 32) 1
  have c10 := cut_at l (0 + 1 + 1 + 1 + 32 + 32 + 32 + 32 + 1 + 32 + 1) 1
  have c11 : l.drop (0 + 1 + 1 + 1 + 32 + 32 + 32 + 32 + 1 + 32 + 1 + 1) = [] := List.drop_eq_nil_of_le (by omega)
  rw [show 0 + 1 = 1 from rfl, e1] at c1
  rw [show 0 + 1 + 1 = 2 from rfl, e2] at c2
  rw [show 0 + 1 + 1 + 1 + 32 + 32 + 32 + 32 = 131 from rfl, e7] at c7
  rw [show 0 + 1 + 1 + 1 + 32 + 32 + 32 + 32 + 1 + 32 = 164 from rfl, one_at l 164 h164] at c9
  rw [show 0 + 1 + 1 + 1 + 32 + 32 + 32 + 32 + 1 + 32 + 1 = 165 from rfl, one_at l 165 h165] at c10
  simp only [Nat.zero_add, Nat.reduceAdd] at c0 c1 c2 c3 c4 c5 c6 c7 c8 c9 c10 c11
  rw [c11] at c10
  rw [c10] at c9
  rw [c9] at c8
  rw [c8] at c7
  rw [c7] at c6
  rw [c6] at c5
  rw [c5] at c4
  rw [c4] at c3
  rw [c3] at c2
  rw [c2] at c1
  rw [c1] at c0
  simpa using c0
theorem fits_block {h : Heap} {v : Value} (hv : FitsV Try.prog h 8 31 v) : ∃ l s a n c b m d, v = .agg ⟨l⟩ ∧ l.length = 166 ∧ l[0]? = some (.string s) ∧ l[164]? = some (.slice a n c) ∧ l[165]? = some (.slice b m d) := by
  have f0 : fieldAt Try.prog 31 0 = some (0, 25) := by kernel_rfl
  have f1 : fieldAt Try.prog 31 1 = some (131, 28) := by kernel_rfl
  have f2 : fieldAt Try.prog 31 2 = some (165, 29) := by kernel_rfl
  have g0 : fieldAt Try.prog 25 0 = some (0, 9) := by kernel_rfl
  have g2 : fieldAt Try.prog 28 2 = some (33, 26) := by kernel_rfl
  have k30 : Try.prog.cellsOf 25 = 131 := by kernel_rfl
  have k33 : Try.prog.cellsOf 28 = 34 := by kernel_rfl
  have k36 : Try.prog.cellsOf 31 = 166 := by kernel_rfl
  have k9 : Try.prog.cellsOf 9 = 1 := by kernel_rfl
  have k31 : Try.prog.cellsOf 26 = 1 := by kernel_rfl
  have k34 : Try.prog.cellsOf 29 = 1 := by kernel_rfl
  have u9 : Try.prog.underlying 9 = some .string := by kernel_rfl
  have u31 : Try.prog.underlying 26 = some (.slice 87) := by kernel_rfl
  have u34 : Try.prog.underlying 29 = some (.slice 81) := by kernel_rfl
  obtain ⟨l, rfl, hl⟩ := hv.agg f0
  have hn := hl.len f0
  rw [k36] at hn
  obtain ⟨s, e0, _⟩ := ((hl.field f0).field g0).str u9
  obtain ⟨a, n, c, e1⟩ := slice_fit ((hl.field f1).field g2) u31
  obtain ⟨b, m, d, e2⟩ := slice_fit (hl.field f2) u34
  rw [k30, k9] at e0
  rw [k33, k31] at e1
  rw [k34] at e2
  have p0 := part_get (by omega) (by omega) e0
  have p1 := part_get (by omega) (by omega) e1
  have p2 := congrArg (fun l : List Value => l[0]?) e2
  simp [List.getElem?_drop] at p2
  exact ⟨l, s, a, n, c, b, m, d, rfl, hn, p0, p1, p2⟩
end Go.Proofs.Ytlckmpioipiihaa.A
