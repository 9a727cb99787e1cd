/- Contracts of functions, over the machine. -/
import Derived.Test.YtlckmpioipiihaaGreatQCrossActs4
set_option linter.unusedSimpArgs false
noncomputable section
namespace Go.Proofs.YtlckmpioipiihaaGreat.A
open Go.Proofs.YtlckmpioipiihaaGreat.K
open Go Go.Vm
set_option maxRecDepth 100000
set_option linter.unusedVariables false
theorem ints_fit {h : Heap} {m : Nat} {te : TypeId} (hu : Tryz.prog.underlying te = some (.int .i64)) : ∀ (len : Nat) (c : List Value), c.length = len → (∀ i, i < len → Fits Tryz.prog h (m + 1) te ((c.drop (i * 1)).take 1)) → ∃ l : List Int, c = ncells l ∧ l.length = len
  | 0, c, hl, _ => ⟨[], by simpa [ncells] using hl, rfl⟩
  | len + 1, v :: c, hl, hall => by
    have h0 := hall 0 (by omega)
    unfold Fits at h0
    rw [hu] at h0
    obtain ⟨x, hx, _⟩ := h0
    simp only [Nat.zero_mul, List.drop_zero, List.take_succ_cons, List.take_zero] at hx
    injection hx with hx _
    obtain ⟨l, e1, e2⟩ := ints_fit hu len c (by simpa using hl) fun i hi => by
      have := hall (i + 1) (by omega)
      simpa [Nat.add_mul] using this
    exact ⟨x :: l, by rw [hx, e1]; rfl, by simp [e2]⟩
theorem fits_ints {h : Heap} {m : Nat} {t te : TypeId} {v : Value} (ht : Tryz.prog.underlying t = some (.slice te)) (hu : Tryz.prog.underlying te = some (.int .i64)) (hs : Tryz.prog.cellsOf te = 1) (hv : FitsV Tryz.prog h (m + 2) t v) : ∃ l : List Int, Rd h 1 v (ncells l) l.length := by
  unfold FitsV at hv
  rw [ht] at hv
  unfold Fits at hv
  rw [ht] at hv
  rcases hv with hv | ⟨b, len, cap, c, hv, hb, hlc, hcap, hro, hl, hall⟩
  · injection hv with hv
    subst hv
    exact ⟨[], Rd.nil⟩
  · injection hv with hv
    subst hv
    rw [hs] at hl hall
    obtain ⟨l, rfl, hbl⟩ := ints_fit hu len c (by omega) hall
    have hl2 : (ncells l).length = l.length := by simp [ncells]
    refine ⟨l, _, _, by rw [hbl], by rw [hl2]; omega, fun hn => ⟨b, 0, none, rfl, hb, ?_⟩⟩
    rw [cellsAt_of (c := ncells l) (by rw [hro (by omega)]; rfl) (by rw [hl2]; omega), List.drop_zero, List.take_of_length_le (by rw [hl2]; omega)]
theorem fits_actsV {h : Heap} {t te : TypeId} {v : Value} (ht : Tryz.prog.underlying t = some (.slice te)) (f0 : fieldAt Tryz.prog te 0 = some (0, 3)) (f1 : fieldAt Tryz.prog te 1 = some (1, 3)) (f2 : fieldAt Tryz.prog te 2 = some (2, 31)) (ui : Tryz.prog.underlying 3 = some (.int .i64)) (ci : Tryz.prog.cellsOf 3 = 1) (cb : Tryz.prog.cellsOf 31 = 166) (ce : Tryz.prog.cellsOf te = 168) (hv : FitsV Tryz.prog h 8 t v) :
    ∃ l : List AC, Rd h 168 v (acells l) l.length ∧ ∀ a ∈ l, BkRd h a.b a.sv a.sl := by
  unfold FitsV at hv
  rw [ht] at hv
  obtain ⟨v', l, e, h1, h2⟩ := fits_acts (n := 0) ht f0 f1 f2 ui ci cb ce hv
  injection e with e _
  subst e
  exact ⟨l, h1, h2⟩
theorem CrossActs_run (h : Heap) (vs : List Value) (hf : FitsAll Tryz.prog h 8 [31, 32, 33] vs) : Runs Tryz.prog T0 (.fn fn_zccQ) vs h (fun r _ => r = .bool true) (fun _ _ => False) := by
  obtain ⟨v1, _, rfl, h1, hf⟩ := hf.cons
  obtain ⟨v2, _, rfl, h2, hf⟩ := hf.cons
  obtain ⟨v3, _, rfl, h3, hf⟩ := hf.cons
  obtain rfl := hf.nil
  have b0 : fieldAt Tryz.prog 31 0 = some (0, 25) := by kernel_rfl
  obtain ⟨cs, rfl, hc⟩ := FitsV.agg h1 b0
  obtain ⟨x, sv, sl, rfl, hx⟩ := fits_bkM (n := 2) hc
  obtain ⟨is, hi⟩ := fits_ints (m := 6) (te := 3) (by kernel_rfl) (by kernel_rfl) (by kernel_rfl) h2
  obtain ⟨l, hl, hl2⟩ := fits_actsV (te := 51) (by kernel_rfl) (by kernel_rfl) (by kernel_rfl) (by kernel_rfl) (by kernel_rfl) (by kernel_rfl) (by kernel_rfl) (by kernel_rfl) h3
  exact CrossActs_true hx hi hl hl2
end Go.Proofs.YtlckmpioipiihaaGreat.A

namespace Go.Proofs.YtlckmpioipiihaaGreat.A
open Go Go.Vm
set_option maxRecDepth 100000
theorem ran_6 : allTrue (xcall Tryz.prog R.tab 1000 60 (.fn 6) [] Heap.init) = true := by kernel_rfl
theorem has_6 : (tableOf Tryz.prog 6).isSome = true := by kernel_rfl
theorem known : KnownAll Tryz.prog prims := ⟨⟨Option.isSome_iff_exists.1 has_6, fun w => known_calls (Checked.mixed Tryz.checked) R.tab_ok ran_6 w⟩, trivial⟩
theorem T0_ok : TableOK Tryz.prog T0 := withKept_ok (withTrue_ok known) fun k hk => by simp at hk
end Go.Proofs.YtlckmpioipiihaaGreat.A
