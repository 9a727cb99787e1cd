/- A small machine over an abstract heap: a loop over a function. -/
import Derived.Test.YtoadcfjkkoemdaaVm20
set_option linter.unusedSimpArgs false
namespace Go.Vm
open Go.RowKit

section
variable {P : Program} {B : Nat} {w0 : World} {ro : Option Nat} {n : Nat}

theorem lapS_ts (s : St) : (lapS s).ts = s.ts := by unfold lapS; split <;> rfl
theorem lapS_rd (s : St) : (lapS s).rd = s.rd := by unfold lapS; split <;> rfl

theorem run_getLoop {w : World} {l : Nat} {r : Loop} (h : w.heap[l]? = some (.loop r)) : (Instr.getLoop l).run P w = .ok r w := by
  simp [Instr.getLoop, getObj, Sem.run, h]

theorem lap_enter {fn : FuncId} {ps : Array Tmp} {as b : Code} {g : Gh} {s : St} {a : Act} {w : World} (hr : Rel ro B w0 g s a w) (hok : lapOK s = true) :
    ∃ l mark w₁ g₁, (Instr.enterLoop fn a.tmps ps as b ro).run P w = .ok (l, mark) w₁ ∧ Le g g₁ ∧ HR g₁ ((lapH s).push (.loop .ready none s.ts ps.toList as b)) B w0 w₁ ∧ BR g₁ (lapH s).n l ∧ DRL g₁ (lapS s).ds (mark ++ a.defers) := by
  have hrd := hr.rd
  cases hs : s.rd with
  | none =>
    rw [hs] at hrd
    cases ro with
    | some l => simp [MR] at hrd
    | none =>
      have h1 := hr.hr.push (o := .defs false) (o' := .deferred (some [])) (es := 0) (tot := 0) ⟨by simp, rfl⟩
      have hl1 : Le g (g ++ [some ⟨w.heap.size, 0, 0, 0⟩]) := Le.push _ _
      have h2 := h1.push (o := .loop .ready none s.ts ps.toList as b) (o' := .loop { state := .ready, pending := none, fn, tmps := a.tmps, params := ps, assign := as, body := b, defers := w.heap.size }) (es := 0) (tot := 0)
        ⟨fn, a.tmps, w.heap.size, Array.getElem?_push_size, (hr.ts.mono hl1).mono (Le.push _ _), rfl⟩
      have hH : lapH s = s.h.push (.defs false) := by simp only [lapH, hs]
      have hS : (lapS s).ds = { target := .collected s.h.n, args := #[] } :: s.ds := by simp only [lapS, hs]
      rw [hH, hS]
      refine ⟨w.heap.size + 1, [{ target := .collected w.heap.size, args := #[] }], _, _, ?_, hl1.trans (Le.push _ _), h2, ?_, ?_⟩
      · simp [Instr.enterLoop, Sem.run_bind]
        rfl
      · have hlen := hr.hr.len
        exact ⟨by simp [hlen], fun x hx => by simp [← hlen] at hx; subst hx; simp⟩
      · refine .cons (.inr ⟨_, _, rfl, rfl, ?_⟩) ((hr.ds.mono hl1).mono (Le.push _ _))
        have hlen := hr.hr.len
        exact ⟨by simp [hlen], fun x hx => by simp [← hlen] at hx; subst hx; rfl⟩
  | some r0 =>
    rw [hs] at hrd
    cases ro with
    | none => simp [MR] at hrd
    | some l0 =>
      have hrd : BR g r0 l0 := hrd
      simp only [lapOK, hs] at hok
      split at hok
      · rename_i st pend ts1 ps1 as1 b1 hget
        obtain ⟨x, hx, f1, ts1', d1, hob, _, _⟩ := hr.hr.of_obj hget (by simp)
        obtain rfl := hrd.2 x hx
        have h2 := hr.hr.push (o := .loop .ready none s.ts ps.toList as b) (o' := .loop { state := .ready, pending := none, fn, tmps := a.tmps, params := ps, assign := as, body := b, defers := d1 }) (es := 0) (tot := 0)
          ⟨fn, a.tmps, d1, by simp, hr.ts.mono (Le.push _ _), rfl⟩
        have hH : lapH s = s.h := by simp only [lapH, hs]
        have hS : (lapS s).ds = s.ds := by simp only [lapS, hs]
        rw [hH, hS]
        refine ⟨w.heap.size, [], _, _, ?_, Le.push _ _, h2, ?_, hr.ds.mono (Le.push _ _)⟩
        · simp [Instr.enterLoop, run_getLoop hob, Sem.run_bind]
        · have hlen := hr.hr.len
          exact ⟨by simp [hlen], fun x hx => by simp [← hlen] at hx; subst hx; rfl⟩
      · cases hok

theorem lap_sound {call : Caller} (hcall : CallOK P call) {L : Nat} {f : Operand} {ps : Array Tmp} {as b : Code} (hok : okOpd f = true) {g0 g : Gh} {s : St} {a : Act} {w : World} {Q : Exit → Act → World → Prop} (hr : Rel ro B w0 g s a w) (hl : Le g0 g)
    (hg : Good (xc P call L (.rangeFunc f ps.toList as b) s)) (hQ : ∀ e a w, Post ro B w0 g0 (xc P call L (.rangeFunc f ps.toList as b) s) e a w → Q e a w) : (Code.rangeFunc f ps as b).wpIn (FR ro) n P Q a w := by
  simp only [xc] at hg hQ
  cases hlap : lapOK s with
  | false => rw [hlap] at hg; exact absurd rfl (hg .bad (by simp))
  | true =>
    rw [hlap] at hg hQ
    simp only [Bool.true_eq_false, if_false] at hg hQ
    split at hg
    · rename_i fid first captured hev
      rw [hev] at hQ
      simp only at hQ
      refine wpIn_rangeFunc fun fn _ => ?_
      obtain ⟨l, mark, w₁, g₁, henter, hle, hhr, hbr, hdr⟩ := lap_enter (P := P) (fn := fn) (ps := ps) (as := as) (b := b) hr hlap
      have hv := eval_vr hr.hr hr.ts f
      rw [eval_ok hok, hev] at hv
      obtain ⟨first', captured', hf', v1, v2⟩ := hv.func_inv
      have hgc : ∀ co ∈ call (.fn fid) (first ++ [.func (.yield (lapH s).n) #[] #[]] ++ captured) ((lapH s).push (.loop .ready none s.ts ps.toList as b)), co ≠ .bad := fun co hm hb => by
        subst hb
        exact hg .bad (List.mem_flatMap.2 ⟨.bad, hm, List.mem_singleton.2 rfl⟩) rfl
      have hargs : VRL g₁ (first ++ [.func (.yield (lapH s).n) #[] #[]] ++ captured) (first' ++ [.func (.yield l) #[] #[]] ++ captured') :=
        ((v1.mono hle).append (.cons (.yield hbr) .nil)).append (v2.mono hle)
      obtain ⟨hfn, hc⟩ := hcall.2 fid _ _ g₁ _ B w0 w₁ hhr hargs hgc
      have hres : (resolve a.eval (rangeCall f l) 0).run P w₁ = .ok { target := .fn (.func fid) ⟨captured'⟩, args := ⟨first'⟩ ++ #[.func (.yield l) #[] #[]] } w₁ := by
        have hy : a.eval (.const (.func (.yield l) #[] #[])) = .func (.yield l) #[] #[] := rfl
        simp [resolve, rangeCall, hf', Deferred.ofValue, hy]
      have hinv : (invoke (.fn (.func fid) ⟨captured'⟩) (⟨first'⟩ ++ #[.func (.yield l) #[] #[]])).run P w₁ = .ok (.enter fid ⟨first' ++ [.func (.yield l) #[] #[]] ++ captured'⟩) w₁ := by
        simp only [invoke]
        rw [show ((⟨first'⟩ : Array Value) ++ #[.func (.yield l) #[] #[]] ++ ⟨captured'⟩ : Array Value) = ⟨first' ++ [.func (.yield l) #[] #[]] ++ captured'⟩ from by apply Array.ext'; simp]
        exact callFunc_run hfn _ _
      have hpost : ∀ e w₃, CPost B w0 g₁ (call (.fn fid) (first ++ [.func (.yield (lapH s).n) #[] #[]] ++ captured) ((lapH s).push (.loop .ready none s.ts ps.toList as b))) e w₃ → rangePost (FR ro) n P l Q { a with defers := mark ++ a.defers } e w₃ := ?_
      · exact ⟨l, mark, w₁, _, w₁, fid, _, w₁, henter, hres, fun _ _ => trivial, hinv, (fun h => by cases h), callsIn_fr (hc.mono hpost)⟩
      · intro e w₃ he
        cases e with
        | returned v =>
          obtain ⟨g', u, h', hm, hle', hr', _⟩ := he
          have hsub : ∀ o ∈ lapOut (lapH s).n (lapS s) (.ret u h'), o ≠ .bad := fun o ho => hg o (List.mem_flatMap.2 ⟨_, hm, ho⟩)
          have hQ2 : ∀ e a w, Post ro B w0 g0 (lapOut (lapH s).n (lapS s) (.ret u h')) e a w → Q e a w := fun e a w hp => hQ e a w (by
            obtain ⟨g2, e2, s2, hm2, r⟩ := hp
            exact ⟨g2, e2, s2, List.mem_flatMap.2 ⟨_, hm, hm2⟩, r⟩)
          simp only [lapOut] at hsub hQ2
          split at hsub
          · rename_i st pend ts1 ps1 as1 b1 hget
            rw [hget] at hQ2
            simp only at hQ2
            by_cases hst : st = .busy
            · rw [if_pos hst] at hsub; exact absurd rfl (hsub .bad (by simp))
            rw [if_neg hst] at hsub hQ2
            obtain ⟨x, hx, f1, ts1', d1, hob, hts1, hsh⟩ := hr'.of_obj hget (by simp)
            obtain rfl := (hbr.mono hle').2 x hx
            have hend : (Instr.endLoop x.b).run P w₃ = .ok pend (withBlock w₃ x.b (.loop { state := .exhausted, pending := pend, fn := f1, tmps := ts1', params := ⟨ps1⟩, assign := as1, body := b1, defers := d1 })) := by
              have hb : (st == LoopState.busy) = false := by cases st <;> first | rfl | exact absurd rfl hst
              simp only [Instr.endLoop, Sem.run_bind, run_getLoop hob, Result.andThen_ok, hb, Bool.false_eq_true, if_false]
              rw [run_setObj hob (by simp)]
              simp
            have hhr' : HR g' (h'.set (lapH s).n (.loop .exhausted pend ts1 ps1 as1 b1)) B w0 (withBlock w₃ x.b (.loop { state := .exhausted, pending := pend, fn := f1, tmps := ts1', params := ⟨ps1⟩, assign := as1, body := b1, defers := d1 })) := by
              refine hr'.set hx (by rw [hget]; rfl) rfl rfl rfl rfl ⟨f1, ts1', d1, ?_, hts1, hsh⟩
              rw [heap_withBlock hob]
            have hrel : Rel ro B w0 g' { lapS s with h := h'.set (lapH s).n (.loop .exhausted pend ts1 ps1 as1 b1) } { a with defers := mark ++ a.defers } (withBlock w₃ x.b (.loop { state := .exhausted, pending := pend, fn := f1, tmps := ts1', params := ⟨ps1⟩, assign := as1, body := b1, defers := d1 })) :=
              ⟨hhr', by simp only [lapS_ts]; exact (hr.ts.mono hle).mono hle', hdr.mono hle', by simp only [lapS_rd]; exact (hr.rd.mono hle).mono hle'⟩
            refine ⟨pend, _, hend, ?_⟩
            cases pend with
            | none => exact hQ2 _ _ _ ⟨g', .normal, _, List.mem_singleton.2 rfl, (hl.trans hle).trans hle', trivial, hrel⟩
            | some c =>
              cases c with
              | ret => exact wpIn_ret (hQ2 _ _ _ ⟨g', .ret, _, List.mem_singleton.2 rfl, (hl.trans hle).trans hle', trivial, hrel⟩)
              | exit id => exact wpIn_exit (hQ2 _ _ _ ⟨g', .exit id, _, List.mem_singleton.2 rfl, (hl.trans hle).trans hle', rfl, hrel⟩)
              | _ => exact absurd rfl (hsub .bad (by simp))
          · exact absurd rfl (hsub .bad (by simp))
        | panicked c =>
          obtain ⟨g', c1, h', hm, hle', hr', hch⟩ := he
          exact hQ _ _ _ ⟨g', .panic c1, { lapS s with h := h' }, List.mem_flatMap.2 ⟨_, hm, by simp [lapOut]⟩, (hl.trans hle).trans hle', hch, hr', by simp only [lapS_ts]; exact (hr.ts.mono hle).mono hle', hdr.mono hle', by simp only [lapS_rd]; exact (hr.rd.mono hle).mono hle'⟩
        | outgrown => exact he.elim
    · exact absurd rfl (hg .bad (by simp))

end
end Go.Vm
