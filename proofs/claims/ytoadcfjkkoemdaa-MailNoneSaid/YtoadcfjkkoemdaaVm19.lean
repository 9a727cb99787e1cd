/- A small machine over an abstract heap: a map's next entry; one operation, all kinds. -/
import Derived.Test.YtoadcfjkkoemdaaVm18
set_option linter.unusedSimpArgs false
namespace Go.Vm
open Go.RowKit

theorem ERL.filter {g : Gh} (p : Nat → Bool) : ∀ {l l' : List MapEntry}, ERL g l l' → ERL g (l.filter fun e => p e.born) (l'.filter fun e => p e.born)
  | _, _, .nil => .nil
  | _, _, .cons h t => by
    simp only [List.filter_cons, h.2.2]
    split
    · exact .cons h (ERL.filter p t)
    · exact ERL.filter p t

theorem ERL.get {g : Gh} : ∀ {l l' : List MapEntry}, ERL g l l' → ∀ {i : Nat} {e' : MapEntry}, l'[i]? = some e' → ∃ e, l[i]? = some e ∧ ER g e e'
  | _, _, .nil, i, e', h => by simp at h
  | _, _, .cons he _, 0, e', h => by simp at h; subst h; exact ⟨_, by simp, he⟩
  | _, _, .cons _ ht, i + 1, e', h => by simp at h ⊢; exact ERL.get ht h

theorem ERL.all {g : Gh} (p : Nat → Bool) : ∀ {l l' : List MapEntry}, ERL g l l' → l'.all (fun e => p e.born) = l.all fun e => p e.born
  | _, _, .nil => rfl
  | _, _, .cons h t => by simp only [List.all_cons, h.2.2, ERL.all p t]

theorem ERL.isEmpty {g : Gh} : ∀ {l l' : List MapEntry}, ERL g l l' → l'.isEmpty = l.isEmpty
  | _, _, .nil => rfl
  | _, _, .cons _ _ => rfl

section
variable {P : Program} {o : Oper} {op : AOp} {g : Gh} {h : Heap} {B : Nat} {w0 w : World} {ts : List Value} {a a1 : Act} {K : Act → World → Prop} {Q : Exit → Act → World → Prop}

theorem nextMap_wp (hae : execOp a.eval o = execOp a1.eval o) {it : Operand} (ho : o.op = .next it false) (hok : o.op.operands.toList.all okOpd = true) (hr : HR g h B w0 w) (hts : VRL g ts a1.tmps.toList) {l : List (Value × Heap)} (hl : nextAt h (eval ts it) = some l)
    (how : Owes B w0 g o a K Q (l.map fun p => .ret p.1 p.2)) : o.wp P a w K Q := by
  have hiv := eval_vr hr hts it
  have hex := hae.trans (exec_eval (a := a1) hok (fun cs b => by simp [ho]))
  have hrun : ∀ w, (execOp (eval' a1) o).run P w = ((Instr.next (eval' a1 it) false o.type).run P w).andThen fun v w' => .ok (.value v) w' := fun w => by
    simp only [execOp, ho, Sem.run_bind]; rfl
  have hK : ∀ v h', (v, h') ∈ l → ∀ g' v' w', Le g g' → HR g' h' B w0 w' → VR g' v v' → K (a.put o.dst v') w' := fun v h' hm => how.ret v h' (List.mem_map.2 ⟨_, hm, rfl⟩)
  unfold Oper.wp
  rw [hex, hrun]
  unfold nextAt at hl
  split at hl
  · rename_i r hit
    rw [hit] at hiv
    obtain ⟨a', hit', har⟩ := hiv.pointer
    rw [hit']
    split at hl
    · rename_i since seen last hg
      cases hl
      obtain ⟨x, hx, m', hob, hmr, hsh⟩ := hr.of_obj hg (by simp)
      have ha' := har.2 x hx
      simp only [hsh, Nat.add_zero] at ha'
      subst ha'
      cases m' with
      | some m' => simp [MR] at hmr
      | none =>
        have hget : (getObj x.b).run P w = .ok (.mapIter none since ⟨seen⟩ last) w := by simp [getObj, Sem.run, hob]
        simp only [Instr.next, Sem.run_bind, hget, Result.andThen_ok, Sem.run_pure]
        exact hK _ _ (by simp) g _ w (Le.refl _) hr (.gr (by simp [ground, groundA, groundL]))
    · rename_i m since seen last hg
      split at hl
      · rename_i es clock hgm
        split at hl
        · cases hl
        rename_i hun
        cases hl
        obtain ⟨x, hx, m', hob, hmr, hsh⟩ := hr.of_obj hg (by simp)
        have ha' := har.2 x hx
        simp only [hsh, Nat.add_zero] at ha'
        subst ha'
        cases m' with
        | none => simp [MR] at hmr
        | some m' =>
        have hmr : BR g m m' := hmr
        obtain ⟨y, es', hy, hyb, hmo, her, _⟩ := hr.of_map hgm hmr
        have hget : (getObj x.b).run P w = .ok (.mapIter (some m') since ⟨seen⟩ last) w := by simp [getObj, Sem.run, hob]
        have hun' : ¬ ((!(⟨seen⟩ : Array Nat).isEmpty && !(⟨es'⟩ : Array MapEntry).isEmpty && (⟨es'⟩ : Array MapEntry).all fun e => decide (e.born ≥ last)) = true) := by
          have e1 := her.all (fun b => decide (b ≥ last))
          have e2 := her.isEmpty
          simp only [List.isEmpty_toArray, List.all_toArray] at *
          rw [e1, e2]; exact hun
        simp only [Instr.next, Sem.run_bind, hget, Result.andThen_ok, run_getObj_map hmo]
        rw [if_neg hun']
        simp only [Sem.run_bind]
        -- the candidates, here and there
        generalize hleft' : (⟨es'⟩ : Array MapEntry).filter (fun e => !(⟨seen⟩ : Array Nat).contains e.born) = left'
        have hl1 : left' = ⟨es'.filter fun e => !seen.contains e.born⟩ := by rw [← hleft']; apply Array.ext'; simp
        subst hl1
        have hlr := her.filter (fun b => !seen.contains b)
        generalize hold' : Array.filter (fun x => decide (x.born < since)) (⟨es'.filter fun e => !seen.contains e.born⟩ : Array MapEntry) = old'
        have ho1 : old' = ⟨(es'.filter fun e => !seen.contains e.born).filter fun e => decide (e.born < since)⟩ := by rw [← hold']; apply Array.ext'; simp
        subst ho1
        generalize hnew' : Array.filter (fun x => decide (x.born ≥ since)) (⟨es'.filter fun e => !seen.contains e.born⟩ : Array MapEntry) = new'
        have hn1 : new' = ⟨(es'.filter fun e => !seen.contains e.born).filter fun e => decide (e.born ≥ since)⟩ := by rw [← hnew']; apply Array.ext'; simp
        subst hn1
        have hor := hlr.filter (fun b => decide (b < since))
        have hnr := hlr.filter (fun b => decide (b ≥ since))
        clear hold' hnew' hleft' hun'
        generalize (es.filter fun e => !seen.contains e.born).filter (fun e => decide (e.born < since)) = old at *
        generalize (es'.filter fun e => !seen.contains e.born).filter (fun e => decide (e.born < since)) = old' at *
        generalize (es.filter fun e => !seen.contains e.born).filter (fun e => decide (e.born ≥ since)) = new at *
        generalize (es'.filter fun e => !seen.contains e.born).filter (fun e => decide (e.born ≥ since)) = new' at *
        have hoe := hor.isEmpty
        have hcomb := hor.append hnr
        generalize hcd : ((if (⟨old'⟩ : Array MapEntry).isEmpty = true then #[none] else #[]) ++ ((⟨old'⟩ : Array MapEntry) ++ ⟨new'⟩).map some : Array (Option MapEntry)) = cd
        have hcd' : cd.toList = (if old'.isEmpty then [none] else []) ++ (old' ++ new').map some := by
          rw [← hcd]; simp; split <;> simp_all
        -- whichever comes up
        have main : ∀ (k : Nat) (w' : World), HR g h B w0 w' → w'.heap = w.heap → k < cd.size →
            Oper.upon P o a K Q (((match cd[k]? with
              | some (some e) => do
                setObj x.b (.mapIter (some m') since ((⟨seen⟩ : Array Nat).push e.born) clock)
                pure (.tuple #[.bool true, e.key, e.val])
              | some none => pure (.tuple #[.bool false])
              | none => stuck "Next: no such candidate" : Sem Value).run P w').andThen fun v w' => .ok (.value v) w') := by
          intro k w' hr' hw' hk
          have hob' : w'.heap[x.b]? = some (.mapIter (some m') since ⟨seen⟩ last) := by rw [hw']; exact hob
          have hkl : cd[k]? = some (cd[k]'hk) := by simp [hk]
          rw [hkl]
          have hck : cd.toList[k]? = some cd[k] := by simp
          rw [hcd'] at hck
          cases hval : cd[k] with
          | none =>
            rw [hval] at hck
            simp only [Sem.run_pure, Result.andThen_ok]
            have hemp : old.isEmpty = true := by
              by_cases hh : old'.isEmpty = true
              · rw [← hoe]; exact hh
              · exfalso
                rw [if_neg hh, List.nil_append, List.getElem?_map] at hck
                obtain ⟨q, _, hq⟩ := Option.map_eq_some_iff.1 hck
                cases hq
            exact hK (.tuple #[.bool false]) h (by simp [hemp]) g _ w' (Le.refl _) hr' (.gr (by simp [ground, groundA, groundL]))
          | some e' =>
            rw [hval] at hck
            have hset := run_setObj (P := P) (o' := .mapIter (some m') since ((⟨seen⟩ : Array Nat).push e'.born) clock) hob' (by simp)
            simp only [Sem.run_bind, hset, Result.andThen_ok, Sem.run_pure]
            have hfind : ∃ i : Nat, (old' ++ new')[i]? = some e' := by
              have hmem := List.mem_of_getElem? hck
              rcases List.mem_append.1 hmem with h1 | h1
              · exfalso; split at h1 <;> simp at h1
              · obtain ⟨q, hq, hq2⟩ := List.mem_map.1 h1
                cases hq2
                exact List.mem_iff_getElem?.1 hq
            obtain ⟨i, hi⟩ := hfind
            obtain ⟨e, hei, her'⟩ := hcomb.get hi
            refine hK (.tuple #[.bool true, e.key, e.val]) (h.set r (.mapIter (some m) since (seen ++ [e.born]) clock)) ?_ g _ _ (Le.refl _) ?_ (.tuple (.cons (.gr rfl) (.cons her'.1 (.cons her'.2.1 .nil))))
            · refine List.mem_append_right _ (List.mem_map.2 ⟨e, List.mem_of_getElem? hei, rfl⟩)
            · refine hr'.set hx (by rw [hg]; rfl) rfl rfl rfl rfl ⟨some m', ?_, hmr, hsh⟩
              rw [heap_withBlock hob']
              congr 2
              rw [her'.2.2]
              apply Array.ext'; simp
        have hsz : 0 < cd.size := by
          have : cd.toList.length = cd.size := by simp
          rw [← this, hcd']
          by_cases hh : old'.isEmpty = true
          · simp [hh]
          · cases old' with
            | nil => simp at hh
            | cons p q => simp
        rw [run_choose]
        by_cases hfo : (Question.mapNext cd.size).forced = true
        · rw [if_pos hfo]
          simp only [Result.andThen_ok]
          exact main 0 w hr rfl hsz
        · rw [if_neg hfo]
          simp only [Result.andThen_ok]
          exact main _ _ (hr.drawn _) rfl (Nat.mod_lt _ hsz)
      · cases hl
    · cases hl
  · cases hl

theorem builtin_not {b : Builtin} {c : Call} {o' : Oper} (h : compBuiltin P b c o' = some op) : (∀ f args, op ≠ .callV f args) ∧ (∀ r n args, op ≠ .invoke r n args) ∧ (∀ it, op ≠ .nextMap it) ∧ (∀ f args, op ≠ .defer f args) := by
  unfold compBuiltin at h
  repeat' split at h
  all_goals first
    | (cases h; done)
    | (obtain ⟨_, _, rfl⟩ := Option.map_eq_some_iff.1 h; exact ⟨fun _ _ => by simp, fun _ _ _ => by simp, fun _ => by simp, fun _ _ => by simp⟩)
    | (cases h; exact ⟨fun _ _ => by simp, fun _ _ _ => by simp, fun _ => by simp, fun _ _ => by simp⟩)

/-- what comes of the operations that are no calls -/
theorem comp_cases (h : compOp P o = some op) :
    (∃ c f, o.op = .call c ∧ c.callee = .value f ∧ op = .callV f c.args.toList) ∨ (∃ c r n, o.op = .call c ∧ c.callee = .invoke r n ∧ op = .invoke r n c.args.toList) ∨
    (∃ it, o.op = .next it false ∧ op = .nextMap it) ∨ (∃ c f, o.op = .defer c ∧ c.callee = .value f ∧ op = .defer f c.args.toList) ∨
    ((∀ f args, op ≠ .callV f args) ∧ (∀ r n args, op ≠ .invoke r n args) ∧ (∀ it, op ≠ .nextMap it) ∧ (∀ f args, op ≠ .defer f args)) := by
  unfold compOp at h
  simp only [show (slim o).op = o.op from rfl] at h
  cases ho : o.op with
  | call c =>
    rw [ho] at h
    simp only at h
    split at h
    · rename_i f hc
      split at h
      · cases h; exact .inr (.inr (.inr (.inr ⟨fun _ _ => by simp, fun _ _ _ => by simp, fun _ => by simp, fun _ _ => by simp⟩)))
      · cases h; exact .inl ⟨c, f, rfl, hc, rfl⟩
    · rename_i r n hc; cases h; exact .inr (.inl ⟨c, r, n, rfl, hc, rfl⟩)
    · exact .inr (.inr (.inr (.inr (builtin_not h))))
  | next it s =>
    rw [ho] at h
    cases s with
    | true => cases h; exact .inr (.inr (.inr (.inr ⟨fun _ _ => by simp, fun _ _ _ => by simp, fun _ => by simp, fun _ _ => by simp⟩)))
    | false => cases h; exact .inr (.inr (.inl ⟨it, rfl, rfl⟩))
  | defer c =>
    rw [ho] at h
    simp only at h
    split at h
    · rename_i f hc; cases h; exact .inr (.inr (.inr (.inl ⟨c, f, rfl, hc, rfl⟩)))
    · cases h
  | makeMap t r =>
    rw [ho] at h
    cases r with
    | none => cases h; exact .inr (.inr (.inr (.inr ⟨fun _ _ => by simp, fun _ _ _ => by simp, fun _ => by simp, fun _ _ => by simp⟩)))
    | some x => cases h
  | _ =>
    rw [ho] at h
    refine .inr (.inr (.inr (.inr ?_)))
    try simp only at h
    repeat' split at h
    all_goals first
      | (cases h; done)
      | (obtain ⟨_, _, rfl⟩ := Option.map_eq_some_iff.1 h; exact ⟨fun _ _ => by simp, fun _ _ _ => by simp, fun _ => by simp, fun _ _ => by simp⟩)
      | (cases h; exact ⟨fun _ _ => by simp, fun _ _ _ => by simp, fun _ => by simp, fun _ _ => by simp⟩)

theorem comp_defer (h : compOp P o = some op) {c : Call} (ho : o.op = .defer c) : ∃ f args, op = .defer f args := by
  unfold compOp at h
  simp only [show (slim o).op = o.op from rfl] at h
  rw [ho] at h
  simp only at h
  split at h
  · cases h; exact ⟨_, _, rfl⟩
  · cases h

/-- one operation, whatever it is; not a defer, not a recover -/
theorem xo_wp (hae : execOp a.eval o = execOp a1.eval o) {call : Caller} (hcall : CallOK P call) (hc : compOp P o = some op) (hok : o.op.operands.toList.all okOpd = true) (hr : HR g h B w0 w) (hts : VRL g ts a1.tmps.toList)
    (hg : ∀ co ∈ xo P call ts h op, co ≠ .bad) (how : Owes B w0 g o a K Q (xo P call ts h op)) {ro : Option Nat} {n : Nat} : o.wpIn (FR ro) n P a w K Q := by
  rcases comp_cases hc with ⟨c, f, ho, hcl, rfl⟩ | ⟨c, r, n, ho, hcl, rfl⟩ | ⟨it, ho, rfl⟩ | ⟨c, f, ho, hcl, rfl⟩ | ⟨h1, h2, h3, h4⟩
  · by_cases hy : ∃ l vs, target (eval ts f) (c.args.toList.map (eval ts)) = some (some (.yield l, vs))
    · obtain ⟨l, vs, ht⟩ := hy
      simp only [xo, ht] at hg how
      unfold target at ht
      split at ht
      · cases ht
      · rename_i l' hf
        cases ht
        exact yield_wp hae hcall ho hcl rfl hok hr hts hf hg how
      · cases ht
      · cases ht
    · exact wpIn_of_wp (fun c => by simp [ho]) (callV_wp hae hcall ho hcl rfl hok hr hts hg how fun l vs he => hy ⟨l, vs, he⟩)
  · exact wpIn_of_wp (fun c => by simp [ho]) (invoke_wp hae hcall ho hcl rfl hok hr hts hg how)
  · simp only [xo] at hg how
    split at hg
    · rename_i l hl
      rw [hl] at how
      exact wpIn_of_wp (fun c => by simp [ho]) (nextMap_wp hae ho hok hr hts hl how)
    · exact absurd rfl (hg .bad (by simp))
  · exact absurd rfl (hg .bad (by simp [xo, xop]))
  · refine wpIn_of_wp (fun c hd => ?_) (simple_wp hae hc hok hr hts ?_ hg how)
    · obtain ⟨f, args, he⟩ := comp_defer hc hd
      exact h4 f args he
    · cases op with
      | callV f args => exact absurd rfl (h1 f args)
      | invoke r n args => exact absurd rfl (h2 r n args)
      | nextMap it => exact absurd rfl (h3 it)
      | _ => rfl

/-- the same, where no round is run -/
theorem xo_wp0 (hae : execOp a.eval o = execOp a1.eval o) {call : Caller} (hcall : CallOK P call) (hyb : ∀ l args h, call (.yield l) args h = [.bad]) (hc : compOp P o = some op) (hok : o.op.operands.toList.all okOpd = true) (hr : HR g h B w0 w) (hts : VRL g ts a1.tmps.toList)
    (hg : ∀ co ∈ xo P call ts h op, co ≠ .bad) (how : Owes B w0 g o a K Q (xo P call ts h op)) : o.wp P a w K Q := by
  rcases comp_cases hc with ⟨c, f, ho, hcl, rfl⟩ | ⟨c, r, n, ho, hcl, rfl⟩ | ⟨it, ho, rfl⟩ | ⟨c, f, ho, hcl, rfl⟩ | ⟨h1, h2, h3, h4⟩
  · refine callV_wp hae hcall ho hcl rfl hok hr hts hg how fun l vs he => ?_
    simp only [xo, he, hyb] at hg
    exact hg .bad (by simp) rfl
  · exact invoke_wp hae hcall ho hcl rfl hok hr hts hg how
  · simp only [xo] at hg how
    split at hg
    · rename_i l hl
      rw [hl] at how
      exact nextMap_wp hae ho hok hr hts hl how
    · exact absurd rfl (hg .bad (by simp))
  · exact simple_wp hae hc hok hr hts rfl hg how
  · refine simple_wp hae hc hok hr hts ?_ hg how
    cases op with
    | callV f args => exact absurd rfl (h1 f args)
    | invoke r n args => exact absurd rfl (h2 r n args)
    | nextMap it => exact absurd rfl (h3 it)
    | _ => rfl

end
end Go.Vm
