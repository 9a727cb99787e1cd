/- A small machine over an abstract heap: its operations answer as the model's do (8): maps, iterators, ==. -/
import Derived.Test.YtoadcfjkkoemdaaVm14
set_option linter.unusedSimpArgs false
namespace Go.Vm
open Go.RowKit

section
variable {P : Program} {o : Oper} {op : AOp}

theorem kindT_cases {t : TypeId} {kd : TypeDesc} (h : kindT P t = some kd) : P.underlying t = some kd ∧ ((∃ k, kd = .int k) ∨ kd = .string ∨ kd = .bool) := by
  unfold kindT at h
  split at h
  · rename_i k hk; cases h; exact ⟨hk, .inl ⟨k, rfl⟩⟩
  · rename_i hk; cases h; exact ⟨hk, .inr (.inl rfl)⟩
  · rename_i hk; cases h; exact ⟨hk, .inr (.inr rfl)⟩
  · cases h

theorem checkKey_run {t : TypeId} {kd : TypeDesc} (h : kindT P t = some kd) (b : Bool) (v : Value) (w : World) : (Instr.checkKey b 10000 t v).run P w = .ok () w := by
  obtain ⟨h1, h2⟩ := kindT_cases h
  rw [show (10000 : Nat) = 9999 + 1 from rfl]
  unfold Instr.checkKey
  simp only [Sem.run_bind, run_under h1, Result.andThen_ok]
  rcases h2 with ⟨k, rfl⟩ | rfl | rfl <;> cases v <;> rfl

theorem sameNow_ground {kd : TypeDesc} {a b : Value} {r : Bool} (h : Instr.sameNow kd a b = some r) : ground a = true ∧ ground b = true := by
  unfold Instr.sameNow at h
  split at h <;> first | exact ⟨rfl, rfl⟩ | cases h

theorem findNow_vr {g : Gh} {kd : TypeDesc} {k k' : Value} (hk : VR g k k') : ∀ {es es' : List MapEntry} {i : Nat} {r : Option (Nat × Value)}, ERL g es es' → Instr.findNow kd k es i = some r →
    ∃ r', Instr.findNow kd k' es' i = some r' ∧ (match r, r' with
      | none, none => True
      | some (j, v), some (j', v') => j' = j ∧ VR g v v'
      | _, _ => False)
  | [], _, i, r, .nil, h => by simp [Instr.findNow] at h ⊢; subst h; trivial
  | e :: es, _, i, r, .cons he hes, h => by
    rename_i e' es'
    simp only [Instr.findNow] at h
    cases hs : Instr.sameNow kd k e.key with
    | none => rw [hs] at h; cases h
    | some b =>
      obtain ⟨h1, h2⟩ := sameNow_ground hs
      have e1 := hk.eq_ground h1
      have e2 := he.1.eq_ground h2
      simp only [Instr.findNow, e1, e2, hs]
      rw [hs] at h
      cases b with
      | true => simp only at h; cases h; exact ⟨_, rfl, rfl, he.2.1⟩
      | false =>
        simp only at h ⊢
        have := findNow_vr (kd := kd) hk hes h
        rw [e1] at this
        exact this

theorem findKey_run {t : TypeId} {kd : TypeDesc} (h : kindT P t = some kd) {k : Value} {es : List MapEntry} {r : Option (Nat × Value)} (hf : Instr.findNow kd k es 0 = some r) (w : World) : (Instr.findKey t k es).run P w = .ok r w := by
  obtain ⟨h1, _⟩ := kindT_cases h
  simp only [Instr.findKey, Sem.run_bind, run_under h1, Result.andThen_ok, hf, Sem.run_pure]

theorem ok_lookup {t kt el : TypeId} {m k : Operand} {ok : Bool} {kd : TypeDesc} {z : Value} (ho : o.op = .lookup t m k ok) (ht : P.underlying t = some (.map kt el)) (hk : kindT P kt = some kd) (hz : zeroT P el = some z) :
    OpOK P o (.lookup kd z ok m k) := by
  intro g h B w0 w e e' hr he
  have hzg := (zeroT_some hz).1
  have hvz : ∀ g, VR g (if ok = true then Value.tuple #[z, .bool false] else z) (if ok = true then Value.tuple #[z, .bool false] else z) := fun g => by
    cases ok
    · exact .gr hzg
    · exact .gr (by simp [ground, groundA, groundL, hzg])
  simp only [xop]
  split
  · rename_i hm
    rcases mapAt_cases hr hm (he m) with ⟨_, h1⟩ | ⟨r, r', es, es', clock, y, h1, _⟩
    · refine ResOK.same hr (hvz g) ?_
      have hf : (Instr.findKey kt (e' k) []).run P w = .ok none w := findKey_run hk rfl w
      simp only [execOp, ho, Instr.lookup, Sem.run_bind, run_under ht, Result.andThen_ok, h1, Sem.run_pure, checkKey_run hk, hf, run_zero hz]
      try rfl
    · cases h1
  · rename_i r0 es0 cl0 hm
    rcases mapAt_cases hr hm (he m) with ⟨h1, _⟩ | ⟨r, r', es, es', clock, y, h1, h2, h3, h4, h5, h6, h7, _⟩
    · cases h1
    · cases h1
      split
      · rename_i j v hf
        obtain ⟨r1, hf', hrr⟩ := findNow_vr (he k) h7 hf
        cases r1 with
        | none => simp at hrr
        | some p =>
          obtain ⟨j', v'⟩ := p
          simp only at hrr
          refine ResOK.same (v' := if ok = true then Value.tuple #[v', .bool true] else v') hr ?_ ?_
          · cases ok
            · exact hrr.2
            · exact .tuple (.cons hrr.2 (.cons (.gr rfl) .nil))
          · have hf := findKey_run (P := P) hk hf' w
            simp only [execOp, ho, Instr.lookup, Sem.run_bind, run_under ht, Result.andThen_ok, h2, run_getObj_map h6, Sem.run_pure, checkKey_run hk, hf]
      · rename_i hf
        obtain ⟨r1, hf', hrr⟩ := findNow_vr (he k) h7 hf
        cases r1 with
        | some p => simp at hrr
        | none =>
          refine ResOK.same hr (hvz g) ?_
          have hf := findKey_run (P := P) hk hf' w
          simp only [execOp, ho, Instr.lookup, Sem.run_bind, run_under ht, Result.andThen_ok, h2, run_getObj_map h6, Sem.run_pure, checkKey_run hk, hf, run_zero hz]
      · trivial
  · trivial

theorem ERL.append {g : Gh} : ∀ {a a' b b' : List MapEntry}, ERL g a a' → ERL g b b' → ERL g (a ++ b) (a' ++ b')
  | _, _, _, _, .nil, h => h
  | _, _, _, _, .cons h1 h2, h => .cons h1 (ERL.append h2 h)
theorem ERL.modify {g : Gh} {f f' : MapEntry → MapEntry} (hf : ∀ a a', ER g a a' → ER g (f a) (f' a')) : ∀ {a a' : List MapEntry} (i : Nat), ERL g a a' → ERL g (a.modify i f) (a'.modify i f')
  | _, _, i, .nil => by simp; exact .nil
  | _, _, 0, .cons h1 h2 => by simp; exact .cons (hf _ _ h1) h2
  | _, _, i + 1, .cons h1 h2 => by simp; exact .cons h1 (ERL.modify hf i h2)
theorem ERL.eraseIdx {g : Gh} : ∀ {a a' : List MapEntry} (i : Nat), ERL g a a' → ERL g (a.eraseIdx i) (a'.eraseIdx i)
  | _, _, i, .nil => by simp; exact .nil
  | _, _, 0, .cons _ h2 => by simpa using h2
  | _, _, i + 1, .cons h1 h2 => by simp; exact .cons h1 (ERL.eraseIdx i h2)

theorem findNow_get {kd : TypeDesc} {k v : Value} : ∀ {es : List MapEntry} {i j : Nat}, Instr.findNow kd k es i = some (some (j, v)) → i ≤ j ∧ ∃ en, es[j - i]? = some en ∧ Instr.sameNow kd k en.key = some true
  | [], i, j, h => by simp [Instr.findNow] at h
  | e :: es, i, j, h => by
    simp only [Instr.findNow] at h
    cases hs : Instr.sameNow kd k e.key with
    | none => rw [hs] at h; cases h
    | some b =>
      rw [hs] at h
      cases b with
      | true => simp only at h; cases h; exact ⟨Nat.le_refl _, e, by simp, hs⟩
      | false =>
        simp only at h
        obtain ⟨h1, en, h2, h3⟩ := findNow_get h
        refine ⟨by omega, en, ?_, h3⟩
        rw [show j - i = (j - (i + 1)) + 1 from by omega]
        simpa using h2

theorem bytes_beq {a b : ByteArray} (h : (a == b) = true) : a = b := by
  have h1 : (a.data == b.data) = true := h
  cases a; cases b
  simp only at h1
  rw [eq_of_beq h1]

theorem bytes_beq_self (a : ByteArray) : (a == a) = true := by
  show (a.data == a.data) = true
  exact beq_self_eq_true _

theorem sameBits_of_now {kd : TypeDesc} {a b : Value} (h : Instr.sameNow kd a b = some true) : Instr.sameBits 10000 b a = true := by
  unfold Instr.sameNow at h
  split at h
  · split at h
    · rename_i hk; subst hk; simp at h; subst h; simp [Instr.sameBits]
    · cases h
  · simp only [Option.some.injEq] at h
    obtain rfl := bytes_beq h
    simp only [Instr.sameBits, bytes_beq_self]
  · simp at h; subst h; simp [Instr.sameBits]
  · cases h

theorem keyStays_run {kd : TypeDesc} {a b : Value} (h : Instr.sameNow kd a b = some true) (w : World) : (Instr.keyThatStays b a).run P w = .ok a w := by
  simp only [Instr.keyThatStays, sameBits_of_now h, if_true, Sem.run_pure]

theorem ok_mapUpdate {t kt el : TypeId} {m k x : Operand} {kd : TypeDesc} (ho : o.op = .mapUpdate t m k x ∨ o.op = .insert t m k x) (ht : P.underlying t = some (.map kt el)) (hk : kindT P kt = some kd) : OpOK P o (.mapUpdate kd m k x) := by
  intro g h B w0 w e e' hr he
  have hexec : ∀ w', (Instr.mapUpdate t (e' m) (e' k) (e' x)).run P w = .ok () w' → (execOp e' o).run P w = .ok .skip w' := fun w' hw' => by
    rcases ho with ho | ho <;> simp only [execOp, ho, Sem.run_bind, hw', Result.andThen_ok, Sem.run_pure]
  simp only [xop]
  split
  · rename_i r0 es0 cl0 hm
    rcases mapAt_cases hr hm (he m) with ⟨h1, _⟩ | ⟨r, r', es, es', clock, y, h1, h2, h3, h4, h5, h6, h7, h8⟩
    · cases h1
    · cases h1
      subst h5
      split
      · rename_i j v hf
        obtain ⟨r1, hf', hrr⟩ := findNow_vr (he k) h7 hf
        cases r1 with
        | none => simp at hrr
        | some p =>
          obtain ⟨j', v'⟩ := p
          simp only at hrr
          obtain ⟨rfl, _⟩ := hrr
          obtain ⟨_, en, hen, hsn⟩ := findNow_get hf'
          simp only [Nat.sub_zero] at hen
          have hfk := findKey_run (P := P) hk hf' w
          have hks := keyStays_run (P := P) hsn w
          have hset := run_setObj (P := P) (o' := .map ((⟨es'⟩ : Array MapEntry).modify j' fun en => { en with key := e' k, val := e' x }) cl0) h6 (by simp)
          have hrun : (Instr.mapUpdate t (e' m) (e' k) (e' x)).run P w = .ok () (withBlock w y.b (.map ((⟨es'⟩ : Array MapEntry).modify j' fun en => { en with key := e' k, val := e' x }) cl0)) := by
            have hget : ((((⟨es'⟩ : Array MapEntry)[j']?).map (·.key)).getD (e' k)) = en.key := by simp [hen]
            simp only [Instr.mapUpdate, Sem.run_bind, run_under ht, Result.andThen_ok, h2, run_getObj_map h6, checkKey_run hk, hfk, hget, hks, hset]
          refine ⟨g, undef, _, .skip, hexec _ hrun, .inr ⟨rfl, rfl⟩, Le.refl _, ?_, .gr rfl⟩
          refine hr.set h4 (by rw [h3]; rfl) rfl rfl rfl rfl ⟨es'.modify j' fun en => { en with key := e' k, val := e' x }, ?_, ERL.modify (f := fun en => { en with key := e k, val := e x }) (f' := fun en => { en with key := e' k, val := e' x }) (fun a a' ha => ⟨he k, he x, ha.2.2⟩) _ h7, h8⟩
          rw [heap_withBlock h6]
          congr 2
          apply Array.ext'; simp
      · rename_i hf
        obtain ⟨r1, hf', hrr⟩ := findNow_vr (he k) h7 hf
        cases r1 with
        | some p => simp at hrr
        | none =>
          have hfk := findKey_run (P := P) hk hf' w
          have hset := run_setObj (P := P) (o' := .map ((⟨es'⟩ : Array MapEntry).push { key := e' k, val := e' x, born := cl0 }) (cl0 + 1)) h6 (by simp)
          have hrun : (Instr.mapUpdate t (e' m) (e' k) (e' x)).run P w = .ok () (withBlock w y.b (.map ((⟨es'⟩ : Array MapEntry).push { key := e' k, val := e' x, born := cl0 }) (cl0 + 1))) := by
            simp only [Instr.mapUpdate, Sem.run_bind, run_under ht, Result.andThen_ok, h2, run_getObj_map h6, checkKey_run hk, hfk, hset]
          refine ⟨g, undef, _, .skip, hexec _ hrun, .inr ⟨rfl, rfl⟩, Le.refl _, ?_, .gr rfl⟩
          refine hr.set h4 (by rw [h3]; rfl) rfl rfl rfl rfl ⟨es' ++ [{ key := e' k, val := e' x, born := cl0 }], ?_, h7.append (.cons ⟨he k, he x, rfl⟩ .nil), h8⟩
          rw [heap_withBlock h6]
          congr 2
          apply Array.ext'; simp
      · trivial
  · trivial

theorem ok_delete {c : Call} {t kt el : TypeId} {ats : List TypeId} {m k : Operand} {kd : TypeDesc} (ho : o.op = .call c) (hc : c.callee = .builtin .delete) (ha : c.args.toList = [m, k]) (hat : c.argTypes.toList = t :: ats)
    (ht : P.underlying t = some (.map kt el)) (hk : kindT P kt = some kd) : OpOK P o (.delete kd m k) := by
  intro g h B w0 w e e' hr he
  have hexec : ∀ w', (Builtin.delete_ c.argTypes o.type #[e' m, e' k]).run P w = .ok (.tuple #[]) w' → (execOp e' o).run P w = .ok (.value undef) w' := fun w' hw' =>
    call_run ho hc fun cs => by
      rw [arr2 ha]
      simp only [List.map_toArray, List.map_cons, List.map_nil, builtin, Sem.run_bind, hw', Result.andThen_ok, Sem.run_pure]
      rfl
  have hat0 := first_type hat
  simp only [xop]
  split
  · rename_i hm
    rcases mapAt_cases hr hm (he m) with ⟨_, h1⟩ | ⟨r, r', es, es', clock, y, h1, _⟩
    · refine ResOK.same (v' := undef) hr (.gr rfl) (hexec w ?_)
      simp [Builtin.delete_, hat0, run_under ht, h1, checkKey_run hk]
    · cases h1
  · rename_i r0 es0 cl0 hm
    rcases mapAt_cases hr hm (he m) with ⟨h1, _⟩ | ⟨r, r', es, es', clock, y, h1, h2, h3, h4, h5, h6, h7, h8⟩
    · cases h1
    · cases h1
      subst h5
      split
      · rename_i j v hf
        obtain ⟨r1, hf', hrr⟩ := findNow_vr (he k) h7 hf
        cases r1 with
        | none => simp at hrr
        | some p =>
          obtain ⟨j', v'⟩ := p
          simp only at hrr
          obtain ⟨rfl, _⟩ := hrr
          have hfk := findKey_run (P := P) hk hf' w
          have hset := run_setObj (P := P) (o' := .map ((⟨es'⟩ : Array MapEntry).eraseIdxIfInBounds j') cl0) h6 (by simp)
          refine ⟨g, undef, _, _, hexec (withBlock w y.b (.map ((⟨es'⟩ : Array MapEntry).eraseIdxIfInBounds j') cl0)) ?_, .inl rfl, Le.refl _, ?_, .gr rfl⟩
          · have hset' := hset
            simp only [List.eraseIdxIfInBounds_toArray] at hset'
            simp [Builtin.delete_, hat0, run_under ht, h2, run_getObj_map h6, checkKey_run hk, hfk, hset']
          refine hr.set h4 (by rw [h3]; rfl) rfl rfl rfl rfl ⟨es'.eraseIdx j', ?_, ERL.eraseIdx _ h7, h8⟩
          rw [heap_withBlock h6]
          congr 2
          apply Array.ext'; simp
      · rename_i hf
        obtain ⟨r1, hf', hrr⟩ := findNow_vr (he k) h7 hf
        cases r1 with
        | some p => simp at hrr
        | none =>
          have hfk := findKey_run (P := P) hk hf' w
          have hset := run_setObj (P := P) (o' := .map ⟨es'⟩ cl0) h6 (by simp)
          rw [withBlock_self h6] at hset
          refine ResOK.same (v' := undef) hr (.gr rfl) (hexec w ?_)
          simp [Builtin.delete_, hat0, run_under ht, h2, run_getObj_map h6, checkKey_run hk, hfk, hset]
      · trivial
  · trivial

end
end Go.Vm
