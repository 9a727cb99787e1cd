/- A small machine over an abstract heap: regions that draw their order. -/
import Derived.Test.YtoadcfjkkoemdaaVm27
set_option linter.unusedSimpArgs false
namespace Go.Vm
open Go.RowKit

section
variable {P : Program} {ops : Array Oper} {B : Nat} {w0 : World} {ro : Option Nat} {n : Nat} {listed : Array Bool} {g g' : Gh} {a : Act} {w w' : World} {done post later : List Nat} {aos : List AOper} {s : St} {i : Nat} {o : Oper} {ao : AOper}

theorem getD_set_false {k : Nat} (h : (listed.setIfInBounds i true).getD k true = false) : k ≠ i ∧ listed.getD k true = false := by
  by_cases hk : i = k
  · subst hk
    rcases Nat.lt_or_ge i listed.size with hlt | hge
    · simp [Array.getD_eq_getD_getElem?, hlt] at h
    · simp [Array.getD_eq_getD_getElem?, Array.getElem?_eq_none, hge] at h
  · rw [getD_set_ne true hk] at h
    exact ⟨Ne.symm hk, h⟩

theorem getD_set_self (h : i < listed.size) (d : Bool) : (listed.setIfInBounds i true).getD i d = true := by
  simp [Array.getD_eq_getD_getElem?, h]

theorem down_set (F : Facts P ops done post listed) (hi : i ∈ Region.ready .any ops listed) : ∀ k o, (listed.setIfInBounds i true).getD k false = true → ops[k]? = some o → ∀ e ∈ o.after, Region.binds .any e = true → (listed.setIfInBounds i true).getD e.on false = true := by
  intro k o hk ho e he hb
  by_cases hik : i = k
  · subst hik
    obtain ⟨_, o', ho', hall⟩ := mem_ready.1 hi
    rw [ho] at ho'; cases ho'
    exact getD_set_true (hall e he hb)
  · rw [getD_set_ne false hik] at hk
    exact getD_set_true (F.down k o hk ho e he hb)

theorem wr_set {d : Nat} (hd : listed.getD d true = true) : (listed.setIfInBounds i true).getD d true = true := by
  cases hc : (listed.setIfInBounds i true).getD d true with
  | true => rfl
  | false => rw [(getD_set_false hc).2] at hd; cases hd

/-- one that was taken on trust comes up -/
theorem Conf.late (C : Conf ro P ops B w0 done post aos listed g s a w) (hi : i ∈ Region.ready .any ops listed) (hd : i ∈ done) (ho : ops[i]? = some o) (hl : Le g g') (hr : HR g' s.h B w0 w') {v v' : Value} (hv : VR g' v v')
    (hval : ∀ t, o.dst = some t → t < s.ts.length → lget s.ts t = v) : Conf ro P ops B w0 done post aos (listed.setIfInBounds i true) g' s (a.put o.dst v') w' := by
  have hlt : i < listed.size := by rw [C.facts.size]; exact (Array.getElem?_eq_some_iff.1 ho).1
  refine ⟨⟨by simp [C.facts.size], C.facts.edges, C.facts.cover, C.facts.fwd, C.facts.comp, fun d hd hw => wr_set (C.facts.wr d hd hw), fun k hk => ?_, down_set C.facts hi⟩, C.pos, C.ord,
    ⟨by rw [size_put, C.held.len], fun t ht => ?_, fun d hd hu => C.held.stab d hd (getD_set_false hu).2, by rw [put_defers]; exact C.held.ds.mono hl⟩, hr, C.rd.mono hl⟩
  · have hne : i ≠ k := fun e => checkPos_fresh C.pos k hk (e ▸ hd)
    rw [getD_set_ne true hne]
    exact C.facts.un k hk
  · by_cases hdt : o.dst = some t
    · rw [hdt]
      by_cases hb : t < s.ts.length
      · rw [getD_put_eq (by rw [C.held.len]; exact hb), hval t hdt hb]
        exact hv
      · rw [lget_over hb, List.getD_eq_getElem?_getD, List.getElem?_eq_none (by rw [Array.length_toList, size_put, C.held.len]; omega)]
        exact .gr ground_undef
    · rw [getD_put_ne hdt]
      refine (C.held.slots t fun d hd hu => ?_).mono hl
      by_cases hdi : d = i
      · subst hdi
        simp only [dstD, ho, Option.bind_some]
        exact hdt
      · exact ht d hd (by rw [getD_set_ne true (Ne.symm hdi)]; exact hu)

/-- the front one comes up -/
theorem Conf.front {l : List AOper} (C : Conf ro P ops B w0 done (i :: later) aos listed g s a w) (hi : i ∈ Region.ready .any ops listed) (ho : ops[i]? = some o) (hc : compOper P ops o = some ao) (hord : compOrder P ops (Region.before ops) (i :: done) later = some l)
    (hl : Le g g') {h' : Heap} (hr : HR g' h' B w0 w') {v v' : Value} (hv : VR g' v v')
    (hst : ∀ d ∈ done, listed.getD d true = false → ∀ o ao', ops[d]? = some o → compOper P ops o = some ao' → StableP P (putT s.ts ao.dst v) h' ao') :
    Conf ro P ops B w0 (i :: done) later l (listed.setIfInBounds i true) g' { s with ts := putT s.ts ao.dst v, h := h' } (a.put o.dst v') w' := by
  have hlt : i < listed.size := by rw [C.facts.size]; exact (Array.getElem?_eq_some_iff.1 ho).1
  obtain ⟨h1, h2, h3⟩ := checkPos_cons C.pos
  have hdst := (compOper_parts hc).2.2
  refine ⟨⟨by simp [C.facts.size], C.facts.edges, fun j hj => ?_, fun d hd k hk => ?_, fun d hd => ?_, fun d hd hw => ?_, fun k hk => ?_, down_set C.facts hi⟩, h3, hord,
    ⟨by simp only [size_put, C.held.len, putT_length], fun t ht => ?_, fun d hd hu o' ao' ho' hc' => ?_, by rw [put_defers]; exact C.held.ds.mono hl⟩, hr, C.rd.mono hl⟩
  · rcases C.facts.cover j hj with h | h
    · exact .inl (by simp [h])
    · rcases List.mem_cons.1 h with rfl | h
      · exact .inl (by simp)
      · exact .inr h
  · rcases List.mem_cons.1 hd with rfl | hd
    · exact (h1 k hk).1
    · exact C.facts.fwd d hd k (by simp [hk])
  · rcases List.mem_cons.1 hd with rfl | hd
    · exact ⟨o, ao, ho, hc, h2 o _ ho (compOper_parts hc).1⟩
    · exact C.facts.comp d hd
  · rcases List.mem_cons.1 hd with rfl | hd
    · exact getD_set_self hlt true
    · exact wr_set (C.facts.wr d hd hw)
  · have hne : i ≠ k := fun e => checkPos_fresh h3 k hk (by simp [e])
    rw [getD_set_ne true hne]
    exact C.facts.un k (by simp [hk])
  · simp only at ht ⊢
    by_cases hdt : o.dst = some t
    · rw [hdst, hdt]
      by_cases hb : t < s.ts.length
      · rw [getD_put_eq (by rw [C.held.len]; exact hb), lget_putT_eq hb]
        exact hv
      · rw [lget_over (by rw [putT_length]; exact hb), List.getD_eq_getElem?_getD, List.getElem?_eq_none (by rw [Array.length_toList, size_put, C.held.len]; omega)]
        exact .gr ground_undef
    · rw [getD_put_ne hdt, lget_putT_ne (by rw [hdst]; exact hdt)]
      refine (C.held.slots t fun d hd hu => ?_).mono hl
      have hdi : i ≠ d := fun e => checkPos_fresh C.pos i (by simp) (e ▸ hd)
      exact ht d (by simp [hd]) (by rw [getD_set_ne true hdi]; exact hu)
  · obtain ⟨hdi, hu⟩ := getD_set_false hu
    rcases List.mem_cons.1 hd with rfl | hd
    · exact absurd rfl hdi
    · exact hst d hd hu o' ao' ho' hc'

theorem yielded_mask {U : List Nat} {j : Nat} (h : ∀ t, dstD ops j = some t → t ∈ U) : yielded ops (maskA U a).tmps j = yielded ops a.tmps j := by
  unfold yielded
  cases ht : (ops[j]?).bind (·.dst) with
  | none => rfl
  | some t =>
    have hU : U.contains t = true := by simpa using h t ht
    simp only [maskA, List.getElem?_toArray, maskL_get, Option.bind_some, hU, if_true, Array.getElem?_toList, Option.map_id_fun', id]

theorem wanted_mask {U : List Nat} (h : ∀ j want t, o.guard = some (j, want) → dstD ops j = some t → t ∈ U) : Region.wanted o (yielded ops (maskA U a).tmps) = Region.wanted o (yielded ops a.tmps) := by
  unfold Region.wanted
  cases hg : o.guard with
  | none => rfl
  | some p =>
    obtain ⟨j, want⟩ := p
    simp only [yielded_mask fun t ht => h j want t hg ht]

theorem guard_use (hd : ops[i]? = some o) {j t : Nat} {want : Bool} (hg : o.guard = some (j, want)) (ht : dstD ops j = some t) : t ∈ useD P ops i := by
  simp only [useD, hd, hg, ht]
  exact List.mem_append_left _ (List.mem_append_right _ (by simp))

/-- what the machine's operation stands for, where it is ready -/
theorem Conf.exec {call : Caller} (hcall : CallOK P call) (C : Conf ro P ops B w0 done post aos listed g s a w) (hi : i ∈ Region.ready .any ops listed) (ho : ops[i]? = some o) (hc : compOper P ops o = some ao) (hn : ao.op.noSel = true)
    {K : Act → World → Prop} {Q : Exit → Act → World → Prop} (hg : wantedT s.ts ao.guard = true → ∀ co ∈ xo P call s.ts s.h ao.op, co ≠ .bad) (how : wantedT s.ts ao.guard = true → Owes B w0 g o a K Q (xo P call s.ts s.h ao.op))
    (hno : wantedT s.ts ao.guard = false → K (a.put o.dst undef) w) : wpOpIn (FR ro) n P ops Q i K a w := by
  have hts := mask_vr (g := g) (U := useD P ops i) C.held.len fun t ht => C.held.slots t fun d hd hu => C.facts.use hi hd hu ht
  have hw : Region.wanted o (yielded ops a.tmps) = wantedT s.ts ao.guard := by
    rw [← wanted_mask (U := useD P ops i) fun j want t hg ht => guard_use ho hg ht, wanted_eq hts hc]
    exact wantedT_congr ho hc fun t ht => lget_mask ht
  unfold wpOpIn
  simp only [ho, hw]
  by_cases hwt : wantedT s.ts ao.guard = true
  · rw [if_pos hwt]
    obtain ⟨h1, h2, h3⟩ := compOper_parts hc
    have hxo : xo P call (maskL (useD P ops i) s.ts) s.h ao.op = xo P call s.ts s.h ao.op := xo_congr hn fun x hx => eval_mask fun t ht => use_opds ho hc hx ht
    refine (xo_wp (a1 := maskA (useD P ops i) a) (ts := maskL (useD P ops i) s.ts) ?_ hcall h1 h2 C.hr hts (by rw [hxo]; exact hg hwt) (by rw [hxo]; exact how hwt))
    exact execOp_congr o (comp_noselect h1) fun x hx => (evalA_mask fun t ht => use_op ho (by simpa using hx) ht).symm
  · rw [if_neg hwt]
    exact ⟨fun _ _ => trivial, hno (by simpa using hwt)⟩

theorem list_not_ready {post : List Nat} (F : Facts P ops done post listed) {f : Nat} (hf : f ∈ post) (hi : i ∈ Region.ready .any ops listed) (ha : ancOf (Region.before ops) f i = true) : False :=
  getD_absurd (F.un f hf) (F.ready hi ha)

theorem any_sound {call : Caller} (hcall : CallOK P call) {g0 : Gh} {Q : Exit → Act → World → Prop} : ∀ (fuel : Nat) (listed : Array Bool), listed.toList.count false ≤ fuel →
    ∀ (done post : List Nat) (aos : List AOper) (g : Gh) (s : St) (a : Act) (w : World), Conf ro P ops B w0 done post aos listed g s a w → Le g0 g → Good (xopsD P call aos s) →
      (∀ e a w, Post ro B w0 g0 (xopsD P call aos s) e a w → Q e a w) → wpAnyIn (FR ro) n P .any ops Q fuel listed a w := by
  intro fuel
  induction fuel with
  | zero =>
    intro listed hcount done post aos g s a w C hl hg hQ
    have hr : Region.ready .any ops listed = [] := by
      cases h : Region.ready .any ops listed with
      | nil => rfl
      | cons i l =>
        have hm : i ∈ Region.ready .any ops listed := by rw [h]; simp
        obtain ⟨h0, o, ho, _⟩ := mem_ready.1 hm
        have hlt : i < listed.size := by rw [C.facts.size]; exact (Array.getElem?_eq_some_iff.1 ho).1
        have : listed.toList[i]? = some false := by
          rw [Array.getD_eq_getD_getElem?, Array.getElem?_eq_getElem hlt] at h0
          simp at h0
          simp [hlt, h0]
        have := count_pos this
        omega
    exact ⟨hr, fin C hl hr hQ⟩
  | succ fuel ih =>
    intro listed hcount done post aos g s a w C hl hg hQ
    refine ⟨fun hr => fin C hl hr hQ, fun i hi => ?_⟩
    obtain ⟨done, post, aos', s, C, hx, hstuck⟩ := advance post done aos s C hg
    rw [← hx] at hg hQ
    clear hx
    obtain ⟨h0, o, ho, hall⟩ := mem_ready.1 hi
    have hlt : i < listed.size := by rw [C.facts.size]; exact (Array.getElem?_eq_some_iff.1 ho).1
    have hcount' : (listed.setIfInBounds i true).toList.count false ≤ fuel := by
      have : listed.toList[i]? = some false := by
        rw [Array.getD_eq_getD_getElem?, Array.getElem?_eq_getElem hlt] at h0
        simp at h0
        simp [hlt, h0]
      have := count_set this
      simp only [Array.toList_setIfInBounds]
      omega
    have hio : i < ops.size := (Array.getElem?_eq_some_iff.1 ho).1
    rcases C.facts.cover i hio with hd | hp
    · -- taken on trust before
      obtain ⟨o', ao, ho', hc, hn⟩ := C.facts.comp i hd
      rw [ho] at ho'; cases ho'
      have hk := kind_of ho hc (nonW (P := P) (ops := ops) (d := i) (by
        cases h : isW P ops (Region.before ops) i with
        | false => rfl
        | true => rw [C.facts.wr i hd h] at h0; cases h0)).1
      have hdst := (compOper_parts hc).2.2
      rcases C.held.stab i hd h0 o ao ho hc with ⟨hwt, v, hxo, hval⟩ | ⟨hwt, hval⟩
      · have hxo' : xo P call s.ts s.h ao.op = [.ret v s.h] := by rw [xo_read hk, hxo]
        refine C.exec hcall hi ho hc hn (fun _ co hm => ?_) (fun _ => ⟨fun v1 h1 hm g1 v' w' hle hr' hv => ?_, fun c h1 hm => ?_⟩) (fun hno => by rw [hno] at hwt; cases hwt)
        · rw [hxo'] at hm; simp at hm; rw [hm]; simp
        · rw [hxo'] at hm; simp at hm
          obtain ⟨rfl, rfl⟩ := hm
          exact ih _ hcount' done post aos' g1 s _ w' (C.late hi hd ho hle hr' hv (fun t ht => hval t (by rw [hdst]; exact ht))) (hl.trans hle) hg hQ
        · rw [hxo'] at hm; simp at hm
      · refine C.exec hcall hi ho hc hn (fun h => by rw [h] at hwt; cases hwt) (fun h => by rw [h] at hwt; cases hwt) (fun _ => ?_)
        exact ih _ hcount' done post aos' g s _ w (C.late hi hd ho (Le.refl _) C.hr (.gr ground_undef) (fun t ht _ => hval t (by rw [hdst]; exact ht))) hl hg hQ
    · -- not yet
      rcases hstuck with rfl | ⟨f, later, rfl, hf⟩
      · cases hp
      obtain ⟨o', ao, c, l, ho', hc, hcl, hord, haos⟩ := compOrder_cons C.ord
      obtain ⟨hp1, hp2, hp3⟩ := checkPos_cons C.pos
      -- what may come up is the front one
      have hgd := hg
      rw [haos, xopsD_cons] at hgd
      by_cases hif : i = f
      · subst hif
        rw [ho] at ho'; cases ho'
        have hn : ao.op.noSel = true := hp2 o _ ho (compOper_parts hc).1
        have hdst := (compOper_parts hc).2.2
        have hQ' := hQ
        rw [haos, xopsD_cons] at hQ'
        have pend : ∀ {v : Value} {h' : Heap}, isW P ops (Region.before ops) i = true → (c.map triple).all (stable P (putT s.ts ao.dst v) h') = true →
            ∀ d ∈ done, listed.getD d true = false → ∀ o ao', ops[d]? = some o → compOper P ops o = some ao' → StableP P (putT s.ts ao.dst v) h' ao' := by
          intro v h' hw hchk d hd hu o2 ao2 ho2 hc2
          have hdw : isW P ops (Region.before ops) d = false := by
            cases h : isW P ops (Region.before ops) d with
            | false => rfl
            | true => rw [C.facts.wr d hd h] at hu; cases hu
          have hda : ancOf (Region.before ops) d i = false := by
            cases h : ancOf (Region.before ops) d i with
            | false => rfl
            | true => exact (getD_absurd hu (C.facts.ready hi h)).elim
          rw [if_pos hw] at hcl
          obtain ⟨y, hy, hyc⟩ := compList_mem hcl d (List.mem_filter.2 ⟨hd, by rw [hdw, hda]; rfl⟩)
          rw [ho2] at hyc
          have hyc : compOper P ops o2 = some y := hyc
          rw [hc2] at hyc; cases hyc
          exact stable_of (kind_of ho2 hc2 (nonW hdw).1) (List.all_eq_true.1 hchk _ (List.mem_map.2 ⟨_, hy, rfl⟩))
        have none : isW P ops (Region.before ops) i = false → ∃ v h', wantedT s.ts ao.guard = true ∧ xo P call s.ts s.h ao.op = [.pan [{ v, recovered := false }] h'] := by
          intro hw
          rcases hf with hf | ⟨ao2, rest, v, h', he, h1, h2, h3⟩
          · rw [hw] at hf; cases hf
          · rw [haos] at he; cases he
            exact ⟨v, h', h1, by rw [xo_read h2, h3]⟩
        refine C.exec hcall hi ho hc hn (fun hwt co hm hbad => ?_) (fun hwt => ⟨fun v h' hm g' v' w' hle hr' hv => ?_, fun ch h' hm g' c' w' hle hr' hch => ?_⟩) (fun hwt => ?_)
        · simp only [hwt, if_true] at hgd
          subst hbad
          exact hgd .bad (List.mem_flatMap.2 ⟨_, hm, by simp [nextD]⟩) rfl
        · simp only [hwt, if_true] at hgd hQ'
          have hw : isW P ops (Region.before ops) i = true := by
            cases h : isW P ops (Region.before ops) i with
            | true => rfl
            | false =>
              obtain ⟨_, _, _, hx⟩ := none h
              rw [hx] at hm; simp at hm
          have hsub : Good (nextD P call { ao with chk := c.map triple, pan := done.all (fun j => ancOf (Region.before ops) j i) && later.all (fun j => ancOf (Region.before ops) i j) } l s (.ret v h')) := good_sub rfl hgd hm
          have hchk : (c.map triple).all (stable P (putT s.ts ao.dst v) h') = true := by
            apply Classical.byContradiction
            intro hno
            simp only [nextD, if_neg hno] at hsub
            exact hsub .bad (by simp) rfl
          have hnx : nextD P call { ao with chk := c.map triple, pan := done.all (fun j => ancOf (Region.before ops) j i) && later.all (fun j => ancOf (Region.before ops) i j) } l s (.ret v h') = xopsD P call l { s with ts := putT s.ts ao.dst v, h := h' } := by
            simp only [nextD, if_pos hchk]
          rw [hnx] at hsub
          refine ih _ hcount' (i :: done) later l g' _ _ w' (C.front hi ho hc hord hle hr' hv (pend hw hchk)) (hl.trans hle) hsub fun e a w hp => hQ' e a w ?_
          obtain ⟨g2, e2, s2, hm2, r⟩ := hp
          exact ⟨g2, e2, s2, List.mem_flatMap.2 ⟨_, hm, by rw [hnx]; exact hm2⟩, r⟩
        · simp only [hwt, if_true] at hgd hQ'
          have hsub : Good (nextD P call { ao with chk := c.map triple, pan := done.all (fun j => ancOf (Region.before ops) j i) && later.all (fun j => ancOf (Region.before ops) i j) } l s (.pan ch h')) := good_sub rfl hgd hm
          have hpan : (done.all (fun j => ancOf (Region.before ops) j i) && later.all (fun j => ancOf (Region.before ops) i j)) = true := by
            apply Classical.byContradiction
            intro hno
            simp only [nextD, if_neg hno] at hsub
            exact hsub .bad (by simp) rfl
          refine hQ' _ _ _ ⟨g', .panic ch, { s with h := h' }, List.mem_flatMap.2 ⟨_, hm, by simp only [nextD, if_pos hpan]; simp⟩, hl.trans hle, hch, hr', (slots_all C.held fun d hd => ?_).mono hle, C.held.ds.mono hle, C.rd.mono hle⟩
          rw [Bool.and_eq_true] at hpan
          have := C.facts.ready hi (List.all_eq_true.1 hpan.1 d hd)
          cases hx : listed.getD d true with
          | true => rfl
          | false => exact (getD_absurd hx this).elim
        · simp only [hwt, Bool.false_eq_true, if_false] at hgd hQ'
          have hw : isW P ops (Region.before ops) i = true := by
            cases h : isW P ops (Region.before ops) i with
            | true => rfl
            | false =>
              obtain ⟨_, _, h1, _⟩ := none h
              rw [h1] at hwt; cases hwt
          have hchk : (c.map triple).all (stable P (putT s.ts ao.dst undef) s.h) = true := by
            apply Classical.byContradiction
            intro hno
            rw [if_neg hno] at hgd
            exact hgd .bad (by simp) rfl
          rw [if_pos hchk] at hgd hQ'
          exact ih _ hcount' (i :: done) later l g _ _ w (C.front hi ho hc hord (Le.refl _) C.hr (.gr ground_undef) (pend hw hchk)) hl hgd hQ'
      · exfalso
        have hil : i ∈ later := by
          rcases List.mem_cons.1 hp with h | h
          · exact absurd h hif
          · exact h
        rcases hf with hf | ⟨ao2, rest, v, h', he, h1, h2, h3⟩
        · exact list_not_ready C.facts (f := f) (by simp) hi ((hp1 i hil).2 hf)
        · rw [haos] at he; cases he
          simp only [h1, if_true, xo_read h2, h3] at hgd
          have hsub := good_sub rfl hgd (List.mem_singleton.2 rfl)
          have hpan : (done.all (fun j => ancOf (Region.before ops) j f) && later.all (fun j => ancOf (Region.before ops) f j)) = true := by
            apply Classical.byContradiction
            intro hno
            simp only [nextD, if_neg hno] at hsub
            exact hsub .bad (by simp) rfl
          rw [Bool.and_eq_true] at hpan
          exact list_not_ready C.facts (f := f) (by simp) hi (List.all_eq_true.1 hpan.2 i hil)

theorem draws_ok (hm : P.follows .mixedOrders = true) {call : Caller} (hcall : CallOK P call) : DrawsOK P call B w0 := by
  intro ro n id ops aos g0 g s a w Q hc hr hl hg hQ
  unfold compD at hc
  simp only at hc
  split at hc
  · rename_i hchk
    unfold checkD at hchk
    rw [Bool.and_eq_true] at hchk
    obtain ⟨hcov, hpos⟩ := hchk
    have hcov' : ∀ i, i < ops.size → i ∈ orderGo ops (isW P ops (Region.before ops)) ops.size 0 := fun i hi => by
      have := List.all_eq_true.1 hcov i (List.mem_range.2 hi)
      simpa using this
    refine wpIn_region_any hm (any_sound hcall ops.size _ (by simp) [] _ aos g s a _ ⟨⟨by simp, fun i o ho => ?_, fun i hi => .inr (hcov' i hi), by simp, by simp, by simp, fun k hk => ?_, fun k o hk => ?_⟩, hpos, hc, ⟨?_, fun t _ => lget_vr hr.ts t, by simp, hr.ds⟩, hr.hr.drawn _, hr.rd⟩ hl hg hQ)
    · exact (checkPos_lt hpos i (hcov' i (Array.getElem?_eq_some_iff.1 ho).1)).2 o ho
    · have := (checkPos_lt hpos k hk).1
      simp [Array.getD_eq_getD_getElem?, this]
    · rw [Array.getD_eq_getD_getElem?] at hk
      exfalso
      by_cases h : k < ops.size
      · simp [h] at hk
      · simp [Array.getElem?_eq_none, Nat.not_lt.1 h] at hk
    · have := hr.ts.length
      simpa using this
  · cases hc

end
end Go.Vm
