/- A small machine over an abstract heap: drawn orders. -/
import Derived.Test.YtoadcfjkkoemdaaVm26
set_option linter.unusedSimpArgs false
namespace Go.Vm
open Go.RowKit

section
variable {P : Program} {ops : Array Oper} {B : Nat} {w0 : World} {ro : Option Nat} {n : Nat}

def nextD (P : Program) (call : Caller) (o : AOper) (rest : List AOper) (s : St) : CO → List Out
  | .ret v h => if o.chk.all (stable P (putT s.ts o.dst v) h) then xopsD P call rest { s with ts := putT s.ts o.dst v, h := h } else [.bad]
  | .pan chain h => if o.pan then [.mk (.panic chain) { s with h := h }] else [.bad]
  | .bad => [.bad]

theorem xopsD_cons {call : Caller} {o : AOper} {rest : List AOper} {s : St} : xopsD P call (o :: rest) s =
    if wantedT s.ts o.guard then (xo P call s.ts s.h o.op).flatMap (nextD P call o rest s)
    else if o.chk.all (stable P (putT s.ts o.dst undef) s.h) then xopsD P call rest { s with ts := putT s.ts o.dst undef } else [.bad] := by
  rw [xopsD]
  split
  · congr 1
  · rfl

structure Conf (ro : Option Nat) (P : Program) (ops : Array Oper) (B : Nat) (w0 : World) (done post : List Nat) (aos : List AOper) (listed : Array Bool) (g : Gh) (s : St) (a : Act) (w : World) : Prop where
  facts : Facts P ops done post listed
  pos : checkPos P ops (Region.before ops) done post = true
  ord : compOrder P ops (Region.before ops) done post = some aos
  held : Held P ops done listed g s a
  hr : HR g s.h B w0 w
  rd : MR g s.rd ro

def Stuck (P : Program) (ops : Array Oper) (post : List Nat) (aos : List AOper) (s : St) : Prop :=
  post = [] ∨ ∃ i later, post = i :: later ∧ (isW P ops (Region.before ops) i = true ∨ ∃ ao rest v h', aos = ao :: rest ∧ wantedT s.ts ao.guard = true ∧ ao.op.kind ≠ .write ∧ xop P (eval s.ts) s.h ao.op = .pan v h')

variable {listed : Array Bool} {g : Gh} {a : Act} {w : World}

/-- the front one is taken on trust -/
theorem Conf.step {i : Nat} {later done : List Nat} {aos l : List AOper} {s : St} {o : Oper} {ao : AOper} {v : Value} (C : Conf ro P ops B w0 done (i :: later) aos listed g s a w)
    (hw : isW P ops (Region.before ops) i = false) (ho : ops[i]? = some o) (hc : compOper P ops o = some ao) (hl : compOrder P ops (Region.before ops) (i :: done) later = some l)
    (hst : StableP P (putT s.ts ao.dst v) s.h ao) : Conf ro P ops B w0 (i :: done) later l listed g { s with ts := putT s.ts ao.dst v } a w := by
  obtain ⟨h1, h2, h3⟩ := checkPos_cons C.pos
  have hfresh := checkPos_fresh C.pos
  have hin : i ∉ done := hfresh i (by simp)
  have hun : listed.getD i true = false := C.facts.un i (by simp)
  have hds := dst_dstD ho hc
  refine ⟨⟨C.facts.size, C.facts.edges, fun j hj => ?_, fun d hd k hk => ?_, fun d hd => ?_, fun d hd hdw => ?_, fun k hk => C.facts.un k (by simp [hk]), C.facts.down⟩, h3, hl, ⟨?_, fun t ht => ?_, fun d hd hdu o' ao' ho' hc' => ?_, C.held.ds⟩, C.hr, C.rd⟩
  · rcases C.facts.cover j hj with h | h
    · exact .inl (by simp [h])
    · rcases List.mem_cons.1 h with rfl | h
      · exact .inl (by simp)
      · exact .inr h
  · rcases List.mem_cons.1 hd with rfl | hd
    · exact (h1 k hk).1
    · exact C.facts.fwd d hd k (by simp [hk])
  · rcases List.mem_cons.1 hd with rfl | hd
    · exact ⟨o, ao, ho, hc, h2 o _ ho (compOper_parts hc).1⟩
    · exact C.facts.comp d hd
  · rcases List.mem_cons.1 hd with rfl | hd
    · rw [hw] at hdw; cases hdw
    · exact C.facts.wr d hd hdw
  · rw [C.held.len, putT_length]
  · have hne : ao.dst ≠ some t := by rw [← hds]; exact ht i (by simp) hun
    rw [lget_putT_ne hne]
    exact C.held.slots t fun d hd hu => ht d (by simp [hd]) hu
  · rcases List.mem_cons.1 hd with rfl | hd
    · rw [ho] at ho'; cases ho'
      rw [hc] at hc'; cases hc'
      exact hst
    · have hdi : d ≠ i := fun e => hin (e ▸ hd)
      obtain ⟨_, _, _, hc2, hn2⟩ := C.facts.comp d hd
      have hn : ao'.op.noSel = true := by
        rename_i o2 ao2 ho2
        rw [ho2] at ho'; cases ho'
        rw [hc2] at hc'; cases hc'
        exact hn2
      have hdl := (Array.getElem?_eq_some_iff.1 ho').1
      have hno : ∀ t, ao.dst = some t → t ∉ useD P ops d ∧ dstD ops d ≠ some t := fun t ht => by
        have h5 := ((nonW hw).2 t (by rw [hds]; exact ht)).2 d hdl hdi
        have h6 := C.facts.fwd d hd i (by simp)
        refine ⟨fun hm => ?_, fun hm => ?_⟩
        · rw [h5 (.inl hm)] at h6; cases h6
        · rw [h5 (.inr hm)] at h6; cases h6
      refine (C.held.stab d hd hdu o' ao' ho' hc').congr ho' hc' hn (putT_length _ _ _) (fun t ht => lget_putT_ne fun e => (hno t e).1 ht) (fun t ht => lget_putT_ne fun e => (hno t e).2 ?_)
      rw [dst_dstD ho' hc']; exact ht

/-- own slot: it does not look at it -/
theorem own_use {i : Nat} {o : Oper} {ao : AOper} {ts : List Value} {v : Value} (hw : isW P ops (Region.before ops) i = false) (ho : ops[i]? = some o) (hc : compOper P ops o = some ao) :
    ∀ t ∈ useD P ops i, lget (putT ts ao.dst v) t = lget ts t := fun t ht => lget_putT_ne fun e => ((nonW hw).2 t (by rw [dst_dstD ho hc]; exact e)).1 ht

theorem wantedT_congr {d : Nat} {o : Oper} {ao : AOper} {ts ts' : List Value} (hd : ops[d]? = some o) (hc : compOper P ops o = some ao) (hu : ∀ t ∈ useD P ops d, lget ts' t = lget ts t) : wantedT ts' ao.guard = wantedT ts ao.guard := by
  cases hg : ao.guard with
  | none => rfl
  | some p =>
    obtain ⟨t, want⟩ := p
    simp only [wantedT, hu t (use_guard hd hc hg)]

theorem eval_congr {d : Nat} {o : Oper} {ao : AOper} {ts ts' : List Value} (hd : ops[d]? = some o) (hc : compOper P ops o = some ao) (hu : ∀ t ∈ useD P ops d, lget ts' t = lget ts t) : ∀ x ∈ ao.op.opds, eval ts' x = eval ts x := fun x hx => by
  cases x with
  | tmp t => simp only [eval]; exact hu t (use_opds hd hc hx rfl)
  | _ => rfl

/-- those that write nothing are taken on trust, up to one that writes or that comes to a panic -/
theorem advance {call : Caller} : ∀ (post done : List Nat) (aos : List AOper) (s : St), Conf ro P ops B w0 done post aos listed g s a w → Good (xopsD P call aos s) →
    ∃ done' post' aos' s', Conf ro P ops B w0 done' post' aos' listed g s' a w ∧ xopsD P call aos' s' = xopsD P call aos s ∧ Stuck P ops post' aos' s'
  | [], done, aos, s, C, _ => ⟨done, [], aos, s, C, rfl, .inl rfl⟩
  | i :: later, done, aos, s, C, hg => by
    cases hw : isW P ops (Region.before ops) i with
    | true => exact ⟨done, i :: later, aos, s, C, rfl, .inr ⟨i, later, rfl, .inl hw⟩⟩
    | false =>
      obtain ⟨o, ao, c, l, ho, hc, hcl, hl, haos⟩ := compOrder_cons C.ord
      rw [hw] at hcl
      simp only [Bool.false_eq_true, if_false, compList, Option.some.injEq] at hcl
      subst hcl
      have hk := kind_of ho hc (nonW hw).1
      have hn : ao.op.noSel = true := (checkPos_cons C.pos).2.1 o _ ho (compOper_parts hc).1
      have hg' := hg
      have hx := xopsD_cons (P := P) (call := call) (o := { ao with chk := List.map triple [], pan := done.all (fun j => ancOf (Region.before ops) j i) && later.all (fun j => ancOf (Region.before ops) i j) }) (rest := l) (s := s)
      rw [← haos] at hx
      simp only [List.map_nil, List.all_nil, if_true] at hx
      by_cases hwt : wantedT s.ts ao.guard = true
      · rw [if_pos hwt, xo_read hk] at hx
        cases hxo : xop P (eval s.ts) s.h ao.op with
        | ok v h' =>
          have hh := still_xop hk hxo
          subst hh
          rw [hxo] at hx
          have hx' : xopsD P call aos s = xopsD P call l { s with ts := putT s.ts ao.dst v } := by
            rw [hx]; simp [nextD]
          have hst : StableP P (putT s.ts ao.dst v) s.h ao := by
            refine .inl ⟨by rw [wantedT_congr ho hc (own_use hw ho hc)]; exact hwt, v, ?_, fun d hd hlt => ?_⟩
            · rw [xop_congr hn (eval_congr ho hc (own_use hw ho hc))]; exact hxo
            · rw [hd] at hlt ⊢
              rw [putT_length] at hlt
              exact lget_putT_eq hlt
          have C' := C.step hw ho hc hl hst
          obtain ⟨d', p', a', s', h1, h2, h3⟩ := advance later (i :: done) l _ C' (by rw [← hx']; exact hg)
          exact ⟨d', p', a', s', h1, by rw [h2, hx'], h3⟩
        | pan v h' =>
          exact ⟨done, i :: later, aos, s, C, rfl, .inr ⟨i, later, rfl, .inr ⟨_, _, v, h', haos, hwt, hk, hxo⟩⟩⟩
        | bad =>
          rw [hxo] at hx
          exfalso
          rw [hx] at hg
          exact hg .bad (by simp [nextD]) rfl
      · rw [if_neg hwt] at hx
        have hst : StableP P (putT s.ts ao.dst undef) s.h ao := by
          refine .inr ⟨by rw [wantedT_congr ho hc (own_use hw ho hc)]; simpa using hwt, fun d hd => ?_⟩
          rw [hd]
          by_cases hlt : d < s.ts.length
          · exact lget_putT_eq hlt
          · exact lget_over (by rw [putT_length]; exact hlt)
        have C' := C.step hw ho hc hl hst
        obtain ⟨d', p', a', s', h1, h2, h3⟩ := advance later (i :: done) l _ C' (by rw [← hx]; exact hg)
        exact ⟨d', p', a', s', h1, by rw [h2, hx], h3⟩

/-- all have come up -/
theorem Facts.all {done post : List Nat} (F : Facts P ops done post listed) (hr : Region.ready .any ops listed = []) : ∀ n i, i < n → i < ops.size → listed.getD i false = true
  | 0, i, h, _ => by omega
  | n + 1, i, h, hi => by
    apply Classical.byContradiction
    intro hne
    have hlt : i < listed.size := by rw [F.size]; exact hi
    have hun : listed.getD i true = false := by
      rw [Array.getD_eq_getD_getElem?] at hne ⊢
      rw [Array.getElem?_eq_getElem hlt] at hne ⊢
      simpa using hne
    have hm : i ∈ Region.ready .any ops listed := by
      rw [mem_ready]
      refine ⟨hun, ops[i], by simp [hi], fun e he hb => ?_⟩
      have := F.edges i _ (by simp [hi]) e he hb
      exact Facts.all F hr n e.on (by omega) (by omega)
    rw [hr] at hm
    cases hm

theorem slots_all {done : List Nat} {s : St} (H : Held P ops done listed g s a) (hall : ∀ d ∈ done, listed.getD d true = true) : VRL g s.ts a.tmps.toList := by
  refine VRL.of_get (by simpa using H.len) fun i v v' h1 h2 => ?_
  have := H.slots i fun d hd hu => by rw [hall d hd] at hu; cases hu
  rw [lget_getD, h1, List.getD_eq_getElem?_getD, h2] at this
  exact this

theorem fin {call : Caller} {done post : List Nat} {aos : List AOper} {s : St} {g0 : Gh} {Q : Exit → Act → World → Prop} (C : Conf ro P ops B w0 done post aos listed g s a w) (hl : Le g0 g) (hr : Region.ready .any ops listed = [])
    (hQ : ∀ e a w, Post ro B w0 g0 (xopsD P call aos s) e a w → Q e a w) : Q .normal a w := by
  have hall := fun i hi => C.facts.all hr (i + 1) i (by omega) hi
  have hpost : post = [] := by
    cases post with
    | nil => rfl
    | cons k l => exact (getD_absurd (C.facts.un k (by simp)) (hall k (checkPos_lt C.pos k (by simp)).1)).elim
  subst hpost
  have haos : aos = [] := by have := C.ord; simp [compOrder] at this; exact this
  subst haos
  refine hQ _ _ _ ⟨g, .normal, s, by simp [xopsD], hl, trivial, C.hr, slots_all C.held fun d hd => ?_, C.held.ds, C.rd⟩
  obtain ⟨o, _, ho, _⟩ := C.facts.comp d hd
  cases h : listed.getD d true with
  | true => rfl
  | false => exact (getD_absurd h (hall d (Array.getElem?_eq_some_iff.1 ho).1)).elim

end
end Go.Vm
