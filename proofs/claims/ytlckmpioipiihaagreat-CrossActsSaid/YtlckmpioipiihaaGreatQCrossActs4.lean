/- Contracts of functions, over the machine. -/
import Derived.Test.YtlckmpioipiihaaGreatQCrossActs3
import Derived.Test.YtlckmpioipiihaaGreatVK
import Derived.Test.YtlckmpioipiihaaGreatVJ
set_option linter.unusedSimpArgs false
noncomputable section
namespace Go.Proofs.YtlckmpioipiihaaGreat.A
open Go.Proofs.YtlckmpioipiihaaGreat.K
open Go Go.Vm
set_option maxRecDepth 10000
set_option linter.unusedVariables false
theorem CloneT_ok {h : Heap} {v : Value} {l : List Vote} (hr : Rd h 2 v (tcells l) l.length) (hs : l.length < 1048576) :
    Runs Tryz.prog T0 (.fn fn_zjdQ) [v] h
      (fun r h' => Own h' 2 r (tcells l) l.length ∧ Fr (fun _ => False) h h' ∧ ∀ i, ownedBy r i → h.n ≤ i) (fun _ _ => False) := by
  have hr0 := hr
  obtain ⟨a, cap, rfl, hlen, hc⟩ := hr
  refine zjdQ_runs ?_
  cases a with
  | none =>
    have hl : l = [] := by
      cases l with
      | nil => rfl
      | cons b l => obtain ⟨_, _, _, h1, _⟩ := hc (by simp); cases h1
    subst hl
    refine stp ?_
    exact ⟨.none, Fr.refl, fun i hi => hi.elim⟩
  | some a =>
    refine stp ?_
    refine appendLitC hr0 hs (by omega) (fun v' h' h1 h2 h3 => ?_)
    refine stp ?_
    exact ⟨h1, h2, h3⟩
set_option maxHeartbeats 4000000 in
theorem own_okA {h : Heap} {x : Bk} {sv sl : Value} (hb : BkRd h x sv sl) (h1 : x.c.votes.length < 1048576) (h2 : x.vals.length < 1048576) :
    Runs Tryz.prog T0 (.fn fn_zabQ) [.agg ⟨x.cells sv sl⟩] h
      (fun r h' => ∃ sw sm, r = .agg ⟨x.cells sw sm⟩ ∧ Own h' 2 sw (tcells x.c.votes) x.c.votes.length ∧ Own h' 5 sm (vcells x.vals) x.vals.length ∧ (∀ i, ownedBy sw i → h.n ≤ i) ∧ (∀ i, ownedBy sm i → h.n ≤ i) ∧ (∀ i, ownedBy sw i → ¬ ownedBy sm i) ∧ Fr (fun _ => False) h h') (fun _ _ => False) := by
  have hx := hb.hd
  have hch := hb.hash
  haveI := l32 hx.prev
  haveI := l32 hx.vals
  haveI := l32 hx.next
  haveI := l32 hx.app
  haveI := l32 hch
  obtain ⟨a1, c1, rfl, _, _⟩ := id hb.sv
  obtain ⟨a2, c2, rfl, _, _⟩ := id hb.sl
  refine zabQ_runs ?_
  refine stp ?_
  have gA : HGet ((h.push (.cells (x.cells (.slice a1 x.c.votes.length c1) (.slice a2 x.vals.length c2)) 0)).push (.cells zBc 0)) h.n (.cells (x.cells (.slice a1 x.c.votes.length c1) (.slice a2 x.vals.length c2)) 0) := HGet.push (k := BLt.new) (g := HGet.new)
  have gB : HGet ((h.push (.cells (x.cells (.slice a1 x.c.votes.length c1) (.slice a2 x.vals.length c2)) 0)).push (.cells zBc 0)) (h.push (.cells (x.cells (.slice a1 x.c.votes.length c1) (.slice a2 x.vals.length c2)) 0)).n (.cells zBc 0) := HGet.new
  have f0 : Fr (fun _ => False) h ((h.push (.cells (x.cells (.slice a1 x.c.votes.length c1) (.slice a2 x.vals.length c2)) 0)).push (.cells zBc 0)) := Fr.refl.push.push
  have n0 : ((h.push (.cells (x.cells (.slice a1 x.c.votes.length c1) (.slice a2 x.vals.length c2)) 0)).push (.cells zBc 0)).n = h.n + 2 := rfl
  have nb : (h.push (.cells (x.cells (.slice a1 x.c.votes.length c1) (.slice a2 x.vals.length c2)) 0)).n = h.n + 1 := rfl
  generalize (h.push (.cells (x.cells (.slice a1 x.c.votes.length c1) (.slice a2 x.vals.length c2)) 0)).push (.cells zBc 0) = h0 at *
  generalize (h.push (.cells (x.cells (.slice a1 x.c.votes.length c1) (.slice a2 x.vals.length c2)) 0)).n = pb at *
  haveI := gA
  haveI : BLt h.n h0 := ⟨by omega⟩
  refine stp ?_
  refine D.callX (CloneT_ok (hb.keep f0 fun _ _ => id).sv h1) (fun r h3 hr => ?_) (fun r h3 hr => ?_) (fun _ _ hx => hx.elim)
  · obtain ⟨_, hf, _⟩ := hr
    haveI := hf.keep gA (by omega) id
    haveI : BLt h.n h3 := ⟨by have := hf.n; omega⟩
    exact StabL.ok
  obtain ⟨ho, hf3, hnew⟩ := hr
  have gA3 := hf3.keep gA (by omega) id
  have gB3 := hf3.keep gB (by omega) id
  have n3 := hf3.n
  have F3 := f0.trans' hf3
  haveI := gA3
  haveI : BLt h.n h3 := ⟨by omega⟩
  refine stp ?_
  refine D.callX (CloneV_ok (hb.keep F3 fun _ _ => id).sl h2) (fun r h4 hr => ?_) (fun r h4 hr => ?_) (fun _ _ hx => hx.elim)
  · obtain ⟨_, hf, _⟩ := hr
    haveI := hf.keep gA3 (by omega) id
    haveI : BLt h.n h4 := ⟨by have := hf.n; omega⟩
    exact StabL.ok
  obtain ⟨hov, hf4, hnv⟩ := hr
  have gA4 := hf4.keep gA3 (by omega) id
  have gB4 := hf4.keep gB3 (by omega) id
  have n4 := hf4.n
  have F4 := F3.trans' hf4
  have ho4 := ho.keep hf4 fun _ _ => id
  obtain ⟨a3, c3, rfl, _, _⟩ := id ho.rd
  obtain ⟨a4, c4, rfl, _, _⟩ := id hov.rd
  haveI := gA4
  haveI := gB4
  haveI : BLt h.n h4 := ⟨by omega⟩
  haveI : BLt pb h4 := ⟨by omega⟩
  haveI : BNe pb h.n := ⟨by omega⟩
  haveI : BNe h.n pb := ⟨by omega⟩
  refine stp ?_
  have f6 : ∀ {o1 o2 : AObj}, Fr (fun i => i = h.n ∨ i = pb) h4 ((h4.set h.n o1).set pb o2) := fun {o1 o2} => (Fr.refl.set fun _ => .inl rfl).set fun _ => .inr rfl
  refine ⟨_, _, rfl, ho4.keep f6 fun b hb e => by have := hnew b hb; omega, hov.keep f6 fun b hb e => by have := hnv b hb; omega, fun i hi => by have := hnew i hi; omega, fun i hi => by have := hnv i hi; omega, fun i hi e => by have := ho.lt hi; have := hnv i e; omega, F4.trans f6 fun i hi e => by omega⟩
theorem own_ok {h : Heap} {x : Bk} {sv sl : Value} (hb : BkRd h x sv sl) (h1 : x.c.votes.length < 1048576) (h2 : x.vals.length < 1048576) :
    Runs Tryz.prog T0 (.fn fn_zabQ) [.agg ⟨x.cells sv sl⟩] h
      (fun r h' => ∃ sw sm, r = .agg ⟨x.cells sw sm⟩ ∧ Own h' 2 sw (tcells x.c.votes) x.c.votes.length ∧ Own h' 5 sm (vcells x.vals) x.vals.length ∧ (∀ i, ownedBy sw i → h.n ≤ i) ∧ (∀ i, ownedBy sm i → h.n ≤ i) ∧ Fr (fun _ => False) h h') (fun _ _ => False) :=
  (own_okA hb h1 h2).mono (fun r h' ⟨sw, sm, a, b, c, d, e, _, g⟩ => ⟨sw, sm, a, b, c, d, e, g⟩) (fun _ _ h => h)
end Go.Proofs.YtlckmpioipiihaaGreat.A

namespace Go.Proofs.YtlckmpioipiihaaGreat.A
open Go.Proofs.YtlckmpioipiihaaGreat.K
open Go Go.Vm
set_option maxRecDepth 10000
set_option linter.unusedVariables false
def anyS (c : Cr) (s : Int) : Bool := c.ws.any fun w => decide (w.st = s)
theorem wit_take {l : List Wit} {s : Int} {k : Nat} (hk : k < l.length) : (∀ w ∈ l.take (k + 1), w.st ≠ s) ↔ (∀ w ∈ l.take k, w.st ≠ s) ∧ (l.getD k zWit).st ≠ s := by
  have g : l.getD k zWit = l[k] := by simp [List.getD_eq_getElem?_getD, hk]
  rw [List.take_succ_eq_append_getElem hk, g]
  constructor
  · exact fun h => ⟨fun v hv => h v (List.mem_append.2 (.inl hv)), h _ (List.mem_append.2 (.inr (List.mem_singleton.2 rfl)))⟩
  · rintro ⟨h1, h2⟩ v hv
    rw [List.mem_append, List.mem_singleton] at hv
    rcases hv with hv | rfl
    · exact h1 v hv
    · exact h2
theorem one_round {h : Heap} {lp pb pe bs : Nat} {n s : Int} {w : Wit} {f0 f1 f2 f5 f6 f7 f8 f9 f10 f11 f12 : Value} (hw : w.ok) (hlp : h.get lp = .loop .ready none [f0, f1, f2, .pointer (some ⟨pb, 0, none⟩), .pointer (some ⟨pe, 0, none⟩), f5, f6, f7, f8, f9, f10, f11, f12] [8, 9] zzQ_ra0 zzQ_rb0)
    (hpb : h.get pb = .cells [.func (.func fn_zyQ) ⟨[]⟩ ⟨[.pointer (some ⟨bs, 0, none⟩)]⟩] 0) (hpe : h.get pe = .cells [.bool false] 0) (hbs : h.get bs = .cells [.int .i64 s] 0) (ll : lp < h.n) (lb : pb < h.n) (le : pe < h.n) (ls : bs < h.n) (n1 : pe ≠ lp) (n2 : pb ≠ lp) (n3 : bs ≠ lp) :
    Runs Tryz.prog T0 (.yield lp) [.int .i64 n, .agg ⟨w.cells⟩] h (fun r h2 => (w.st ≠ s ∧ r = .bool true ∧ h2.get lp = .loop .ready none [f0, f1, f2, .pointer (some ⟨pb, 0, none⟩), .pointer (some ⟨pe, 0, none⟩), f5, f6, f7, f8, f9, f10, f11, f12] [8, 9] zzQ_ra0 zzQ_rb0 ∧ Fr (fun i => i = lp) h h2) ∨
      (w.st = s ∧ r = .bool false ∧ h2.get lp = .loop .done (some .ret) [f0, f1, f2, .pointer (some ⟨pb, 0, none⟩), .pointer (some ⟨pe, 0, none⟩), f5, f6, f7, f8, f9, f10, f11, f12] [8, 9] zzQ_ra0 zzQ_rb0 ∧ h2.get pe = .cells [.bool true] 0 ∧ Fr (fun i => i = lp ∨ i = pe) h h2)) (fun _ _ => False) := by
  haveI := l32 hw.hd.prev
  haveI := l32 hw.hd.vals
  haveI := l32 hw.hd.next
  haveI := l32 hw.hd.app
  haveI := l32 hw.hash
  haveI := hw.cv
  haveI := hw.cl
  haveI : HGet h lp _ := ⟨hlp⟩
  haveI : HGet h pb _ := ⟨hpb⟩
  haveI : HGet h pe _ := ⟨hpe⟩
  haveI : BLt lp h := ⟨ll⟩
  haveI : BLt pb h := ⟨lb⟩
  haveI : BLt pe h := ⟨le⟩
  haveI : BNe pe lp := ⟨n1⟩
  haveI : BNe lp pe := ⟨fun e => n1 e.symm⟩
  haveI : BNe pb lp := ⟨n2⟩
  refine Runs.round hlp put_two rfl zzQ_na0 zzQ_nb0 zzQ_ca0 zzQ_cb0 ?_
  refine stp ?_
  refine A.go ?_
  refine stp ?_
  refine O.call' (are1_ok hw (b := bs) (s := s) (by rw [Heap.get_set, if_neg n3, Heap.get_push, if_neg (by omega)]; exact hbs) (by simp; omega)) (fun r h3 hr => ?_)
  obtain ⟨rfl, f3⟩ := hr
  have m3 := f3.n
  simp only [Heap.n_set, Heap.n_push] at m3
  haveI g1 := f3.keep (b := lp) inferInstance (by simp; omega) id
  haveI g2 := f3.keep (b := pe) (o := .cells [.bool false] 0) inferInstance (by simp; omega) id
  haveI : BLt lp h3 := ⟨by omega⟩
  haveI : BLt pe h3 := ⟨by omega⟩
  have F3 : Fr (fun i => i = lp) h h3 := (Fr.refl.push.set (S := fun i => i = lp) fun _ => rfl).trans' (f3.mono fun _ _ e => e.elim)
  refine stp ?_
  refine C.if (fun e => ?_) (fun e => ?_)
  · refine stp ?_
    refine A.ret ?_
    refine .inr ⟨e, rfl, by rw [Heap.get_set, if_pos rfl], by rw [Heap.get_set, if_neg n1, Heap.get_set, if_pos rfl], ?_⟩
    exact (((F3.mono fun _ _ e => .inl e).set fun _ => .inr rfl).set fun _ => .inl rfl)
  · refine stp ?_
    refine A.on ?_
    exact .inl ⟨e, rfl, by rw [Heap.get_set, if_pos rfl], F3.set fun _ => rfl⟩
noncomputable abbrev orec (bx bs pb pe : Nat) (st : LoopState) (pend : Option Code) : AObj := .loop st pend [.func (.func fn_ztQ) ⟨[]⟩ ⟨[.pointer (some ⟨bx, 0, none⟩)]⟩, .func (.func fn_zyQ) ⟨[]⟩ ⟨[.pointer (some ⟨bs, 0, none⟩)]⟩, undef, .pointer (some ⟨pb, 0, none⟩), .pointer (some ⟨pe, 0, none⟩), undef, undef, .func (.func fn_ztQ) ⟨[]⟩ ⟨[.pointer (some ⟨bx, 0, none⟩)]⟩, undef, undef, undef, undef, undef] [8, 9] zzQ_ra0 zzQ_rb0
set_option maxHeartbeats 4000000 in
theorem one_ok {h : Heap} {p : Nat} {c : Cr} {s : Int} (hs : s ≠ 0) (hc : CrAt h p c) {bx bs : Nat} (hbx : h.get bx = .cells [.pointer (some ⟨p, 0, none⟩)] 0) (hbs : h.get bs = .cells [.int .i64 s] 0) (lx : bx < h.n) (ls : bs < h.n) :
    Runs Tryz.prog T0 (.fn fn_zzQ) [.func (.func fn_ztQ) ⟨[]⟩ ⟨[.pointer (some ⟨bx, 0, none⟩)]⟩, .func (.func fn_zyQ) ⟨[]⟩ ⟨[.pointer (some ⟨bs, 0, none⟩)]⟩] h (fun r h' => r = .bool (anyS c s) ∧ Fr (fun _ => False) h h') (fun _ _ => False) := by
  refine zzQ_runs ?_
  refine stp ?_
  have F0 : Fr (fun _ => False) h ((h.push (.cells [.func (.func fn_zyQ) ⟨[]⟩ ⟨[.pointer (some ⟨bs, 0, none⟩)]⟩] 0)).push (.cells [.bool false] 0)) := Fr.refl.push.push
  have n0 : ((h.push (.cells [.func (.func fn_zyQ) ⟨[]⟩ ⟨[.pointer (some ⟨bs, 0, none⟩)]⟩] 0)).push (.cells [.bool false] 0)).n = h.n + 2 := rfl
  have ne : (h.push (.cells [.func (.func fn_zyQ) ⟨[]⟩ ⟨[.pointer (some ⟨bs, 0, none⟩)]⟩] 0)).n = h.n + 1 := rfl
  have gpb : HGet ((h.push (.cells [.func (.func fn_zyQ) ⟨[]⟩ ⟨[.pointer (some ⟨bs, 0, none⟩)]⟩] 0)).push (.cells [.bool false] 0)) h.n (.cells [.func (.func fn_zyQ) ⟨[]⟩ ⟨[.pointer (some ⟨bs, 0, none⟩)]⟩] 0) := HGet.push (k := BLt.new) (g := HGet.new)
  have gpe : HGet ((h.push (.cells [.func (.func fn_zyQ) ⟨[]⟩ ⟨[.pointer (some ⟨bs, 0, none⟩)]⟩] 0)).push (.cells [.bool false] 0)) (h.push (.cells [.func (.func fn_zyQ) ⟨[]⟩ ⟨[.pointer (some ⟨bs, 0, none⟩)]⟩] 0)).n (.cells [.bool false] 0) := HGet.new
  generalize (h.push (.cells [.func (.func fn_zyQ) ⟨[]⟩ ⟨[.pointer (some ⟨bs, 0, none⟩)]⟩] 0)).push (.cells [.bool false] 0) = ha at *
  generalize (h.push (.cells [.func (.func fn_zyQ) ⟨[]⟩ ⟨[.pointer (some ⟨bs, 0, none⟩)]⟩] 0)).n = pe at *
  have FL : Fr (fun _ => False) ha ((ha.push (.defs false)).push (orec bx bs h.n pe .ready none)) := Fr.refl.push.push
  have F1 := F0.trans' FL
  have ca := hc.keep F1 fun _ _ => id
  have hlen := hc.ok.len
  refine range_ret (J := fun hx => (∀ w ∈ c.ws, w.st ≠ s) ∧ Fr (fun i => i = ha.n + 1) (ha.push (.defs false)) hx) (K := fun hx => (∃ w ∈ c.ws, w.st = s) ∧ hx.get pe = .cells [.bool true] 0 ∧ Fr (fun i => i = ha.n + 1 ∨ i = pe) (ha.push (.defs false)) hx) ?_ (fun hx hJ => ?_) (fun hx hK => ?_)
  · refine Runs.mono (all1_ok (I := fun k hx => hx.get (ha.n + 1) = orec bx bs h.n pe .ready none ∧ (∀ w ∈ c.ws.take k, w.st ≠ s) ∧ ha.n + 1 < hx.n ∧ Fr (fun i => i = ha.n + 1) (ha.push (.defs false)) hx) (K := fun hx => hx.get (ha.n + 1) = orec bx bs h.n pe .done (some .ret) ∧ (∃ w ∈ c.ws, w.st = s) ∧ hx.get pe = .cells [.bool true] 0 ∧ Fr (fun i => i = ha.n + 1 ∨ i = pe) (ha.push (.defs false)) hx) (by rw [F1.get _ lx id]; exact hbx) (F1.lt lx) ca ?_ ?_ ?_ ?_) (fun _ h' hh => ?_) (fun _ _ h => h)
    · rintro k hx hx' ⟨i1, i2, i3, i4⟩ hf
      exact ⟨by rw [hf.get _ i3 id]; exact i1, i2, hf.lt i3, i4.trans' (hf.mono fun _ _ e => e.elim)⟩
    · exact ⟨HGet.new.eq, by simp, by simp, Fr.refl.push⟩
    · rintro k hx hk ⟨i1, i2, i3, i4⟩ hst
      have hd : (ha.push (.defs false)).n = ha.n + 1 := rfl
      have i5 := i4.n
      refine Runs.mono (one_round (s := s) (pb := h.n) (pe := pe) (bs := bs) (Cr.get hc.ok hk) i1 ?_ ?_ ?_ i3 (by omega) (by omega) (by omega) (by omega) (by omega) (by omega)) (fun r h' hh => ?_) (fun _ _ h => h)
      · rw [i4.get _ (by omega) (by omega), Heap.get_push, if_neg (by omega)]; exact gpb.eq
      · rw [i4.get _ (by omega) (by omega), Heap.get_push, if_neg (by omega)]; exact gpe.eq
      · rw [i4.get _ (by omega) (by omega), Heap.get_push, if_neg (by omega), F0.get _ ls id]; exact hbs
      · rcases hh with ⟨e1, rfl, e2, e3⟩ | ⟨e1, rfl, e2, e3, e4⟩
        · exact .inl ⟨rfl, e2, (wit_take (by omega)).2 ⟨i2, e1⟩, e3.lt i3, i4.trans' e3⟩
        · exact .inr ⟨rfl, e2, ⟨_, wit_mem (by omega), e1⟩, e3, (i4.mono fun _ _ e => .inl e).trans' e4⟩
    · rintro k hx hk ⟨i1, i2, i3, i4⟩ hst
      exact ⟨i1, (wit_take (by omega)).2 ⟨i2, by omega⟩, i3, i4⟩
    · rcases hh with ⟨i1, i2, i3, i4⟩ | ⟨i1, i2, i3, i4⟩
      · exact .inl ⟨i1, fun w hw => i2 w (by rw [List.take_of_length_le (by omega)]; exact hw), i4⟩
      · exact .inr ⟨i1, i2, i3, i4⟩
  · obtain ⟨h0, hf⟩ := hJ
    have hd : (ha.push (.defs false)).n = ha.n + 1 := rfl
    have gpe2 : hx.get pe = .cells [.bool false] 0 := by rw [hf.get _ (by omega) (by omega), Heap.get_push, if_neg (by omega)]; exact gpe.eq
    have gdf : hx.get ha.n = .defs false := by rw [hf.get _ (by omega) (by omega)]; exact HGet.new.eq
    have hfx : Fr (fun _ => False) h hx := F0.push.trans hf fun i hi e => by omega
    have hxn := hf.n
    haveI : HGet hx pe _ := ⟨gpe2⟩
    haveI : HGet hx ha.n _ := ⟨gdf⟩
    haveI : BLt pe hx := ⟨by omega⟩
    haveI : BNe pe (ha.n + 1) := ⟨by omega⟩
    haveI : BNe ha.n (ha.n + 1) := ⟨by omega⟩
    haveI : BNe ha.n pe := ⟨by omega⟩
    haveI : BNe pe ha.n := ⟨by omega⟩
    refine stp ?_
    refine B.retC ?_
    have ea : anyS c s = false := by
      unfold anyS
      rw [List.any_eq_false]
      exact fun w hw => by simpa using h0 w hw
    rw [ea]
    exact ⟨rfl, (((hfx.set fun e => by omega).set fun e => by omega).set fun e => by omega).set fun e => by omega⟩
  · obtain ⟨⟨w, hw, e0⟩, gpe2, hf⟩ := hK
    have hd : (ha.push (.defs false)).n = ha.n + 1 := rfl
    have gdf : hx.get ha.n = .defs false := by rw [hf.get _ (by omega) (by omega)]; exact HGet.new.eq
    have hfx : Fr (fun _ => False) h hx := F0.push.trans hf fun i hi e => by omega
    have hxn := hf.n
    haveI : HGet hx pe _ := ⟨gpe2⟩
    haveI : HGet hx ha.n _ := ⟨gdf⟩
    haveI : BLt pe hx := ⟨by omega⟩
    haveI : BNe pe (ha.n + 1) := ⟨by omega⟩
    haveI : BNe ha.n (ha.n + 1) := ⟨by omega⟩
    haveI : BNe ha.n pe := ⟨by omega⟩
    haveI : BNe pe ha.n := ⟨by omega⟩
    refine stp ?_
    refine B.retC ?_
    have ea : anyS c s = true := by
      unfold anyS
      rw [List.any_eq_true]
      exact ⟨w, hw, by simpa using e0⟩
    rw [ea]
    exact ⟨rfl, ((hfx.set fun e => by omega).set fun e => by omega).set fun e => by omega⟩
end Go.Proofs.YtlckmpioipiihaaGreat.A

namespace Go.Proofs.YtlckmpioipiihaaGreat.A
open Go.Proofs.YtlckmpioipiihaaGreat.K
open Go Go.Vm
set_option maxRecDepth 10000
set_option linter.unusedVariables false
def stW (c : Cr) (who : Int) : Int := (c.ws.getD who.toNat zWit).st
def mayS (c : Cr) (who : Int) : Int := if anyS c 4 = true then 11 else if who < 0 ∨ 16 ≤ who then 10 else if stW c who = 0 then 10 else if stW c who ≠ 1 then 8 else 0
def resS (c : Cr) : Int := if anyS c 4 = false ∧ anyS c 1 = true then 0 else if anyS c 4 = true then 3 else if anyS c 2 = true then 1 else 2
def stateS (c : Cr) (who : Int) : Int := if who < 0 ∨ 16 ≤ who then 0 else stW c who
theorem any_ok {h : Heap} {p : Nat} {c : Cr} {s : Int} (hs : s ≠ 0) (hc : CrAt h p c) {bx bs : Nat} (hbx : h.get bx = .cells [.pointer (some ⟨p, 0, none⟩)] 0) (hbs : h.get bs = .cells [.int .i64 s] 0) (lx : bx < h.n) (ls : bs < h.n) :
    Runs Tryz.prog T0 (.fn fn_zzQ) [.func (.func fn_ztQ) ⟨[]⟩ ⟨[.pointer (some ⟨bx, 0, none⟩)]⟩, .func (.func fn_zyQ) ⟨[]⟩ ⟨[.pointer (some ⟨bs, 0, none⟩)]⟩] h (fun r h' => r = .bool (anyS c s) ∧ Fr (fun _ => False) h h') (fun _ _ => False) := one_ok hs hc hbx hbs lx ls
theorem State_ok {h : Heap} {p : Nat} {c : Cr} {who : Int} (hc : CrAt h p c) : Runs Tryz.prog T0 (.fn fn_zrQ) [.pointer (some ⟨p, 0, none⟩), .int .i64 who] h (fun r h' => r = .int .i64 (stateS c who) ∧ h' = h) (fun _ _ => False) := by
  refine zrQ_runs ?_
  refine stp ?_
  refine O.call' (off_ok hc) (fun r h1 hr => ?_)
  obtain ⟨rfl, rfl⟩ := hr
  unfold stateS
  refine stp ?_
  refine O.dec (fun e1 => ?_) (fun e1 => ?_)
  · refine stp ?_
    rw [if_pos (.inl e1)]
    exact ⟨rfl, rfl⟩
  refine stp ?_
  refine C.if (fun e2 => ?_) (fun e2 => ?_)
  · refine stp ?_
    rw [if_pos (.inr e2)]
    exact ⟨rfl, rfl⟩
  rw [if_neg (by omega)]
  haveI := Cr.st hc.ok hc.get (k := who.toNat) (by omega)
  refine stp ?_
  exact ⟨rfl, rfl⟩
set_option maxHeartbeats 4000000 in
theorem may_ok {h : Heap} {p : Nat} {c : Cr} {who : Int} (hc : CrAt h p c) : Runs Tryz.prog T0 (.fn fn_zuQ) [.pointer (some ⟨p, 0, none⟩), .int .i64 who] h (fun r h' => r = .int .i64 (mayS c who) ∧ Fr (fun _ => False) h h') (fun _ _ => False) := by
  refine zuQ_runs ?_
  refine stp ?_
  refine O.call' (off_ok hc) (fun r h1 hr => ?_)
  obtain ⟨rfl, rfl⟩ := hr
  unfold mayS
  refine stp ?_
  refine O.call' all_ok (fun r h2 hr => ?_)
  obtain ⟨rfl, n2, g2, f2⟩ := hr
  refine stp ?_
  refine O.call' are_ok (fun r h3 hr => ?_)
  obtain ⟨rfl, n3, g3, f3⟩ := hr
  refine stp ?_
  have c3 := (hc.keep f2 fun _ _ => id).keep f3 fun _ _ => id
  refine O.call' (any_ok (by omega) c3 (by rw [f3.get _ (by omega) id]; exact g2) g3 (by omega) (by omega)) (fun r h4 hr => ?_)
  obtain ⟨rfl, f4⟩ := hr
  have F4 := (f2.trans' f3).trans' f4
  have c4 := c3.keep f4 fun _ _ => id
  refine stp ?_
  refine C.ifB (fun e1 => ?_) (fun e1 => ?_)
  · refine stp ?_
    rw [if_pos e1]
    exact ⟨rfl, F4⟩
  rw [if_neg (by rw [e1]; simp)]
  refine stp ?_
  refine O.dec (fun e2 => ?_) (fun e2 => ?_)
  · refine stp ?_
    rw [if_pos (.inl e2)]
    exact ⟨rfl, F4⟩
  refine stp ?_
  refine O.dec (fun e3 => ?_) (fun e3 => ?_)
  · refine stp ?_
    rw [if_pos (.inr e3)]
    exact ⟨rfl, F4⟩
  rw [if_neg (by omega)]
  haveI := Cr.st c4.ok c4.get (k := who.toNat) (by omega)
  rw [show (c.ws.getD who.toNat zWit).st = stW c who from rfl] at *
  refine stp ?_
  refine C.if (fun e4 => ?_) (fun e4 => ?_)
  · refine stp ?_
    rw [if_pos e4]
    exact ⟨rfl, F4⟩
  rw [if_neg e4]
  refine stp ?_
  refine C.ifN (fun e5 => ?_) (fun e5 => ?_)
  · refine stp ?_
    rw [if_pos e5]
    exact ⟨rfl, F4⟩
  rw [if_neg (fun e => e e5)]
  refine stp ?_
  exact ⟨rfl, F4⟩
end Go.Proofs.YtlckmpioipiihaaGreat.A

namespace Go.Proofs.YtlckmpioipiihaaGreat.A
open Go.Proofs.YtlckmpioipiihaaGreat.K
open Go Go.Vm
set_option maxRecDepth 10000
set_option linter.unusedVariables false
theorem block_owned {a : Option Addr} {n c b : Nat} (h : blockOf (.slice a n c) b) : ownedBy (.slice a n c) b := by
  cases a with
  | none => simp [blockOf] at h
  | some a => exact h.1
theorem mayS_zero {c : Cr} {who : Int} (h : mayS c who = 0) : anyS c 4 = false ∧ 0 ≤ who ∧ who < 16 ∧ stW c who = 1 := by
  unfold mayS at h
  split at h
  · cases h
  · rename_i h1
    split at h
    · cases h
    · rename_i h2
      split at h
      · cases h
      · rename_i h3
        split at h
        · cases h
        · rename_i h4
          exact ⟨by simpa using h1, by omega, by omega, Classical.not_not.1 h4⟩
abbrev Cr.put (c : Cr) (k : Nat) (w : Wit) : Cr := { c with ws := c.ws.set k w }
theorem CrAt.put {h : Heap} {p k : Nat} {c : Cr} {w : Wit} (hc : CrAt h p c) (hw : w.ok) (ha : WAt h p w) : CrAt (h.set p (.cells (c.put k w).cells 0)) p (c.put k w) := by
  have f : Fr (fun i => i = p) h (h.set p (.cells (c.put k w).cells 0)) := Fr.refl.set fun _ => rfl
  refine ⟨Cr.okS hc.ok hw, hc.lt, by rw [Heap.get_set, if_pos rfl], fun v hv => ?_⟩
  rcases List.mem_or_eq_of_mem_set hv with h1 | h1
  · exact (hc.ws v h1).keep f fun i _ hi => hi
  · rw [h1]; exact ha.keep f fun i _ hi => hi
abbrev Cr.stand (c : Cr) (k : Nat) (s : Int) : Cr := c.put k { c.ws.getD k zWit with st := s }
theorem CrAt.stand {h : Heap} {p k : Nat} {c : Cr} {s : Int} (hc : CrAt h p c) (hk : k < 16) : CrAt (h.set p (.cells (c.stand k s).cells 0)) p (c.stand k s) := by
  have h1 := Cr.get hc.ok hk
  have h2 := hc.ws _ (wit_mem (by rw [hc.ok.len]; exact hk))
  exact hc.put ⟨h1.hd, h1.hash, h1.cv, h1.cl⟩ ⟨h2.sv, h2.sl, h2.nv, h2.nl, h2.lv, h2.ll⟩
def leaveC (c : Cr) (who : Int) : Cr := if mayS c who = 0 then c.stand who.toNat 3 else c
theorem Leave_ok {h : Heap} {p : Nat} {c : Cr} {who : Int} (hc : CrAt h p c) : Runs Tryz.prog T0 (.fn fn_zoQ) [.pointer (some ⟨p, 0, none⟩), .int .i64 who] h (fun r h' => r = .int .i64 (mayS c who) ∧ CrAt h' p (leaveC c who) ∧ Fr (fun i => i = p) h h') (fun _ _ => False) := by
  refine zoQ_runs ?_
  refine stp ?_
  refine O.call' (may_ok hc) (fun r h1 hr => ?_)
  obtain ⟨rfl, f1⟩ := hr
  have c1 := hc.keep f1 fun _ _ => id
  unfold leaveC
  refine stp ?_
  refine C.if (fun e => ?_) (fun e => ?_)
  · rw [if_pos e]
    obtain ⟨_, w1, w2, _⟩ := mayS_zero e
    haveI := Cr.putS c1.ok c1.get (k := who.toNat) (by omega) 3
    refine stp ?_
    exact ⟨rfl, c1.stand (by omega), (f1.mono fun _ _ h => h.elim).set fun _ => rfl⟩
  · rw [if_neg e]
    refine stp ?_
    exact ⟨rfl, c1, f1.mono fun _ _ h => h.elim⟩
def sayE (c : Cr) (who : Int) (x : Bk) : Int := if mayS c who ≠ 0 then mayS c who else checkS x.h
def Said (n : Nat) (c : Cr) (who : Int) (x : Bk) (c' : Cr) : Prop :=
  if sayE c who x ≠ 0 then c' = c else if hashH x.h = c.hash then c' = c.stand who.toNat 2 else ∃ sw sm, c' = c.put who.toNat ⟨4, x, sw, sm⟩ ∧ ∀ i, blockOf sw i ∨ blockOf sm i → n ≤ i
set_option maxHeartbeats 8000000 in
theorem Say_ok {h : Heap} {p : Nat} {c : Cr} {who : Int} {x : Bk} {sv sl : Value} (hc : CrAt h p c) (hb : BkRd h x sv sl) (h1 : x.c.votes.length ≤ 70) (h2 : x.vals.length ≤ 70) :
    Runs Tryz.prog T0 (.fn fn_zqQ) [.pointer (some ⟨p, 0, none⟩), .int .i64 who, .agg ⟨x.cells sv sl⟩] h (fun r h' => r = .int .i64 (sayE c who x) ∧ (∃ c', Said h.n c who x c' ∧ CrAt h' p c') ∧ Fr (fun i => i = p) h h') (fun _ _ => False) := by
  have hx := hb.hd
  have hch := hb.hash
  haveI := l32 hx.prev
  haveI := l32 hx.vals
  haveI := l32 hx.next
  haveI := l32 hx.app
  haveI := l32 hch
  obtain ⟨a1, c1, rfl, _, _⟩ := id hb.sv
  obtain ⟨a2, c2, rfl, _, _⟩ := id hb.sl
  refine zqQ_runs ?_
  refine stp ?_
  have F0 : Fr (fun _ => False) h (h.push (.cells (x.cells (.slice a1 x.c.votes.length c1) (.slice a2 x.vals.length c2)) 0)) := Fr.refl.push
  have g0 : HGet (h.push (.cells (x.cells (.slice a1 x.c.votes.length c1) (.slice a2 x.vals.length c2)) 0)) h.n (.cells (x.cells (.slice a1 x.c.votes.length c1) (.slice a2 x.vals.length c2)) 0) := HGet.new
  have n0 : (h.push (.cells (x.cells (.slice a1 x.c.votes.length c1) (.slice a2 x.vals.length c2)) 0)).n = h.n + 1 := rfl
  generalize h.push (.cells (x.cells (.slice a1 x.c.votes.length c1) (.slice a2 x.vals.length c2)) 0) = h0 at *
  refine O.call' (may_ok (hc.keep F0 fun _ _ => id)) (fun r h3 hr => ?_)
  obtain ⟨rfl, f3⟩ := hr
  have F3 := F0.trans' f3
  have n3 := f3.n
  have g3 := f3.keep g0 (by omega) id
  haveI := g3
  unfold sayE Said
  refine stp ?_
  refine C.ifN (fun e1 => ?_) (fun e1 => ?_)
  · refine stp ?_
    unfold sayE
    rw [if_pos e1]
    exact ⟨rfl, ⟨c, by rw [if_pos e1], hc.keep F3 fun _ _ => id⟩, F3.mono fun _ _ h => h.elim⟩
  unfold sayE
  rw [if_neg (fun e => e e1)]
  obtain ⟨_, w1, w2, _⟩ := mayS_zero e1
  refine stp ?_
  refine O.call' (BHash_ok (hb.keep F3 fun _ _ => id)) (fun r h4 hr => ?_)
  obtain ⟨rfl, f4⟩ := hr
  have F4 := F3.trans' f4
  have n4 := f4.n
  have g4 := f4.keep g3 (by omega) id
  haveI := l32 (hashH_len x.h)
  haveI := g4
  haveI : BLt h.n h4 := ⟨by omega⟩
  refine stp ?_
  have F5 : Fr (fun _ => False) h (h4.push (.cells (bcells (hashH x.h)) 0)) := F4.push
  have g5 : HGet (h4.push (.cells (bcells (hashH x.h)) 0)) h.n (.cells (x.cells (.slice a1 x.c.votes.length c1) (.slice a2 x.vals.length c2)) 0) := HGet.push (g := g4)
  have gH : HGet (h4.push (.cells (bcells (hashH x.h)) 0)) h4.n (.cells (bcells (hashH x.h)) 0) := HGet.new
  have n5 : (h4.push (.cells (bcells (hashH x.h)) 0)).n = h4.n + 1 := rfl
  generalize h4.push (.cells (bcells (hashH x.h)) 0) = h5 at *
  have c5 := hc.keep F5 fun _ _ => id
  haveI := g5
  haveI := gH
  haveI : BLt h.n h5 := ⟨by omega⟩
  haveI : BLt h4.n h5 := ⟨by omega⟩
  refine C.ifN (fun e2 => ?_) (fun e2 => ?_)
  · refine stp ?_
    exact ⟨rfl, ⟨c, by rw [if_pos e2], c5⟩, F5.mono fun _ _ h => h.elim⟩
  haveI := l32 hc.ok.hash
  haveI := Cr.sum c5.ok c5.get
  refine stp ?_
  rw [same_bytes]
  refine C.if (fun e3 => ?_) (fun e3 => ?_)
  · haveI := Cr.putS c5.ok c5.get (k := who.toNat) (by omega) 2
    refine stp ?_
    exact ⟨by rw [e2], ⟨_, by rw [if_neg (fun e => e e2), if_pos e3], c5.stand (by omega)⟩, (F5.mono fun _ _ h => h.elim).set fun _ => rfl⟩
  · refine stp ?_
    refine D.callX (own_ok (hb.keep F5 fun _ _ => id) (by omega) (by omega)) (fun r h6 hr => ?_) (fun r h6 hr => ?_) (fun _ _ hx => hx.elim)
    · exact StabL.ok
    obtain ⟨sw, sm, rfl, o1, o2, m1, m2, f6⟩ := hr
    have F6 := F5.trans' f6
    have n6 := f6.n
    have c6 := hc.keep F6 fun _ _ => id
    have hpl := hc.lt
    obtain ⟨a3, c3, rfl, _, _⟩ := id o1.rd
    obtain ⟨a4, c4, rfl, _, _⟩ := id o2.rd
    have hw : (⟨4, x, .slice a3 x.c.votes.length c3, .slice a4 x.vals.length c4⟩ : Wit).ok := ⟨hx, hch, inferInstance, inferInstance⟩
    have ha : WAt h6 p ⟨4, x, .slice a3 x.c.votes.length c3, .slice a4 x.vals.length c4⟩ := ⟨o1.rd, o2.rd, fun e => by have := m1 p (block_owned e); omega, fun e => by have := m2 p (block_owned e); omega, h1, h2⟩
    haveI := Cr.putW c6.ok hw c6.get (k := who.toNat) (by omega)
    refine stp ?_
    exact ⟨by rw [e2], ⟨_, by rw [if_neg (fun e => e e2), if_neg e3]; exact ⟨_, _, rfl, fun i hi => by have := F5.n; rcases hi with hi | hi; (have := m1 i (block_owned hi); omega); (have := m2 i (block_owned hi); omega)⟩, c6.put hw ha⟩, (F6.mono fun _ _ h => h.elim).set fun _ => rfl⟩
end Go.Proofs.YtlckmpioipiihaaGreat.A

namespace Go.Proofs.YtlckmpioipiihaaGreat.A
open Go.Proofs.YtlckmpioipiihaaGreat.K
open Go Go.Vm
set_option maxRecDepth 10000
set_option linter.unusedVariables false
def newE : Int → List Int → Int
  | _, [] => 0
  | last, w :: l => if w < 0 ∨ 16 ≤ w then 3 else if w ≤ last then 9 else newE w l
def askW (ws : List Wit) (w : Int) : List Wit := ws.set w.toNat { ws.getD w.toNat zWit with st := 1 }
def askAll (l : List Int) : List Wit := l.foldl askW (List.replicate 16 zWit)
def lastI (l : List Int) (k : Nat) : Int := if k = 0 then -1 else l.getD (k - 1) 0
theorem newE_at {l : List Int} {k : Nat} (hk : k < l.length) : newE (lastI l k) (l.drop k) = if l.getD k 0 < 0 ∨ 16 ≤ l.getD k 0 then 3 else if l.getD k 0 ≤ lastI l k then 9 else newE (lastI l (k + 1)) (l.drop (k + 1)) := by
  have : l.drop k = l.getD k 0 :: l.drop (k + 1) := by
    rw [List.drop_eq_getElem_cons hk]
    simp [List.getD, hk]
  rw [this]
  simp only [newE, lastI, Nat.add_sub_cancel, if_neg (Nat.succ_ne_zero k)]
  rfl
theorem askAll_at {l : List Int} {k : Nat} (hk : k < l.length) : askAll (l.take (k + 1)) = askW (askAll (l.take k)) (l.getD k 0) := by
  have g : l.getD k 0 = l[k] := by simp [List.getD_eq_getElem?_getD, hk]
  unfold askAll
  rw [List.take_succ_eq_append_getElem hk, g, List.foldl_append]
  rfl
def ncells (l : List Int) : List Value := l.map fun n => .int .i64 n
theorem ncells_len (l : List Int) : (ncells l).length = l.length := by simp [ncells]
theorem ncell_at {h : Heap} {b o n k : Nat} {l : List Int} (hc : cellsAt h b o (n * 1) = some (ncells l)) (hn : l.length = n) (hk : k < n) : Cell h b (o + k) (.int .i64 (l.getD k 0)) := ⟨by
  have := cellsAt_sub (k := k) (m := 1) hc (by omega)
  rw [this]
  subst hn
  unfold ncells
  have g : l.getD k 0 = l[k] := by simp [List.getD, hk]
  rw [← List.map_drop, List.drop_eq_getElem_cons hk, List.map_cons, g]
  rfl⟩
def crZ : List Value := z32 ++ (wtc (List.replicate 16 zWit) ++ [.bool false])
theorem zAll : ∀ w ∈ List.replicate 16 zWit, w.ok := fun w hw => by rw [List.eq_of_mem_replicate hw]; exact zWit_ok
theorem fill_cr {l : List UInt8} (hl : l.length = 32) : fillL crZ [(0, 32, .agg ⟨bcells l⟩), (2704, 1, .bool true)] = some (⟨l, List.replicate 16 zWit⟩ : Cr).cells := by
  have h1 : (bcells l).length = 32 := by rw [bcells_len, hl]
  have h2 : (wtc (List.replicate 16 zWit)).length = 2672 := by rw [wtc_len zAll, List.length_replicate]
  have h3 : z32.length = 32 := rfl
  have hz : crZ.length = 2705 := by
    unfold crZ
    rw [List.length_append, List.length_append, h2, h3]
    rfl
  have e1 : over crZ 0 (bcells l) = bcells l ++ (wtc (List.replicate 16 zWit) ++ [.bool false]) := by
    unfold crZ
    rw [over_front _ _ (by rw [h1, List.length_append, h3]; omega), h1, List.drop_left' h3]
  have e2 : over (bcells l ++ (wtc (List.replicate 16 zWit) ++ [.bool false])) 2704 [.bool true] = bcells l ++ (wtc (List.replicate 16 zWit) ++ [.bool true]) := by
    have e3 : 2704 = (bcells l ++ wtc (List.replicate 16 zWit)).length := by rw [List.length_append, h1, h2]
    have := over_mid (bcells l ++ wtc (List.replicate 16 zWit)) [.bool false] [] [.bool true] (by simp)
    simp only [List.append_assoc, List.append_nil] at this
    rw [e3, this]
    rfl
  have s1 : (Value.agg ⟨bcells l⟩).cells.size = 32 := by simp [Value.cells, h1]
  have s2 : (Value.agg ⟨bcells l⟩).cells.toList = bcells l := by simp [Value.cells]
  simp only [fillL]
  rw [if_pos ⟨s1, by omega⟩, s2, e1, if_pos ⟨rfl, by simp only [List.length_append, h1, h2, List.length_cons, List.length_nil]; omega⟩]
  show some (over _ 2704 [.bool true]) = _
  rw [e2]
theorem XOp.mkCr {P : Program} {ts : List Value} {h : Heap} {zero : List Value} {x : Operand} {l : List UInt8} (hl : l.length = 32) (hz : zero = crZ) [e : Ev ts x (.agg ⟨bcells l⟩)] : XOp P ts h (.build zero [(0, 32, x), (2704, 1, .const (.bool true))]) (.agg ⟨(⟨l, List.replicate 16 zWit⟩ : Cr).cells⟩) h := ⟨rfl, by
  subst hz
  simp only [xop, List.map_cons, List.map_nil, e.eq]
  rw [show eval ts (.const (.bool true)) = .bool true from rfl, fill_cr hl]⟩
set_option maxHeartbeats 8000000 in
theorem New_ok {h : Heap} {x : Bk} {sv sl v : Value} {l : List Int} (hb : BkRd h x sv sl) (hv : Rd h 1 v (ncells l) l.length) (hsm : l.length < 1048576) :
    Runs Tryz.prog T0 (.fn fn_zwQ) [.agg ⟨x.cells sv sl⟩, v] h (fun r h' => Fr (fun _ => False) h h' ∧ (
      (checkS x.h ≠ 0 ∧ r = .tuple ⟨[.pointer none, .int .i64 (checkS x.h)]⟩) ∨
      (checkS x.h = 0 ∧ newE (-1) l ≠ 0 ∧ r = .tuple ⟨[.pointer none, .int .i64 (newE (-1) l)]⟩) ∨
      (checkS x.h = 0 ∧ newE (-1) l = 0 ∧ ∃ p, r = .tuple ⟨[.pointer (some ⟨p, 0, none⟩), .int .i64 0]⟩ ∧ h.n ≤ p ∧ CrAt h' p ⟨hashH x.h, askAll l⟩))) (fun _ _ => False) := by
  have hx := hb.hd
  have hch := hb.hash
  haveI := l32 hx.prev
  haveI := l32 hx.vals
  haveI := l32 hx.next
  haveI := l32 hx.app
  haveI := l32 hch
  obtain ⟨a1, c1, rfl, _, _⟩ := id hb.sv
  obtain ⟨a2, c2, rfl, _, _⟩ := id hb.sl
  obtain ⟨a, cap, rfl, hlen, hcl⟩ := hv
  refine zwQ_runs ?_
  refine stp ?_
  have F0 : Fr (fun _ => False) h (h.push (.cells (x.cells (.slice a1 x.c.votes.length c1) (.slice a2 x.vals.length c2)) 0)) := Fr.refl.push
  have n0 : (h.push (.cells (x.cells (.slice a1 x.c.votes.length c1) (.slice a2 x.vals.length c2)) 0)).n = h.n + 1 := rfl
  generalize h.push (.cells (x.cells (.slice a1 x.c.votes.length c1) (.slice a2 x.vals.length c2)) 0) = h0 at *
  refine O.call' (BHash_ok (hb.keep F0 fun _ _ => id)) (fun r h4 hr => ?_)
  obtain ⟨rfl, f4⟩ := hr
  have F4 := F0.trans' f4
  have n4 := f4.n
  haveI := l32 (hashH_len x.h)
  refine stp ?_
  have F5 : Fr (fun _ => False) h (h4.push (.cells (bcells (hashH x.h)) 0)) := F4.push
  have gH : HGet (h4.push (.cells (bcells (hashH x.h)) 0)) h4.n (.cells (bcells (hashH x.h)) 0) := HGet.new
  have n5 : (h4.push (.cells (bcells (hashH x.h)) 0)).n = h4.n + 1 := rfl
  generalize h4.push (.cells (bcells (hashH x.h)) 0) = h5 at *
  haveI := gH
  haveI : BLt h4.n h5 := ⟨by omega⟩
  refine C.ifN (fun e2 => ?_) (fun e2 => ?_)
  · refine stp ?_
    exact ⟨F5, .inl ⟨e2, rfl⟩⟩
  refine stp ?_
  refine O.how (XOp.mkCr (hashH_len x.h) (by kernel_rfl)) ?_
  have hc0 : (⟨hashH x.h, List.replicate 16 zWit⟩ : Cr).ok := ⟨hashH_len _, by simp, zAll⟩
  have hcz : ∀ {g : Heap} {p : Nat}, ∀ w ∈ (⟨hashH x.h, List.replicate 16 zWit⟩ : Cr).ws, WAt g p w := fun w hw => by
    rw [List.eq_of_mem_replicate hw]
    exact ⟨Rd.nil, Rd.nil, fun e => e, fun e => e, by simp [zWit], by simp [zWit]⟩
  generalize hC : (⟨hashH x.h, List.replicate 16 zWit⟩ : Cr) = C0 at *
  refine stp ?_
  have F6 : Fr (fun _ => False) h (h5.push (.cells C0.cells 0)) := F5.push
  have C6 : CrAt (h5.push (.cells C0.cells 0)) h5.n C0 := ⟨hc0, by simp, HGet.new.eq, hcz⟩
  have n6 : (h5.push (.cells C0.cells 0)).n = h5.n + 1 := rfl
  generalize h5.push (.cells C0.cells 0) = h6 at *
  refine loop2 zwQ_l0_M 9 25 (fun q v9 v25 h' => ∃ k : Nat, k ≤ l.length ∧ q = l.length - k ∧ v9 = .int .i64 (lastI l k) ∧ v25 = .int .i64 k ∧ newE (-1) l = newE (lastI l k) (l.drop k) ∧ CrAt h' h5.n ⟨hashH x.h, askAll (l.take k)⟩ ∧ Fr (fun i => i = h5.n) h6 h') ?_ l.length ⟨0, by omega, rfl, rfl, rfl, rfl, by rw [← hC] at C6; exact C6, Fr.refl⟩
  rintro m v9 v25 h' x4 x5 x11 x26 x27 x28 x29 x30 x31 x32 x33 x34 x35 x36 x37 x38 x39 x40 x41 x42 x43 x44 x45 x46 x47 ⟨k, hk, rfl, rfl, rfl, hne, hC', hf⟩
  have F7 : Fr (fun _ => False) h h' := F6.trans hf fun i hi e => by have := F5.n; omega
  refine stp ?_
  refine C.if (fun hlt => ?_) (fun hge => ?_)
  · have hlt : k < l.length := by omega
    obtain ⟨b, o, sp, rfl, hb1, hcc⟩ := hcl (by omega)
    have hcc' : cellsAt h' b o (l.length * 1) = some (ncells l) := by rw [cellsAt_keep F7 hb1 id]; exact hcc
    haveI := ncell_at hcc' rfl hlt
    have hat := newE_at hlt
    have hask := askAll_at hlt
    rw [← hne] at hat
    refine stp ?_
    generalize hw : l.getD k 0 = w at *
    have hl1 : lastI l (k + 1) = w := by unfold lastI; rw [if_neg (Nat.succ_ne_zero k), Nat.add_sub_cancel, hw]
    refine O.dec (fun e3 => ?_) (fun e3 => ?_)
    · refine stp ?_
      rw [if_pos (.inl e3)] at hat
      exact ⟨F7, .inr (.inl ⟨by omega, by omega, by rw [hat]⟩)⟩
    refine stp ?_
    refine C.if (fun e4 => ?_) (fun e4 => ?_)
    · refine stp ?_
      rw [if_pos (.inr e4)] at hat
      exact ⟨F7, .inr (.inl ⟨by omega, by omega, by rw [hat]⟩)⟩
    rw [if_neg (by omega)] at hat
    refine stp ?_
    refine C.if (fun e5 => ?_) (fun e5 => ?_)
    · refine stp ?_
      rw [if_pos e5] at hat
      exact ⟨F7, .inr (.inl ⟨by omega, by omega, by rw [hat]⟩)⟩
    rw [if_neg e5] at hat
    haveI := Cr.putS hC'.ok hC'.get (k := w.toNat) (by omega) 1
    have hlt5 := hC'.lt
    haveI : BLt h5.n h' := ⟨hlt5⟩
    refine stp ?_
    exact loop2a 9 25 (l.length - (k + 1)) (by omega) ⟨k + 1, by omega, rfl, by rw [hl1], rfl, hat, by rw [hask]; exact hC'.stand (by omega), hf.set fun _ => rfl⟩
  · refine stp ?_
    obtain rfl : k = l.length := by omega
    rw [List.drop_eq_nil_of_le (by omega)] at hne
    rw [List.take_of_length_le (by omega)] at hC'
    exact ⟨F7, .inr (.inr ⟨by omega, hne, h5.n, rfl, by have := F5.n; omega, hC'⟩)⟩
end Go.Proofs.YtlckmpioipiihaaGreat.A

namespace Go.Proofs.YtlckmpioipiihaaGreat.A
open Go.Proofs.YtlckmpioipiihaaGreat.K
open Go Go.Vm
set_option maxRecDepth 10000
set_option linter.unusedVariables false
def SS (c : Cr) : List Int := c.ws.map Wit.st
theorem SS_get (c : Cr) (k : Nat) : (c.ws.getD k zWit).st = (SS c).getD k 0 := by
  unfold SS
  simp only [List.getD_eq_getElem?_getD, List.getElem?_map]
  cases c.ws[k]? <;> rfl
theorem anyS_iff {c : Cr} {s : Int} : anyS c s = true ↔ s ∈ SS c := by
  unfold anyS SS
  rw [List.any_eq_true, List.mem_map]
  constructor
  · rintro ⟨w, h1, h2⟩; exact ⟨w, h1, by simpa using h2⟩
  · rintro ⟨w, h1, h2⟩; exact ⟨w, h1, by simpa using h2⟩
theorem SS_put (c : Cr) (k : Nat) (w : Wit) : SS (c.put k w) = (SS c).set k w.st := by
  unfold SS
  rw [List.map_set]
theorem SS_stand (c : Cr) (k : Nat) (s : Int) : SS (c.stand k s) = (SS c).set k s := SS_put _ _ _
theorem askAll_map (l : List Int) : (askAll l).map Wit.st = l.foldl (fun S w => S.set w.toNat 1) (List.replicate 16 0) := by
  have : ∀ (l : List Int) (ws : List Wit), (l.foldl askW ws).map Wit.st = l.foldl (fun S w => S.set w.toNat 1) (ws.map Wit.st) := by
    intro l
    induction l with
    | nil => intro ws; rfl
    | cons w l ih =>
      intro ws
      simp only [List.foldl_cons]
      rw [ih]
      unfold askW
      rw [List.map_set]
  unfold askAll
  rw [this]
  simp [zWit]
def Dif (S : List Int) (d : Int) : Prop := (d = -1 ∧ (4 : Int) ∉ S) ∨ ∃ k : Nat, k < 16 ∧ d = k ∧ S.getD k 0 = 4 ∧ ∀ j, S.getD j 0 = 4 → j = k
theorem getD_set {S : List Int} {k j : Nat} {s : Int} (hk : k < S.length) : (S.set k s).getD j 0 = if j = k then s else S.getD j 0 := by
  simp only [List.getD_eq_getElem?_getD, List.getElem?_set]
  by_cases h : k = j
  · subst h; simp [hk]
  · rw [if_neg h, if_neg (fun e => h e.symm)]
theorem mem_getD {S : List Int} {s : Int} : s ∈ S ↔ ∃ k, k < S.length ∧ S.getD k 0 = s := by
  rw [List.mem_iff_getElem]
  constructor
  · rintro ⟨k, h, e⟩; exact ⟨k, h, by simp [List.getD, h, e]⟩
  · rintro ⟨k, h, e⟩; exact ⟨k, h, by simpa [List.getD, h] using e⟩
theorem Dif.set {S : List Int} {k : Nat} {s : Int} (hl : S.length = 16) (hk : k < 16) (hs : s ≠ 4) (h : (4 : Int) ∉ S) : (4 : Int) ∉ S.set k s := by
  rw [mem_getD] at h ⊢
  rintro ⟨j, h1, h2⟩
  rw [getD_set (by omega)] at h2
  rw [List.length_set] at h1
  split at h2
  · exact hs h2
  · exact h ⟨j, h1, h2⟩
theorem Dif.four {S : List Int} {k : Nat} (hl : S.length = 16) (hk : k < 16) (h : (4 : Int) ∉ S) : Dif (S.set k 4) k := by
  refine .inr ⟨k, hk, rfl, by rw [getD_set (by omega), if_pos rfl], fun j hj => ?_⟩
  rw [getD_set (by omega)] at hj
  split at hj
  · assumption
  · exfalso
    by_cases hjl : j < S.length
    · exact h (mem_getD.2 ⟨j, hjl, hj⟩)
    · rw [List.getD_eq_getElem?_getD, List.getElem?_eq_none (by omega)] at hj; cases hj
theorem Dif.neg {S : List Int} {d : Int} (h : Dif S d) : d < 0 ↔ (4 : Int) ∉ S := by
  rcases h with ⟨rfl, h⟩ | ⟨k, h1, rfl, h2, h3⟩
  · exact ⟨fun _ => h, fun _ => by omega⟩
  · refine ⟨fun e => by omega, fun e => ?_⟩
    exfalso
    by_cases hjl : k < S.length
    · exact e (mem_getD.2 ⟨k, hjl, h2⟩)
    · rw [List.getD_eq_getElem?_getD, List.getElem?_eq_none (by omega)] at h2; cases h2
end Go.Proofs.YtlckmpioipiihaaGreat.A

namespace Go.Proofs.YtlckmpioipiihaaGreat.A
open Go.Proofs.YtlckmpioipiihaaGreat.K
open Go Go.Vm
set_option maxRecDepth 10000
set_option linter.unusedVariables false
theorem ev_round {h : Heap} {lp p2 p3 p4 : Nat} {n : Int} {w : Wit} {f0 f1 f5 f6 f7 f8 f9 f10 f11 f12 f13 f14 f15 f16 f17 f18 : Value} (hw : w.ok) (hb : BkRd h w.b w.sv w.sl) (l1 : w.b.c.votes.length ≤ 70) (l2 : w.b.vals.length ≤ 70) (hlp : h.get lp = .loop .ready none [f0, f1, .pointer (some ⟨p2, 0, none⟩), .pointer (some ⟨p3, 0, none⟩), .pointer (some ⟨p4, 0, none⟩), f5, f6, f7, f8, f9, f10, f11, f12, f13, f14, f15, f16, f17, f18] [9, 10] znQ_ra0 znQ_rb0)
    (h2 : h.get p2 = .cells [.int .i64 0] 0) (h3 : h.get p3 = .cells zBc 0) (h4 : h.get p4 = .cells [.bool false] 0) (ll : lp < h.n) (m2 : p2 < h.n) (m3 : p3 < h.n) (m4 : p4 < h.n) (n2 : p2 ≠ lp) (n3 : p3 ≠ lp) (n4 : p4 ≠ lp) (n5 : p2 ≠ p3) (n6 : p2 ≠ p4) (n7 : p3 ≠ p4) (hnb : ∀ i, (blockOf w.sv i ∨ blockOf w.sl i) → i ≠ lp) :
    Runs Tryz.prog T0 (.yield lp) [.int .i64 n, .agg ⟨w.cells⟩] h (fun r g => (w.st ≠ 4 ∧ r = .bool true ∧ g.get lp = .loop .ready none [f0, f1, .pointer (some ⟨p2, 0, none⟩), .pointer (some ⟨p3, 0, none⟩), .pointer (some ⟨p4, 0, none⟩), f5, f6, f7, f8, f9, f10, f11, f12, f13, f14, f15, f16, f17, f18] [9, 10] znQ_ra0 znQ_rb0 ∧ Fr (fun i => i = lp) h g) ∨
      (w.st = 4 ∧ r = .bool false ∧ g.get lp = .loop .done (some .ret) [f0, f1, .pointer (some ⟨p2, 0, none⟩), .pointer (some ⟨p3, 0, none⟩), .pointer (some ⟨p4, 0, none⟩), f5, f6, f7, f8, f9, f10, f11, f12, f13, f14, f15, f16, f17, f18] [9, 10] znQ_ra0 znQ_rb0 ∧ (∃ sw sm, g.get p2 = .cells [.int .i64 n] 0 ∧ g.get p3 = .cells (w.b.cells sw sm) 0 ∧ g.get p4 = .cells [.bool true] 0 ∧ Own g 2 sw (tcells w.b.c.votes) w.b.c.votes.length ∧ Own g 5 sm (vcells w.b.vals) w.b.vals.length ∧ (∀ i, ownedBy sw i → h.n ≤ i) ∧ (∀ i, ownedBy sm i → h.n ≤ i) ∧ ∀ i, ownedBy sw i → ¬ ownedBy sm i) ∧ Fr (fun i => i = lp ∨ i = p2 ∨ i = p3 ∨ i = p4) h g)) (fun _ _ => False) := by
  haveI := l32 hw.hd.prev
  haveI := l32 hw.hd.vals
  haveI := l32 hw.hd.next
  haveI := l32 hw.hd.app
  haveI := l32 hw.hash
  haveI := hw.cv
  haveI := hw.cl
  haveI : HGet h lp _ := ⟨hlp⟩
  haveI : HGet h p2 _ := ⟨h2⟩
  haveI : HGet h p3 _ := ⟨h3⟩
  haveI : HGet h p4 _ := ⟨h4⟩
  haveI : BLt lp h := ⟨ll⟩
  haveI : BLt p2 h := ⟨m2⟩
  haveI : BLt p3 h := ⟨m3⟩
  haveI : BLt p4 h := ⟨m4⟩
  haveI : BNe p2 lp := ⟨n2⟩
  haveI : BNe p3 lp := ⟨n3⟩
  haveI : BNe p4 lp := ⟨n4⟩
  haveI : BNe lp p2 := ⟨fun e => n2 e.symm⟩
  haveI : BNe lp p3 := ⟨fun e => n3 e.symm⟩
  haveI : BNe lp p4 := ⟨fun e => n4 e.symm⟩
  haveI : BNe p2 p3 := ⟨n5⟩
  haveI : BNe p2 p4 := ⟨n6⟩
  haveI : BNe p3 p4 := ⟨n7⟩
  haveI : BNe p3 p2 := ⟨fun e => n5 e.symm⟩
  haveI : BNe p4 p2 := ⟨fun e => n6 e.symm⟩
  haveI : BNe p4 p3 := ⟨fun e => n7 e.symm⟩
  refine Runs.round hlp put_two rfl znQ_na0 znQ_nb0 znQ_ca0 znQ_cb0 ?_
  refine stp ?_
  refine A.go ?_
  refine stp ?_
  refine C.if (fun e1 => ?_) (fun e1 => ?_)
  · refine stp ?_
    have FX := Fr.set (S := fun i => i = lp) (b := lp) (Fr.push (o := .cells w.cells 0) (Fr.refl (h := h) (S := fun i => i = lp))) (fun _ => rfl) (o := .loop .busy none [f0, f1, .pointer (some ⟨p2, 0, none⟩), .pointer (some ⟨p3, 0, none⟩), .pointer (some ⟨p4, 0, none⟩), f5, f6, f7, f8, f9, f10, f11, f12, f13, f14, f15, f16, f17, f18] [9, 10] znQ_ra0 znQ_rb0)
    refine O.call' (own_okA ⟨hw.hd, hw.hash, hb.sv.keep FX fun i hi e => hnb i (.inl hi) e, hb.sl.keep FX fun i hi e => hnb i (.inr hi) e⟩ (by omega) (by omega)) (fun r h6 hr => ?_)
    obtain ⟨sw, sm, rfl, o1, o2, k1, k2, kA, f⟩ := hr
    have q6 := f.n
    simp only [Heap.n_set, Heap.n_push] at q6 k1 k2
    haveI := f.keep (b := lp) inferInstance (by simp; omega) id
    haveI := f.keep (b := p2) (o := .cells [.int .i64 0] 0) inferInstance (by simp; omega) id
    haveI := f.keep (b := p3) (o := .cells zBc 0) inferInstance (by simp; omega) id
    haveI := f.keep (b := p4) (o := .cells [.bool false] 0) inferInstance (by simp; omega) id
    haveI : BLt lp h6 := ⟨by omega⟩
    haveI : BLt p2 h6 := ⟨by omega⟩
    haveI : BLt p3 h6 := ⟨by omega⟩
    haveI : BLt p4 h6 := ⟨by omega⟩
    obtain ⟨a3, c3, rfl, _, _⟩ := id o1.rd
    obtain ⟨a4, c4, rfl, _, _⟩ := id o2.rd
    refine stp ?_
    refine A.ret ?_
    have fS : ∀ {A B C D : AObj}, Fr (fun i => i = lp ∨ i = p2 ∨ i = p3 ∨ i = p4) h6 ((((h6.set p2 A).set p3 B).set p4 C).set lp D) := fun {A B C D} => (((Fr.refl.set fun _ => .inr (.inl rfl)).set fun _ => .inr (.inr (.inl rfl))).set fun _ => .inr (.inr (.inr rfl))).set fun _ => .inl rfl
    refine .inr ⟨e1, rfl, by rw [Heap.get_set, if_pos rfl], ⟨_, _, by rw [Heap.get_set, if_neg n2, Heap.get_set, if_neg n6, Heap.get_set, if_neg n5, Heap.get_set, if_pos rfl], by rw [Heap.get_set, if_neg n3, Heap.get_set, if_neg n7, Heap.get_set, if_pos rfl], by rw [Heap.get_set, if_neg n4, Heap.get_set, if_pos rfl], o1.keep fS fun b hb e => by have := k1 b hb; omega, o2.keep fS fun b hb e => by have := k2 b hb; omega, fun i hi => by have := k1 i hi; omega, fun i hi => by have := k2 i hi; omega, kA⟩, ?_⟩
    exact ((FX.trans' (f.mono fun _ _ e => e.elim)).mono fun _ _ e => .inl e).trans' fS
  · refine stp ?_
    refine A.on ?_
    exact .inl ⟨e1, rfl, by rw [Heap.get_set, if_pos rfl], ((Fr.refl.push.set (S := fun i => i = lp) fun _ => rfl)).set fun _ => rfl⟩
noncomputable abbrev erec (p bx p2 p3 p4 : Nat) (st : LoopState) (pend : Option Code) : AObj := .loop st pend [.pointer (some ⟨p, 0, none⟩), undef, .pointer (some ⟨p2, 0, none⟩), .pointer (some ⟨p3, 0, none⟩), .pointer (some ⟨p4, 0, none⟩), undef, undef, .pointer (some ⟨p, 0, none⟩), .func (.func fn_ztQ) ⟨[]⟩ ⟨[.pointer (some ⟨bx, 0, none⟩)]⟩, undef, undef, undef, undef, undef, undef, undef, undef, undef, undef] [9, 10] znQ_ra0 znQ_rb0
def EvS (h0 h : Heap) (c : Cr) (r : Value) : Prop :=
  (r = .tuple ⟨[.int .i64 (-1), .agg ⟨zBc⟩, .bool false]⟩ ∧ ∀ w ∈ c.ws, w.st ≠ 4) ∨
  ∃ (n : Nat) (sw sm : Value), n < 16 ∧ (c.ws.getD n zWit).st = 4 ∧ (∀ w ∈ c.ws.take n, w.st ≠ 4) ∧ r = .tuple ⟨[.int .i64 n, .agg ⟨(c.ws.getD n zWit).b.cells sw sm⟩, .bool true]⟩ ∧
    Own h 2 sw (tcells (c.ws.getD n zWit).b.c.votes) (c.ws.getD n zWit).b.c.votes.length ∧ Own h 5 sm (vcells (c.ws.getD n zWit).b.vals) (c.ws.getD n zWit).b.vals.length ∧ (∀ i, ownedBy sw i → h0.n ≤ i) ∧ (∀ i, ownedBy sm i → h0.n ≤ i) ∧ ∀ i, ownedBy sw i → ¬ ownedBy sm i
set_option maxHeartbeats 8000000 in
theorem Evidence_ok {h : Heap} {p : Nat} {c : Cr} (hc : CrAt h p c) :
    Runs Tryz.prog T0 (.fn fn_znQ) [.pointer (some ⟨p, 0, none⟩)] h (fun r h' => EvS h h' c r ∧ Fr (fun _ => False) h h') (fun _ _ => False) := by
  refine znQ_runs ?_
  refine stp ?_
  have F0 : Fr (fun _ => False) h (((h.push (.cells [.int .i64 0] 0)).push (.cells zBc 0)).push (.cells [.bool false] 0)) := Fr.refl.push.push.push
  have n0 : (((h.push (.cells [.int .i64 0] 0)).push (.cells zBc 0)).push (.cells [.bool false] 0)).n = h.n + 3 := rfl
  have e3 : (h.push (.cells [.int .i64 0] 0)).n = h.n + 1 := rfl
  have e4 : ((h.push (.cells [.int .i64 0] 0)).push (.cells zBc 0)).n = h.n + 2 := rfl
  have g2 : (((h.push (.cells [.int .i64 0] 0)).push (.cells zBc 0)).push (.cells [.bool false] 0)).get h.n = .cells [.int .i64 0] 0 := by
    rw [Heap.get_push, if_neg (by simp; omega), Heap.get_push, if_neg (by simp), Heap.get_push, if_pos rfl]
  have g3 : (((h.push (.cells [.int .i64 0] 0)).push (.cells zBc 0)).push (.cells [.bool false] 0)).get (h.push (.cells [.int .i64 0] 0)).n = .cells zBc 0 := by
    rw [Heap.get_push, if_neg (by simp), Heap.get_push, if_pos rfl]
  have g4 : (((h.push (.cells [.int .i64 0] 0)).push (.cells zBc 0)).push (.cells [.bool false] 0)).get ((h.push (.cells [.int .i64 0] 0)).push (.cells zBc 0)).n = .cells [.bool false] 0 := by
    rw [Heap.get_push, if_pos rfl]
  generalize ((h.push (.cells [.int .i64 0] 0)).push (.cells zBc 0)).push (.cells [.bool false] 0) = h0 at *
  generalize ((h.push (.cells [.int .i64 0] 0)).push (.cells zBc 0)).n = p4 at *
  generalize (h.push (.cells [.int .i64 0] 0)).n = p3 at *
  refine O.call' all_ok (fun r ha hr => ?_)
  obtain ⟨rfl, na, gx, fa⟩ := hr
  refine stp ?_
  have FL : Fr (fun _ => False) ha ((ha.push (.defs false)).push (erec p h0.n h.n p3 p4 .ready none)) := Fr.refl.push.push
  have Fa := F0.trans' fa
  have F1 := Fa.trans' FL
  have ca := hc.keep F1 fun _ _ => id
  have ca0 := hc.keep Fa fun _ _ => id
  have hlen := hc.ok.len
  have hd : (ha.push (.defs false)).n = ha.n + 1 := rfl
  refine range_ret (J := fun hx => (∀ w ∈ c.ws, w.st ≠ 4) ∧ Fr (fun i => i = ha.n + 1) (ha.push (.defs false)) hx) (K := fun hx => (∃ n : Nat, n < 16 ∧ (c.ws.getD n zWit).st = 4 ∧ (∀ w ∈ c.ws.take n, w.st ≠ 4) ∧ ∃ sw sm, hx.get h.n = .cells [.int .i64 n] 0 ∧ hx.get p3 = .cells ((c.ws.getD n zWit).b.cells sw sm) 0 ∧ hx.get p4 = .cells [.bool true] 0 ∧ Own hx 2 sw (tcells (c.ws.getD n zWit).b.c.votes) (c.ws.getD n zWit).b.c.votes.length ∧ Own hx 5 sm (vcells (c.ws.getD n zWit).b.vals) (c.ws.getD n zWit).b.vals.length ∧ (∀ i, ownedBy sw i → ha.n + 2 ≤ i) ∧ (∀ i, ownedBy sm i → ha.n + 2 ≤ i) ∧ ∀ i, ownedBy sw i → ¬ ownedBy sm i) ∧ Fr (fun i => i = ha.n + 1 ∨ i = h.n ∨ i = p3 ∨ i = p4) (ha.push (.defs false)) hx) ?_ (fun hx hJ => ?_) (fun hx hK => ?_)
  · refine Runs.mono (all1_ok (I := fun k hx => hx.get (ha.n + 1) = erec p h0.n h.n p3 p4 .ready none ∧ (∀ w ∈ c.ws.take k, w.st ≠ 4) ∧ ha.n + 1 < hx.n ∧ Fr (fun i => i = ha.n + 1) (ha.push (.defs false)) hx) (K := fun hx => hx.get (ha.n + 1) = erec p h0.n h.n p3 p4 .done (some .ret) ∧ (∃ n : Nat, n < 16 ∧ (c.ws.getD n zWit).st = 4 ∧ (∀ w ∈ c.ws.take n, w.st ≠ 4) ∧ ∃ sw sm, hx.get h.n = .cells [.int .i64 n] 0 ∧ hx.get p3 = .cells ((c.ws.getD n zWit).b.cells sw sm) 0 ∧ hx.get p4 = .cells [.bool true] 0 ∧ Own hx 2 sw (tcells (c.ws.getD n zWit).b.c.votes) (c.ws.getD n zWit).b.c.votes.length ∧ Own hx 5 sm (vcells (c.ws.getD n zWit).b.vals) (c.ws.getD n zWit).b.vals.length ∧ (∀ i, ownedBy sw i → ha.n + 2 ≤ i) ∧ (∀ i, ownedBy sm i → ha.n + 2 ≤ i) ∧ ∀ i, ownedBy sw i → ¬ ownedBy sm i) ∧ Fr (fun i => i = ha.n + 1 ∨ i = h.n ∨ i = p3 ∨ i = p4) (ha.push (.defs false)) hx) (by rw [FL.get _ (by omega) id]; exact gx) (FL.lt (by omega)) ca ?_ ?_ ?_ ?_) (fun _ h' hh => ?_) (fun _ _ h => h)
    · rintro k hx hx' ⟨i1, i2, i3, i4⟩ hf
      exact ⟨by rw [hf.get _ i3 id]; exact i1, i2, hf.lt i3, i4.trans' (hf.mono fun _ _ e => e.elim)⟩
    · exact ⟨HGet.new.eq, by simp, by simp, Fr.refl.push⟩
    · rintro k hx hk ⟨i1, i2, i3, i4⟩ hst
      have i5 := i4.n
      have hw := hc.ws _ (wit_mem (l := c.ws) (k := k) (by omega))
      have hw' := ca0.ws _ (wit_mem (l := c.ws) (k := k) (by omega))
      have l2 := fun i (hi : blockOf (c.ws.getD k zWit).sv i) => Rd.block_lt hw.sv hi
      have l3 := fun i (hi : blockOf (c.ws.getD k zWit).sl i) => Rd.block_lt hw.sl hi
      have hwo := Cr.get hc.ok hk
      have FD : Fr (fun i => i = ha.n + 1) ha hx := Fr.trans' (Fr.refl.push (o := .defs false)) i4
      have rb : BkRd hx (c.ws.getD k zWit).b (c.ws.getD k zWit).sv (c.ws.getD k zWit).sl := ⟨hwo.hd, hwo.hash, hw'.sv.keep FD fun i hi e => by have := l2 i hi; omega, hw'.sl.keep FD fun i hi e => by have := l3 i hi; omega⟩
      refine Runs.mono (ev_round (p2 := h.n) (p3 := p3) (p4 := p4) hwo rb hw.lv hw.ll i1 ?_ ?_ ?_ i3 (by omega) (by omega) (by omega) (by omega) (by omega) (by omega) (by omega) (by omega) (by omega) (fun i hi e => by
        rcases hi with hi | hi
        · have := l2 i hi; omega
        · have := l3 i hi; omega)) (fun r h' hh => ?_) (fun _ _ h => h)
      · rw [FD.get _ (by omega) (by omega), fa.get _ (by omega) id]; exact g2
      · rw [FD.get _ (by omega) (by omega), fa.get _ (by omega) id]; exact g3
      · rw [FD.get _ (by omega) (by omega), fa.get _ (by omega) id]; exact g4
      · rcases hh with ⟨e1, rfl, e2, e3⟩ | ⟨e1, rfl, e2, ⟨sw, sm, e3, e4, e5, e6, e7, e8, e9, eA⟩, f⟩
        · exact .inl ⟨rfl, e2, (wit_take (by omega)).2 ⟨i2, e1⟩, e3.lt i3, i4.trans' e3⟩
        · exact .inr ⟨rfl, e2, ⟨k, hk, e1, i2, sw, sm, e3, e4, e5, e6, e7, fun i hi => by have := e8 i hi; omega, fun i hi => by have := e9 i hi; omega, eA⟩, (i4.mono fun _ _ e => .inl e).trans' f⟩
    · rintro k hx hk ⟨i1, i2, i3, i4⟩ hst
      exact ⟨i1, (wit_take (by omega)).2 ⟨i2, by omega⟩, i3, i4⟩
    · rcases hh with ⟨i1, i2, i3, i4⟩ | ⟨i1, i2, i3⟩
      · exact .inl ⟨i1, fun w hw => i2 w (by rw [List.take_of_length_le (by omega)]; exact hw), i4⟩
      · exact .inr ⟨i1, i2, i3⟩
  · obtain ⟨h1, hf⟩ := hJ
    have gdf : hx.get ha.n = .defs false := by rw [hf.get _ (by omega) (by omega)]; exact HGet.new.eq
    have FD : Fr (fun i => i = ha.n + 1) ha hx := Fr.trans' (Fr.refl.push (o := .defs false)) hf
    have q2 : hx.get h.n = .cells [.int .i64 0] 0 := by rw [FD.get _ (by omega) (by omega), fa.get _ (by omega) id]; exact g2
    have q3 : hx.get p3 = .cells zBc 0 := by rw [FD.get _ (by omega) (by omega), fa.get _ (by omega) id]; exact g3
    have q4 : hx.get p4 = .cells [.bool false] 0 := by rw [FD.get _ (by omega) (by omega), fa.get _ (by omega) id]; exact g4
    have hfx : Fr (fun _ => False) h hx := Fa.trans FD fun i hi e => by omega
    have hxn := hf.n
    haveI : HGet hx h.n _ := ⟨q2⟩
    haveI : HGet hx p3 _ := ⟨q3⟩
    haveI : HGet hx p4 _ := ⟨q4⟩
    haveI : HGet hx ha.n _ := ⟨gdf⟩
    haveI : BLt h.n hx := ⟨by omega⟩
    haveI : BLt p3 hx := ⟨by omega⟩
    haveI : BLt p4 hx := ⟨by omega⟩
    haveI : BNe h.n (ha.n + 1) := ⟨by omega⟩
    haveI : BNe p3 (ha.n + 1) := ⟨by omega⟩
    haveI : BNe p4 (ha.n + 1) := ⟨by omega⟩
    haveI : BNe ha.n (ha.n + 1) := ⟨by omega⟩
    haveI : BNe ha.n h.n := ⟨by omega⟩
    haveI : BNe ha.n p3 := ⟨by omega⟩
    haveI : BNe ha.n p4 := ⟨by omega⟩
    haveI : BNe h.n ha.n := ⟨by omega⟩
    haveI : BNe p3 ha.n := ⟨by omega⟩
    haveI : BNe p4 ha.n := ⟨by omega⟩
    haveI : BNe h.n p3 := ⟨by omega⟩
    haveI : BNe h.n p4 := ⟨by omega⟩
    haveI : BNe p3 h.n := ⟨by omega⟩
    haveI : BNe p4 h.n := ⟨by omega⟩
    haveI : BNe p3 p4 := ⟨by omega⟩
    haveI : BNe p4 p3 := ⟨by omega⟩
    refine stp ?_
    refine B.retC ?_
    refine ⟨.inl ⟨rfl, h1⟩, ?_⟩
    repeat' first
      | exact hfx
      | refine Fr.set ?_ fun e => by omega
  · obtain ⟨⟨n, h16, e1, e2, sw, sm, q2, q3, q4, o1, o2, m1, m2, mA⟩, hf⟩ := hK
    have hwo := Cr.get hc.ok h16
    haveI := l32 hwo.hd.prev
    haveI := l32 hwo.hd.vals
    haveI := l32 hwo.hd.next
    haveI := l32 hwo.hd.app
    haveI := l32 hwo.hash
    have gdf : hx.get ha.n = .defs false := by rw [hf.get _ (by omega) (by omega)]; exact HGet.new.eq
    have FD : Fr (fun i => i = ha.n + 1 ∨ i = h.n ∨ i = p3 ∨ i = p4) ha hx := Fr.trans' (Fr.refl.push (o := .defs false)) hf
    have hfx : Fr (fun _ => False) h hx := Fa.trans FD fun i hi e => by omega
    have hxn := hf.n
    obtain ⟨a3, c3, rfl, _, _⟩ := id o1.rd
    obtain ⟨a4, c4, rfl, _, _⟩ := id o2.rd
    haveI : HGet hx h.n _ := ⟨q2⟩
    haveI : HGet hx p3 _ := ⟨q3⟩
    haveI : HGet hx p4 _ := ⟨q4⟩
    haveI : HGet hx ha.n _ := ⟨gdf⟩
    haveI : BLt h.n hx := ⟨by omega⟩
    haveI : BLt p3 hx := ⟨by omega⟩
    haveI : BLt p4 hx := ⟨by omega⟩
    haveI : BNe h.n (ha.n + 1) := ⟨by omega⟩
    haveI : BNe p3 (ha.n + 1) := ⟨by omega⟩
    haveI : BNe p4 (ha.n + 1) := ⟨by omega⟩
    haveI : BNe ha.n (ha.n + 1) := ⟨by omega⟩
    haveI : BNe h.n ha.n := ⟨by omega⟩
    haveI : BNe p3 ha.n := ⟨by omega⟩
    haveI : BNe p4 ha.n := ⟨by omega⟩
    refine stp ?_
    refine B.retC ?_
    have fS : ∀ {A B C : AObj}, Fr (fun i => i = ha.n + 1 ∨ i = ha.n) hx (((hx.set (ha.n + 1) A).set (ha.n + 1) B).set ha.n C) := fun {A B C} => ((Fr.refl.set fun _ => .inl rfl).set fun _ => .inl rfl).set fun _ => .inr rfl
    refine ⟨.inr ⟨n, _, _, h16, e1, e2, rfl, o1.keep fS fun b hb e => by have := m1 b hb; omega, o2.keep fS fun b hb e => by have := m2 b hb; omega, fun i hi => by have := m1 i hi; omega, fun i hi => by have := m2 i hi; omega, mA⟩, ?_⟩
    exact hfx.trans fS fun i hi e => by omega
end Go.Proofs.YtlckmpioipiihaaGreat.A

namespace Go.Proofs.YtlckmpioipiihaaGreat.A
open Go.Proofs.YtlckmpioipiihaaGreat.K
open Go Go.Vm
set_option maxRecDepth 10000
set_option linter.unusedVariables false
set_option maxHeartbeats 4000000 in
theorem Result_ok {h : Heap} {p : Nat} {c : Cr} (hc : CrAt h p c) : Runs Tryz.prog T0 (.fn fn_zpQ) [.pointer (some ⟨p, 0, none⟩)] h (fun r h' => r = .int .i64 (resS c) ∧ Fr (fun _ => False) h h') (fun _ _ => False) := by
  have trio : ∀ {g : Heap} {s : Int}, s ≠ 0 → CrAt g p c → ∀ {bx bs : Nat}, g.get bx = .cells [.pointer (some ⟨p, 0, none⟩)] 0 → g.get bs = .cells [.int .i64 s] 0 → bx < g.n → bs < g.n → Runs Tryz.prog T0 (.fn fn_zzQ) [.func (.func fn_ztQ) ⟨[]⟩ ⟨[.pointer (some ⟨bx, 0, none⟩)]⟩, .func (.func fn_zyQ) ⟨[]⟩ ⟨[.pointer (some ⟨bs, 0, none⟩)]⟩] g (fun r h' => r = .bool (anyS c s) ∧ Fr (fun _ => False) g h') (fun _ _ => False) := fun a b _ _ c d e f => any_ok a b c d e f
  refine zpQ_runs ?_
  refine stp ?_
  refine O.call' (off_ok hc) (fun r h1 hr => ?_)
  obtain ⟨rfl, rfl⟩ := hr
  unfold resS
  refine stp ?_
  refine O.callT all_ok (fun r h2 hr => ?_)
  obtain ⟨rfl, n2, g2, f2⟩ := hr
  refine stp ?_
  refine O.callT are_ok (fun r h3 hr => ?_)
  obtain ⟨rfl, n3, g3, f3⟩ := hr
  refine stp ?_
  have c3 := (hc.keep f2 fun _ _ => id).keep f3 fun _ _ => id
  refine O.callT (trio (by omega) c3 (by rw [f3.get _ (by omega) id]; exact g2) g3 (by omega) (by omega)) (fun r h4 hr => ?_)
  obtain ⟨rfl, f4⟩ := hr
  have F4 := (f2.trans' f3).trans' f4
  have c4 := c3.keep f4 fun _ _ => id
  refine stp ?_
  cases hA : anyS c 4 with
  | true =>
    simp only [Bool.not_true]
    refine stp ?_
    refine O.call' all_ok (fun r h5 hr => ?_)
    obtain ⟨rfl, n5, g5, f5⟩ := hr
    refine stp ?_
    refine O.call' are_ok (fun r h6 hr => ?_)
    obtain ⟨rfl, n6, g6, f6⟩ := hr
    refine stp ?_
    have c6 := (c4.keep f5 fun _ _ => id).keep f6 fun _ _ => id
    refine O.call' (trio (by omega) c6 (by rw [f6.get _ (by omega) id]; exact g5) g6 (by omega) (by omega)) (fun r h7 hr => ?_)
    obtain ⟨rfl, f7⟩ := hr
    rw [hA]
    refine stp ?_
    exact ⟨rfl, ((F4.trans' f5).trans' f6).trans' f7⟩
  | false =>
    simp only [Bool.not_false]
    refine stp ?_
    refine O.callT all_ok (fun r h5 hr => ?_)
    obtain ⟨rfl, n5, g5, f5⟩ := hr
    refine stp ?_
    refine O.callT are_ok (fun r h6 hr => ?_)
    obtain ⟨rfl, n6, g6, f6⟩ := hr
    refine stp ?_
    have c6 := (c4.keep f5 fun _ _ => id).keep f6 fun _ _ => id
    refine O.callT (trio (by omega) c6 (by rw [f6.get _ (by omega) id]; exact g5) g6 (by omega) (by omega)) (fun r h7 hr => ?_)
    obtain ⟨rfl, f7⟩ := hr
    have F7 := ((F4.trans' f5).trans' f6).trans' f7
    have c7 := c6.keep f7 fun _ _ => id
    refine stp ?_
    cases hB : anyS c 1 with
    | true =>
      refine stp ?_
      exact ⟨rfl, F7⟩
    | false =>
      refine stp ?_
      refine O.call' all_ok (fun r h8 hr => ?_)
      obtain ⟨rfl, n8, g8, f8⟩ := hr
      refine stp ?_
      refine O.call' are_ok (fun r h9 hr => ?_)
      obtain ⟨rfl, n9, g9, f9⟩ := hr
      refine stp ?_
      have c9 := (c7.keep f8 fun _ _ => id).keep f9 fun _ _ => id
      refine O.call' (trio (by omega) c9 (by rw [f9.get _ (by omega) id]; exact g8) g9 (by omega) (by omega)) (fun r h10 hr => ?_)
      obtain ⟨rfl, f10⟩ := hr
      have F10 := ((F7.trans' f8).trans' f9).trans' f10
      have c10 := c9.keep f10 fun _ _ => id
      rw [hA]
      refine stp ?_
      refine O.call' all_ok (fun r h11 hr => ?_)
      obtain ⟨rfl, n11, g11, f11⟩ := hr
      refine stp ?_
      refine O.call' are_ok (fun r h12 hr => ?_)
      obtain ⟨rfl, n12, g12, f12⟩ := hr
      refine stp ?_
      have c12 := (c10.keep f11 fun _ _ => id).keep f12 fun _ _ => id
      refine O.call' (trio (by omega) c12 (by rw [f12.get _ (by omega) id]; exact g11) g12 (by omega) (by omega)) (fun r h13 hr => ?_)
      obtain ⟨rfl, f13⟩ := hr
      have F13 := ((F10.trans' f11).trans' f12).trans' f13
      cases hD : anyS c 2 with
      | true =>
        refine stp ?_
        exact ⟨rfl, F13⟩
      | false =>
        refine stp ?_
        exact ⟨rfl, F13⟩
end Go.Proofs.YtlckmpioipiihaaGreat.A

namespace Go.Proofs.YtlckmpioipiihaaGreat.A
open Go.Proofs.YtlckmpioipiihaaGreat.K
open Go Go.Vm
set_option maxRecDepth 10000
set_option linter.unusedVariables false
theorem fits_bytes {h : Heap} {m : Nat} {te : TypeId} {c : List Value} {len : Nat} (hu : Tryz.prog.underlying te = some (.int .u8)) (hs : Tryz.prog.cellsOf te = 1) (hl : c.length = len * Tryz.prog.cellsOf te) (hall : ∀ i, i < len → Fits Tryz.prog h (m + 1) te ((c.drop (i * Tryz.prog.cellsOf te)).take (Tryz.prog.cellsOf te))) : ∃ bs : List UInt8, c = bcells bs ∧ bs.length = len := by
  rw [hs, Nat.mul_one] at hl
  induction c generalizing len with
  | nil => exact ⟨[], rfl, by simpa using hl⟩
  | cons v c ih =>
    cases len with
    | zero => simp at hl
    | succ len =>
      have h0 := hall 0 (by omega)
      rw [hs] at h0
      unfold Fits at h0
      rw [hu] at h0
      simp only [Nat.zero_mul, List.drop_zero, List.take_succ_cons, List.take_zero] at h0
      obtain ⟨x, hx, hwf⟩ := h0
      injection hx with hx _
      obtain ⟨bs, rfl, hb⟩ := ih (len := len) (by simpa using hl) fun i hi => by
        have := hall (i + 1) (by omega)
        rw [hs] at this ⊢
        simpa using this
      have hr : 0 ≤ x ∧ x ≤ 255 := by
        simp [Lit.wf, IntKind.min, IntKind.max, IntKind.signed, IntKind.bits] at hwf
        omega
      refine ⟨UInt8.ofNat x.toNat :: bs, ?_, by simp [hb]⟩
      rw [hx]
      show Value.int .u8 x :: bcells bs = Value.int .u8 ((UInt8.ofNat x.toNat).toNat : Nat) :: bcells bs
      rw [u8nat (by omega)]
      congr 2
      omega
end Go.Proofs.YtlckmpioipiihaaGreat.A

namespace Go.Proofs.YtlckmpioipiihaaGreat.A
open Go.Proofs.YtlckmpioipiihaaGreat.K
open Go Go.Vm
set_option maxRecDepth 10000
set_option linter.unusedVariables false
theorem fits_flat32 {h : Heap} {m : Nat} {t te : TypeId} {c : List Value} (ht : Tryz.prog.underlying t = some (.array 32 te)) (hu : Tryz.prog.underlying te = some (.int .u8)) (hs : Tryz.prog.cellsOf te = 1) (hs32 : Tryz.prog.cellsOf t = 32) (hv : Fits Tryz.prog h (m + 2) t c) : ∃ bs : List UInt8, c = bcells bs ∧ bs.length = 32 := by
  unfold Fits at hv
  rw [ht] at hv
  exact fits_bytes hu hs (by rw [hv.1, hs32, hs]) hv.2
theorem fits_header {h : Heap} {m : Nat} {t ts ti th tb : TypeId} {c : List Value} (f0 : fieldAt Tryz.prog t 0 = some (0, ts)) (f1 : fieldAt Tryz.prog t 1 = some (1, ti)) (f2 : fieldAt Tryz.prog t 2 = some (2, ti)) (f3 : fieldAt Tryz.prog t 3 = some (3, th)) (f4 : fieldAt Tryz.prog t 4 = some (35, th)) (f5 : fieldAt Tryz.prog t 5 = some (67, th)) (f6 : fieldAt Tryz.prog t 6 = some (99, th))
    (us : Tryz.prog.underlying ts = some .string) (ui : Tryz.prog.underlying ti = some (.int .i64)) (uh : Tryz.prog.underlying th = some (.array 32 tb)) (ub : Tryz.prog.underlying tb = some (.int .u8)) (c0 : Tryz.prog.cellsOf ts = 1) (c1 : Tryz.prog.cellsOf ti = 1) (c3 : Tryz.prog.cellsOf th = 32) (cb : Tryz.prog.cellsOf tb = 1) (ct : Tryz.prog.cellsOf t = 131)
    (hv : Fits Tryz.prog h (m + 3) t c) : ∃ x : Hd, x.ok ∧ (-9223372036854775808 ≤ x.height ∧ x.height ≤ 9223372036854775807) ∧ (-9223372036854775808 ≤ x.time ∧ x.time ≤ 9223372036854775807) ∧ c = x.cells := by
  have hl := hv.len f0
  rw [ct] at hl
  obtain ⟨s, g0, _⟩ := (hv.field f0).str us
  obtain ⟨a, g1, w1⟩ := (hv.field f1).int ui
  obtain ⟨b, g2, w2⟩ := (hv.field f2).int ui
  obtain ⟨l3, g3, n3⟩ := fits_flat32 uh ub cb c3 (hv.field f3)
  obtain ⟨l4, g4, n4⟩ := fits_flat32 uh ub cb c3 (hv.field f4)
  obtain ⟨l5, g5, n5⟩ := fits_flat32 uh ub cb c3 (hv.field f5)
  obtain ⟨l6, g6, n6⟩ := fits_flat32 uh ub cb c3 (hv.field f6)
  rw [c0] at g0
  rw [c1] at g1 g2
  rw [c3] at g3 g4 g5 g6
  refine ⟨⟨s.data.toList, a, b, l3, l4, l5, l6⟩, ⟨n3, n4, n5, n6⟩, wf_i64 w1, wf_i64 w2, ?_⟩
  rw [← List.drop_zero (l := c), vsplit c 0 1, g0, vsplit c (0 + 1) 1, g1, vsplit c (0 + 1 + 1) 1, g2, vsplit c (0 + 1 + 1 + 1) 32, g3, vsplit c (0 + 1 + 1 + 1 + 32) 32, g4, vsplit c (0 + 1 + 1 + 1 + 32 + 32) 32, g5, vsplit c (0 + 1 + 1 + 1 + 32 + 32 + 32) 32, g6,
    show c.drop (0 + 1 + 1 + 1 + 32 + 32 + 32 + 32) = [] from List.drop_eq_nil_of_le (by omega), List.append_nil]
  rfl
end Go.Proofs.YtlckmpioipiihaaGreat.A

namespace Go.Proofs.YtlckmpioipiihaaGreat.A
open Go.Proofs.YtlckmpioipiihaaGreat.K
open Go Go.Vm
set_option maxRecDepth 10000
set_option linter.unusedVariables false
theorem four {l : List UInt8} (h : l.length = 4) : ∃ a b c d, l = [a, b, c, d] := by
  match l, h with
  | [a, b, c, d], _ => exact ⟨a, b, c, d, rfl⟩
end Go.Proofs.YtlckmpioipiihaaGreat.A

namespace Go.Proofs.YtlckmpioipiihaaGreat.A
open Go.Proofs.YtlckmpioipiihaaGreat.K
open Go Go.Vm
set_option maxRecDepth 100000
set_option linter.unusedVariables false
theorem vals_cells_fit {h : Heap} {m : Nat} {te tk tb ti : TypeId} (f0 : fieldAt Tryz.prog te 0 = some (0, tk)) (f1 : fieldAt Tryz.prog te 1 = some (4, ti)) (uk : Tryz.prog.underlying tk = some (.array 4 tb)) (ub : Tryz.prog.underlying tb = some (.int .u8)) (ui : Tryz.prog.underlying ti = some (.int .i64))
    (ce : Tryz.prog.cellsOf te = 5) (ck : Tryz.prog.cellsOf tk = 4) (cb : Tryz.prog.cellsOf tb = 1) (ci : Tryz.prog.cellsOf ti = 1) : ∀ (len : Nat) (c : List Value), c.length = len * 5 → (∀ i, i < len → Fits Tryz.prog h (m + 3) te ((c.drop (i * 5)).take 5)) →
    ∃ l : List Val, c = vcells l ∧ l.length = len ∧ ∀ v ∈ l, -9223372036854775808 ≤ v.p ∧ v.p ≤ 9223372036854775807
  | 0, c, hl, _ => ⟨[], by rw [vcells_nil]; simpa using hl, rfl, fun v hv => by cases hv⟩
  | len + 1, c, hl, hall => by
    have h0 := hall 0 (by omega)
    rw [Nat.zero_mul, List.drop_zero] at h0
    have hk := h0.field f0
    obtain ⟨p, g1, w1⟩ := (h0.field f1).int ui
    rw [ck] at hk
    rw [ci] at g1
    rw [List.drop_zero] at hk
    have h4 : (c.take 5).take 4 = c.take 4 := by rw [List.take_take]; rfl
    rw [h4] at hk
    have hb : ∃ bs : List UInt8, c.take 4 = bcells bs ∧ bs.length = 4 := by
      unfold Fits at hk
      rw [uk] at hk
      exact fits_bytes ub cb (by rw [hk.1, ck, cb]) hk.2
    obtain ⟨bs, hb1, hb2⟩ := hb
    obtain ⟨a0, a1, a2, a3, rfl⟩ := four hb2
    obtain ⟨l, e1, e2, e3⟩ := vals_cells_fit f0 f1 uk ub ui ce ck cb ci len (c.drop 5) (by rw [List.length_drop]; omega) fun i hi => by
      have := hall (i + 1) (by omega)
      rw [List.drop_drop]
      rw [show (i + 1) * 5 = 5 + i * 5 from by omega] at this
      exact this
    refine ⟨⟨a0, a1, a2, a3, p⟩ :: l, ?_, by simp [e2], fun v hv => ?_⟩
    · rw [vcells_cons, ← e1]
      have e5 : c = c.take 5 ++ c.drop 5 := (List.take_append_drop 5 c).symm
      have e6 : c.take 5 = c.take 4 ++ ((c.take 5).drop 4).take 1 := by
        have h1 : ((c.take 5).drop 4).take 1 = (c.take 5).drop 4 := List.take_of_length_le (by rw [List.length_drop, List.length_take]; omega)
        rw [h1, ← h4, List.take_append_drop]
      conv => lhs; rw [e5, e6, hb1, g1]
      rfl
    · rcases List.mem_cons.1 hv with rfl | hv
      · exact wf_i64 w1
      · exact e3 v hv
end Go.Proofs.YtlckmpioipiihaaGreat.A

namespace Go.Proofs.YtlckmpioipiihaaGreat.A
open Go.Proofs.YtlckmpioipiihaaGreat.K
open Go Go.Vm
set_option maxRecDepth 100000
set_option linter.unusedVariables false
theorem wf_u64 {x : Int} (h : (Lit.int .u64 x).wf = true) : 0 ≤ x ∧ x ≤ 18446744073709551615 := by
  simp [Lit.wf, IntKind.min, IntKind.max, IntKind.signed, IntKind.bits] at h
  omega
theorem votes_cells_fit {h : Heap} {m : Nat} {te ti tu : TypeId} (f0 : fieldAt Tryz.prog te 0 = some (0, ti)) (f1 : fieldAt Tryz.prog te 1 = some (1, tu)) (ui : Tryz.prog.underlying ti = some (.int .i64)) (uu : Tryz.prog.underlying tu = some (.int .u64))
    (ce : Tryz.prog.cellsOf te = 2) (ci : Tryz.prog.cellsOf ti = 1) (cu : Tryz.prog.cellsOf tu = 1) : ∀ (len : Nat) (c : List Value), c.length = len * 2 → (∀ i, i < len → Fits Tryz.prog h (m + 2) te ((c.drop (i * 2)).take 2)) →
    ∃ l : List Vote, c = tcells l ∧ l.length = len
  | 0, c, hl, _ => ⟨[], by rw [tcells_nil]; simpa using hl, rfl⟩
  | len + 1, c, hl, hall => by
    have h0 := hall 0 (by omega)
    rw [Nat.zero_mul, List.drop_zero] at h0
    obtain ⟨a, g0, w0⟩ := (h0.field f0).int ui
    obtain ⟨p, g1, w1⟩ := (h0.field f1).int uu
    rw [ci] at g0
    rw [cu] at g1
    obtain ⟨l, e1, e2⟩ := votes_cells_fit f0 f1 ui uu ce ci cu len (c.drop 2) (by rw [List.length_drop]; omega) fun i hi => by
      have := hall (i + 1) (by omega)
      rw [List.drop_drop]
      rw [show (i + 1) * 2 = 2 + i * 2 from by omega] at this
      exact this
    have hp := wf_u64 w1
    refine ⟨⟨a, p.toNat⟩ :: l, ?_, by simp [e2]⟩
    rw [tcells_cons, ← e1]
    match c, hl with
    | [], hl => simp at hl
    | [u], hl => simp at hl; omega
    | u :: w :: c, hl =>
      have g0 : [u] = [Value.int .i64 a] := g0
      have g1 : [w] = [Value.int .u64 p] := g1
      have g0 : u = Value.int .i64 a := by injection g0
      have g1 : w = Value.int .u64 p := by injection g1
      rw [g0, g1]
      show _ = [Value.int .i64 a, Value.int .u64 ((p.toNat : Nat) : Int)] ++ c
      rw [show ((p.toNat : Nat) : Int) = p from by omega]
      rfl
theorem fits_votes {h : Heap} {m : Nat} {t te ti tu : TypeId} {cs : List Value} (ht : Tryz.prog.underlying t = some (.slice te)) (f0 : fieldAt Tryz.prog te 0 = some (0, ti)) (f1 : fieldAt Tryz.prog te 1 = some (1, tu)) (ui : Tryz.prog.underlying ti = some (.int .i64)) (uu : Tryz.prog.underlying tu = some (.int .u64))
    (ce : Tryz.prog.cellsOf te = 2) (ci : Tryz.prog.cellsOf ti = 1) (cu : Tryz.prog.cellsOf tu = 1) (hv : Fits Tryz.prog h (m + 3) t cs) : ∃ (v : Value) (l : List Vote), cs = [v] ∧ Rd h 2 v (tcells l) l.length := by
  unfold Fits at hv
  rw [ht] at hv
  rcases hv with hv | ⟨b, len, cap, c, hv, hb, hlc, hcap, hro, hl, hall⟩
  · exact ⟨_, [], hv, Rd.nil⟩
  · rw [ce] at hl hall
    obtain ⟨l, rfl, e2⟩ := votes_cells_fit f0 f1 ui uu ce ci cu len c hl hall
    refine ⟨_, l, hv, ⟨_, _, by rw [e2], tcells_len l, fun hn => ⟨b, 0, none, rfl, hb, ?_⟩⟩⟩
    rw [cellsAt_of (c := tcells l) (by rw [hro (by omega)]; rfl) (by rw [tcells_len]; omega), List.drop_zero, List.take_of_length_le (by rw [tcells_len]; omega)]
theorem fits_vals1 {h : Heap} {m : Nat} {t te tk tb ti : TypeId} {cs : List Value} (ht : Tryz.prog.underlying t = some (.slice te)) (f0 : fieldAt Tryz.prog te 0 = some (0, tk)) (f1 : fieldAt Tryz.prog te 1 = some (4, ti)) (uk : Tryz.prog.underlying tk = some (.array 4 tb)) (ub : Tryz.prog.underlying tb = some (.int .u8)) (ui : Tryz.prog.underlying ti = some (.int .i64))
    (ce : Tryz.prog.cellsOf te = 5) (ck : Tryz.prog.cellsOf tk = 4) (cb : Tryz.prog.cellsOf tb = 1) (ci : Tryz.prog.cellsOf ti = 1) (hv : Fits Tryz.prog h (m + 4) t cs) : ∃ (v : Value) (l : List Val), cs = [v] ∧ Rd h 5 v (vcells l) l.length := by
  unfold Fits at hv
  rw [ht] at hv
  rcases hv with hv | ⟨b, len, cap, c, hv, hb, hlc, hcap, hro, hl, hall⟩
  · exact ⟨_, [], hv, Rd.nil⟩
  · rw [ce] at hl hall
    obtain ⟨l, rfl, e2, e3⟩ := vals_cells_fit f0 f1 uk ub ui ce ck cb ci len c hl hall
    refine ⟨_, l, hv, ⟨_, _, by rw [e2], vcells_len l, fun hn => ⟨b, 0, none, rfl, hb, ?_⟩⟩⟩
    rw [cellsAt_of (c := vcells l) (by rw [hro (by omega)]; rfl) (by rw [vcells_len]; omega), List.drop_zero, List.take_of_length_le (by rw [vcells_len]; omega)]
theorem fits_bkM {h : Heap} {n : Nat} {cs : List Value} (hv : Fits Tryz.prog h (n + 6) 31 cs) : ∃ (x : Bk) (sv sl : Value), cs = x.cells sv sl ∧ BkRd h x sv sl := by
  have b0 : fieldAt Tryz.prog 31 0 = some (0, 25) := by kernel_rfl
  have b1 : fieldAt Tryz.prog 31 1 = some (131, 28) := by kernel_rfl
  have b2 : fieldAt Tryz.prog 31 2 = some (165, 29) := by kernel_rfl
  have m0 : fieldAt Tryz.prog 28 0 = some (0, 3) := by kernel_rfl
  have m1 : fieldAt Tryz.prog 28 1 = some (1, 23) := by kernel_rfl
  have m2 : fieldAt Tryz.prog 28 2 = some (33, 26) := by kernel_rfl
  have v0 : fieldAt Tryz.prog 94 0 = some (0, 3) := by kernel_rfl
  have v1 : fieldAt Tryz.prog 94 1 = some (1, 92) := by kernel_rfl
  have l0 : fieldAt Tryz.prog 89 0 = some (0, 87) := by kernel_rfl
  have l1 : fieldAt Tryz.prog 89 1 = some (4, 3) := by kernel_rfl
  have uv : Tryz.prog.underlying 26 = some (.slice 94) := by kernel_rfl
  have ul : Tryz.prog.underlying 29 = some (.slice 89) := by kernel_rfl
  have uk : Tryz.prog.underlying 87 = some (.array 4 5) := by kernel_rfl
  have uu : Tryz.prog.underlying 92 = some (.int .u64) := by kernel_rfl
  have g0 : fieldAt Tryz.prog 25 0 = some (0, 9) := by kernel_rfl
  have g1 : fieldAt Tryz.prog 25 1 = some (1, 3) := by kernel_rfl
  have g2 : fieldAt Tryz.prog 25 2 = some (2, 3) := by kernel_rfl
  have g3 : fieldAt Tryz.prog 25 3 = some (3, 23) := by kernel_rfl
  have g4 : fieldAt Tryz.prog 25 4 = some (35, 23) := by kernel_rfl
  have g5 : fieldAt Tryz.prog 25 5 = some (67, 23) := by kernel_rfl
  have g6 : fieldAt Tryz.prog 25 6 = some (99, 23) := by kernel_rfl
  have u1 : Tryz.prog.underlying 9 = some .string := by kernel_rfl
  have u2 : Tryz.prog.underlying 3 = some (.int .i64) := by kernel_rfl
  have u3 : Tryz.prog.underlying 23 = some (.array 32 5) := by kernel_rfl
  have u4 : Tryz.prog.underlying 5 = some (.int .u8) := by kernel_rfl
  have c1 : Tryz.prog.cellsOf 9 = 1 := by kernel_rfl
  have c2 : Tryz.prog.cellsOf 3 = 1 := by kernel_rfl
  have c3 : Tryz.prog.cellsOf 23 = 32 := by kernel_rfl
  have c4 : Tryz.prog.cellsOf 5 = 1 := by kernel_rfl
  have c5 : Tryz.prog.cellsOf 25 = 131 := by kernel_rfl
  have c6 : Tryz.prog.cellsOf 28 = 34 := by kernel_rfl
  have c7 : Tryz.prog.cellsOf 31 = 166 := by kernel_rfl
  have c8 : Tryz.prog.cellsOf 94 = 2 := by kernel_rfl
  have c9 : Tryz.prog.cellsOf 89 = 5 := by kernel_rfl
  have d1 : Tryz.prog.cellsOf 87 = 4 := by kernel_rfl
  have d2 : Tryz.prog.cellsOf 92 = 1 := by kernel_rfl
  have d3 : Tryz.prog.cellsOf 26 = 1 := by kernel_rfl
  have d4 : Tryz.prog.cellsOf 29 = 1 := by kernel_rfl
  have hlen := hv.len b0
  rw [c7] at hlen
  obtain ⟨x, hx, _, _, hh⟩ := fits_header (m := n + 2) g0 g1 g2 g3 g4 g5 g6 u1 u2 u3 u4 c1 c2 c3 c4 c5 (hv.field b0)
  rw [c5] at hh
  have hc := hv.field b1
  rw [c6] at hc
  obtain ⟨ht, k0, _⟩ := (hc.field m0).int u2
  obtain ⟨hs, k1, k1l⟩ := fits_flat32 (m := n + 2) u3 u4 c4 c3 (hc.field m1)
  obtain ⟨sv, vs, k2, k2r⟩ := fits_votes (m := n + 1) uv v0 v1 u2 uu c8 c2 d2 (hc.field m2)
  obtain ⟨sl, ls, k3, k3r⟩ := fits_vals1 (m := n + 1) ul l0 l1 uk u4 u2 c9 d1 c4 c2 (hv.field b2)
  rw [c2] at k0
  rw [c3] at k1
  rw [d3] at k2
  rw [d4] at k3
  refine ⟨⟨x, ⟨ht, hs, vs⟩, ls⟩, sv, sl, ?_, ⟨hx, k1l, k2r, k3r⟩⟩
  have hcc : (cs.drop 131).take 34 = .int .i64 ht :: (bcells hs ++ [sv]) := by
    have hl2 : ((cs.drop 131).take 34).length = 34 := by rw [List.length_take, List.length_drop]; omega
    generalize (cs.drop 131).take 34 = c at *
    rw [← List.drop_zero (l := c), vsplit c 0 1, k0, vsplit c (0 + 1) 32, k1, vsplit c (0 + 1 + 32) 1, k2, show c.drop (0 + 1 + 32 + 1) = [] from List.drop_eq_nil_of_le (by omega), List.append_nil]
    rfl
  rw [← List.drop_zero (l := cs), vsplit cs 0 131, hh, vsplit cs (0 + 131) 34, hcc, vsplit cs (0 + 131 + 34) 1, k3, show cs.drop (0 + 131 + 34 + 1) = [] from List.drop_eq_nil_of_le (by omega), List.append_nil]
  simp only [Bk.cells, Hd.cells, List.cons_append, List.append_assoc, List.nil_append]
structure AC where
  kind : Int
  who : Int
  b : Bk
  sv : Value
  sl : Value
abbrev AC.cells (a : AC) : List Value := .int .i64 a.kind :: .int .i64 a.who :: a.b.cells a.sv a.sl
def acells (l : List AC) : List Value := l.flatMap AC.cells
def zAC : AC := ⟨0, 0, zBk, .slice none 0 0, .slice none 0 0⟩
theorem acells_cons (a : AC) (l : List AC) : acells (a :: l) = a.cells ++ acells l := rfl
theorem AC.len {h : Heap} {a : AC} (hb : BkRd h a.b a.sv a.sl) : a.cells.length = 168 := by
  have h1 := hb.hd.prev
  have h2 := hb.hd.vals
  have h3 := hb.hd.next
  have h4 := hb.hd.app
  have h5 := hb.hash
  simp only [AC.cells, Bk.cells, List.length_cons, List.length_append, bcells_len, List.length_nil]
  omega
theorem acells_len {h : Heap} : ∀ {l : List AC}, (∀ a ∈ l, BkRd h a.b a.sv a.sl) → (acells l).length = l.length * 168
  | [], _ => rfl
  | a :: l, hl => by
    rw [acells_cons, List.length_append, acells_len fun b hb => hl b (by simp [hb]), AC.len (hl a (by simp)), List.length_cons]
    omega
theorem acells_at {h : Heap} : ∀ {l : List AC} {k : Nat}, (∀ a ∈ l, BkRd h a.b a.sv a.sl) → k < l.length → ((acells l).drop (k * 168)).take 168 = (l.getD k zAC).cells
  | a :: l, 0, hl, _ => by
    have := AC.len (hl a (by simp))
    rw [acells_cons, Nat.zero_mul, List.drop_zero, ← this, List.take_left]
    rfl
  | a :: l, k + 1, hl, hk => by
    have h1 := AC.len (hl a (by simp))
    have h2 := acells_at (l := l) (k := k) (fun b hb => hl b (by simp [hb])) (by simpa using hk)
    rw [acells_cons, show (k + 1) * 168 = a.cells.length + k * 168 from by omega, ← List.drop_drop, List.drop_left]
    exact h2
theorem act_mem {l : List AC} {k : Nat} (hk : k < l.length) : l.getD k zAC ∈ l := by
  simp [List.getD, hk]
theorem act_cells {h0 h : Heap} {b o n k : Nat} {l : List AC} (hl : ∀ a ∈ l, BkRd h0 a.b a.sv a.sl) (hc : cellsAt h b o (n * 168) = some (acells l)) (hn : l.length = n) (hk : k < n) : Cells h b (o + k * 168) 168 (l.getD k zAC).cells := ⟨by
  rw [cellsAt_sub hc (by omega), acells_at hl (by omega)]⟩
theorem act_block {h0 h : Heap} {b o n k : Nat} {l : List AC} (hl : ∀ a ∈ l, BkRd h0 a.b a.sv a.sl) (hc : cellsAt h b o (n * 168) = some (acells l)) (hn : l.length = n) (hk : k < n) : Cells h b (o + k * 168 + 2) 166 ((l.getD k zAC).b.cells (l.getD k zAC).sv (l.getD k zAC).sl) := ⟨by
  have h5 := (act_cells hl hc hn hk).eq
  have h6 := AC.len (hl _ (act_mem (l := l) (k := k) (by omega)))
  rw [cellsAt_sub (k := 2) (m := 166) h5 (by omega)]
  have : ((l.getD k zAC).b.cells (l.getD k zAC).sv (l.getD k zAC).sl).length = 166 := by
    have e : (l.getD k zAC).cells.length = ((l.getD k zAC).b.cells (l.getD k zAC).sv (l.getD k zAC).sl).length + 2 := rfl
    omega
  simp only [AC.cells, List.drop_succ_cons, List.drop_zero]
  rw [← this, List.take_length]⟩
theorem acts_cells_fit {h : Heap} {n : Nat} {te : TypeId} (f0 : fieldAt Tryz.prog te 0 = some (0, 3)) (f1 : fieldAt Tryz.prog te 1 = some (1, 3)) (f2 : fieldAt Tryz.prog te 2 = some (2, 31)) (ui : Tryz.prog.underlying 3 = some (.int .i64)) (ci : Tryz.prog.cellsOf 3 = 1) (cb : Tryz.prog.cellsOf 31 = 166) :
    ∀ (len : Nat) (c : List Value), c.length = len * 168 → (∀ i, i < len → Fits Tryz.prog h (n + 7) te ((c.drop (i * 168)).take 168)) → ∃ l : List AC, c = acells l ∧ l.length = len ∧ ∀ a ∈ l, BkRd h a.b a.sv a.sl
  | 0, c, hl, _ => ⟨[], by simpa [acells] using hl, rfl, by simp⟩
  | len + 1, c, hl, hall => by
    have h0 := hall 0 (by omega)
    rw [Nat.zero_mul, List.drop_zero] at h0
    obtain ⟨a, g0, _⟩ := (h0.field f0).int ui
    obtain ⟨w, g1, _⟩ := (h0.field f1).int ui
    obtain ⟨x, sv, sl, g2, hb⟩ := fits_bkM (n := n) (h0.field f2)
    rw [ci] at g0 g1
    rw [cb] at g2
    obtain ⟨l, e1, e2, e3⟩ := acts_cells_fit f0 f1 f2 ui ci cb len (c.drop 168) (by rw [List.length_drop]; omega) fun i hi => by
      have := hall (i + 1) (by omega)
      rw [List.drop_drop]
      rw [show (i + 1) * 168 = 168 + i * 168 from by omega] at this
      exact this
    have hl2 : (c.take 168).length = 168 := by rw [List.length_take]; omega
    have he : c.take 168 = (⟨a, w, x, sv, sl⟩ : AC).cells := by
      generalize c.take 168 = e at *
      rw [← List.drop_zero (l := e), vsplit e 0 1, g0, vsplit e (0 + 1) 1, g1, vsplit e (0 + 1 + 1) 166, g2, show e.drop (0 + 1 + 1 + 166) = [] from List.drop_eq_nil_of_le (by omega), List.append_nil]
      rfl
    refine ⟨⟨a, w, x, sv, sl⟩ :: l, ?_, by simp [e2], fun b hb' => (List.mem_cons.1 hb').elim (fun e => by rw [e]; exact hb) (e3 b)⟩
    rw [acells_cons, ← e1, ← he, List.take_append_drop]
theorem fits_acts {h : Heap} {n : Nat} {t te : TypeId} {cs : List Value} (ht : Tryz.prog.underlying t = some (.slice te)) (f0 : fieldAt Tryz.prog te 0 = some (0, 3)) (f1 : fieldAt Tryz.prog te 1 = some (1, 3)) (f2 : fieldAt Tryz.prog te 2 = some (2, 31)) (ui : Tryz.prog.underlying 3 = some (.int .i64)) (ci : Tryz.prog.cellsOf 3 = 1) (cb : Tryz.prog.cellsOf 31 = 166) (ce : Tryz.prog.cellsOf te = 168) (hv : Fits Tryz.prog h (n + 8) t cs) :
    ∃ (v : Value) (l : List AC), cs = [v] ∧ Rd h 168 v (acells l) l.length ∧ ∀ a ∈ l, BkRd h a.b a.sv a.sl := by
  unfold Fits at hv
  rw [ht] at hv
  rcases hv with hv | ⟨b, len, cap, c, hv, hb, hlc, hcap, hro, hl, hall⟩
  · exact ⟨_, [], hv, Rd.nil, by simp⟩
  · rw [ce] at hl hall
    obtain ⟨l, rfl, e2, e3⟩ := acts_cells_fit (n := n) f0 f1 f2 ui ci cb len c hl hall
    have hal := acells_len e3
    refine ⟨_, l, hv, ⟨_, _, by rw [e2], hal, fun hn => ⟨b, 0, none, rfl, hb, ?_⟩⟩, e3⟩
    rw [cellsAt_of (c := acells l) (by rw [hro (by omega)]; rfl) (by omega), List.drop_zero, List.take_of_length_le (by omega)]
end Go.Proofs.YtlckmpioipiihaaGreat.A

namespace Go.Proofs.YtlckmpioipiihaaGreat.A
open Go.Proofs.YtlckmpioipiihaaGreat.K
open Go Go.Vm
set_option maxRecDepth 10000
set_option linter.unusedVariables false
structure Dc where
  hash : List UInt8
  S : List Int
  who : Int
  b : Bk
  sv : Value
  sl : Value
abbrev Dc.cells (c : Dc) : List Value := bcells c.hash ++ (ncells c.S ++ (.int .i64 c.who :: c.b.cells c.sv c.sl))
structure Dc.ok (c : Dc) : Prop where
  hash : c.hash.length = 32
  len : c.S.length = 16
  hd : c.b.h.ok
  bh : c.b.c.hash.length = 32
  cv : One1 c.sv
  cl : One1 c.sl
theorem Dc.blen {c : Dc} (h : c.ok) : (c.b.cells c.sv c.sl).length = 166 := by
  have h1 := h.hd.prev
  have h2 := h.hd.vals
  have h3 := h.hd.next
  have h4 := h.hd.app
  have h5 := h.bh
  simp only [Bk.cells, List.length_cons, List.length_append, bcells_len, List.length_nil]
  omega
theorem Dc.length {c : Dc} (h : c.ok) : c.cells.length = 215 := by
  simp only [Dc.cells, List.length_append, bcells_len, h.hash, ncells_len, h.len, List.length_cons, Dc.blen h]
structure DAt (h : Heap) (q : Nat) (c : Dc) : Prop where
  ok : c.ok
  lt : q < h.n
  get : h.get q = .cells c.cells 0
theorem DAt.keep {S : Nat → Prop} {h h' : Heap} {q : Nat} {c : Dc} (hc : DAt h q c) (hf : Fr S h h') (hs : ¬ S q) : DAt h' q c :=
  ⟨hc.ok, hf.lt hc.lt, by rw [hf.get _ hc.lt hs]; exact hc.get⟩
theorem Dc.sum {h : Heap} {c : Dc} {q : Nat} (hc : DAt h q c) : Cells h q 0 32 (bcells c.hash) := ⟨by
  have hl := Dc.length hc.ok
  have e : (bcells c.hash).length = 32 := by rw [bcells_len, hc.ok.hash]
  rw [cellsAt_of (c := c.cells) (by rw [hc.get]; rfl) (by omega), List.drop_zero, List.take_left' e]⟩
theorem Dc.st {h : Heap} {c : Dc} {q k : Nat} (hc : DAt h q c) (hk : k < 16) : Cell h q (32 + k) (.int .i64 (c.S.getD k 0)) := ⟨by
  have hl := Dc.length hc.ok
  have e : (bcells c.hash).length = 32 := by rw [bcells_len, hc.ok.hash]
  have e2 := ncells_len c.S
  have hk' : k < c.S.length := by rw [hc.ok.len]; exact hk
  rw [cellsAt_of (c := c.cells) (by rw [hc.get]; rfl) (by omega), ← List.drop_drop]
  simp only [Dc.cells]
  rw [List.drop_left' e, List.drop_append_of_le_length (by omega), List.take_append_of_le_length (by rw [List.length_drop]; omega)]
  have g : c.S.getD k 0 = c.S[k] := by simp [List.getD, hk']
  unfold ncells
  rw [← List.map_drop, List.drop_eq_getElem_cons hk', List.map_cons, g]
  rfl⟩
theorem Dc.wh {h : Heap} {c : Dc} {q : Nat} (hc : DAt h q c) : Cell h q 48 (.int .i64 c.who) := ⟨by
  have hl := Dc.length hc.ok
  have e : (bcells c.hash ++ ncells c.S).length = 48 := by rw [List.length_append, bcells_len, hc.ok.hash, ncells_len, hc.ok.len]
  rw [cellsAt_of (c := c.cells) (by rw [hc.get]; rfl) (by omega)]
  simp only [Dc.cells]
  rw [← List.append_assoc, List.drop_left' e]
  rfl⟩
theorem Dc.blk {h : Heap} {c : Dc} {q : Nat} (hc : DAt h q c) : Cells h q 49 166 (c.b.cells c.sv c.sl) := ⟨by
  have hl := Dc.length hc.ok
  have hb := Dc.blen hc.ok
  have e : (bcells c.hash ++ (ncells c.S ++ [Value.int .i64 c.who])).length = 49 := by simp only [List.length_append, bcells_len, hc.ok.hash, ncells_len, hc.ok.len, List.length_cons, List.length_nil]
  rw [cellsAt_of (c := c.cells) (by rw [hc.get]; rfl) (by omega)]
  rw [show c.cells = (bcells c.hash ++ (ncells c.S ++ [.int .i64 c.who])) ++ c.b.cells c.sv c.sl by simp only [Dc.cells, List.append_assoc, List.cons_append, List.nil_append], List.drop_left' e, ← hb, List.take_length]⟩
theorem ncells_split {S : List Int} {k : Nat} (hk : k < S.length) (n : Int) : ncells (S.set k n) = ncells (S.take k) ++ ([.int .i64 n] ++ ncells (S.drop (k + 1))) := by
  rw [List.set_eq_take_append_cons_drop, if_pos hk]
  simp [ncells]
theorem Dc.putS {h : Heap} {c : Dc} {q k : Nat} (hc : DAt h q c) (hk : k < 16) (n : Int) : Put h q (32 + k) [.int .i64 n] (h.set q (.cells ({ c with S := c.S.set k n } : Dc).cells 0)) := ⟨by
  have hl := Dc.length hc.ok
  have hk' : k < c.S.length := by rw [hc.ok.len]; exact hk
  have e : (bcells c.hash).length = 32 := by rw [bcells_len, hc.ok.hash]
  have es : ncells c.S = ncells (c.S.take k) ++ ([.int .i64 c.S[k]] ++ ncells (c.S.drop (k + 1))) := by
    have := ncells_split hk' c.S[k]
    rwa [List.set_getElem_self] at this
  have l : (bcells c.hash ++ ncells (c.S.take k)).length = 32 + k := by rw [List.length_append, e, ncells_len, List.length_take]; omega
  have t := over_mid (bcells c.hash ++ ncells (c.S.take k)) [.int .i64 c.S[k]] (ncells (c.S.drop (k + 1)) ++ (.int .i64 c.who :: c.b.cells c.sv c.sl)) [.int .i64 n] (by simp)
  rw [l] at t
  simp only [putAt, hc.get]
  rw [if_pos ⟨by simp only [List.length_cons, List.length_nil]; omega, rfl⟩]
  have e1 : c.cells = (bcells c.hash ++ ncells (c.S.take k)) ++ ([.int .i64 c.S[k]] ++ (ncells (c.S.drop (k + 1)) ++ (.int .i64 c.who :: c.b.cells c.sv c.sl))) := by
    simp only [Dc.cells]
    rw [es]
    simp only [List.append_assoc]
  have e2 : ({ c with S := c.S.set k n } : Dc).cells = (bcells c.hash ++ ncells (c.S.take k)) ++ ([.int .i64 n] ++ (ncells (c.S.drop (k + 1)) ++ (.int .i64 c.who :: c.b.cells c.sv c.sl))) := by
    simp only [Dc.cells]
    rw [ncells_split hk']
    simp only [List.append_assoc]
  rw [e1, e2, t]
  rfl⟩
theorem Dc.putW {h : Heap} {c : Dc} {q : Nat} (hc : DAt h q c) (n : Int) : Put h q 48 [.int .i64 n] (h.set q (.cells ({ c with who := n } : Dc).cells 0)) := ⟨by
  have hl := Dc.length hc.ok
  have l : (bcells c.hash ++ ncells c.S).length = 48 := by rw [List.length_append, bcells_len, hc.ok.hash, ncells_len, hc.ok.len]
  have t := over_mid (bcells c.hash ++ ncells c.S) [.int .i64 c.who] (c.b.cells c.sv c.sl) [.int .i64 n] (by simp)
  rw [l] at t
  simp only [putAt, hc.get]
  rw [if_pos ⟨by simp only [List.length_cons, List.length_nil]; omega, rfl⟩]
  have e1 : c.cells = (bcells c.hash ++ ncells c.S) ++ ([.int .i64 c.who] ++ c.b.cells c.sv c.sl) := by simp only [Dc.cells, List.append_assoc, List.cons_append, List.nil_append]
  have e2 : ({ c with who := n } : Dc).cells = (bcells c.hash ++ ncells c.S) ++ ([.int .i64 n] ++ c.b.cells c.sv c.sl) := by simp only [Dc.cells, List.append_assoc, List.cons_append, List.nil_append]
  rw [e1, e2, t]
  rfl⟩
theorem Dc.putB {h : Heap} {c : Dc} {q : Nat} {x : Bk} {sv sl : Value} (hc : DAt h q c) (hx : ({ c with b := x, sv := sv, sl := sl } : Dc).ok) : Put h q 49 (x.cells sv sl) (h.set q (.cells ({ c with b := x, sv := sv, sl := sl } : Dc).cells 0)) := ⟨by
  have hl := Dc.length hc.ok
  have hb := Dc.blen hc.ok
  have hb2 : (x.cells sv sl).length = 166 := Dc.blen hx
  have l : (bcells c.hash ++ (ncells c.S ++ [Value.int .i64 c.who])).length = 49 := by simp only [List.length_append, bcells_len, hc.ok.hash, ncells_len, hc.ok.len, List.length_cons, List.length_nil]
  have t := over_mid (bcells c.hash ++ (ncells c.S ++ [.int .i64 c.who])) (c.b.cells c.sv c.sl) [] (x.cells sv sl) (by omega)
  rw [l] at t
  haveI : One1 sv := hx.cv
  haveI : One1 sl := hx.cl
  have ho : (x.cells sv sl).all Value.oneCell' = true := One.eq
  simp only [putAt, hc.get]
  rw [if_pos ⟨by omega, ho⟩]
  have e1 : c.cells = (bcells c.hash ++ (ncells c.S ++ [.int .i64 c.who])) ++ (c.b.cells c.sv c.sl ++ []) := by simp only [Dc.cells, List.append_assoc, List.cons_append, List.nil_append, List.append_nil]
  have e2 : ({ c with b := x, sv := sv, sl := sl } : Dc).cells = (bcells c.hash ++ (ncells c.S ++ [.int .i64 c.who])) ++ (x.cells sv sl ++ []) := by simp only [Dc.cells, List.append_assoc, List.cons_append, List.nil_append, List.append_nil]
  rw [e1, e2, t, hb2, ← hb, List.drop_length]
  rfl⟩
def stateL (S : List Int) (who : Int) : Int := if who < 0 ∨ 16 ≤ who then 0 else S.getD who.toNat 0
def mayL (S : List Int) (d who : Int) : Int := if 0 ≤ d then 11 else if stateL S who = 0 then 10 else if stateL S who ≠ 1 then 8 else 0
theorem DState_ok {h : Heap} {q : Nat} {c : Dc} {who : Int} (hc : DAt h q c) : Runs Tryz.prog T0 (.fn fn_zedQ) [.pointer (some ⟨q, 0, none⟩), .int .i64 who] h (fun r h' => r = .int .i64 (stateL c.S who) ∧ h' = h) (fun _ _ => False) := by
  refine zedQ_runs ?_
  refine stp ?_
  unfold stateL
  refine O.dec (fun e1 => ?_) (fun e1 => ?_)
  · refine stp ?_
    rw [if_pos (.inl e1)]
    exact ⟨rfl, rfl⟩
  refine stp ?_
  refine C.if (fun e2 => ?_) (fun e2 => ?_)
  · refine stp ?_
    rw [if_pos (.inr (by omega))]
    exact ⟨rfl, rfl⟩
  rw [if_neg (by omega)]
  haveI i1 := Dc.st hc (k := who.toNat) (by omega)
  haveI : Cell h q (32 + who.toNat * 1) (.int .i64 (c.S.getD who.toNat 0)) := by rw [Nat.mul_one]; exact i1
  refine stp ?_
  exact ⟨rfl, rfl⟩
theorem Dmay_ok {h : Heap} {q : Nat} {c : Dc} {who : Int} (hc : DAt h q c) : Runs Tryz.prog T0 (.fn fn_zfdQ) [.pointer (some ⟨q, 0, none⟩), .int .i64 who] h (fun r h' => r = .int .i64 (mayL c.S c.who who) ∧ h' = h) (fun _ _ => False) := by
  haveI := Dc.wh hc
  refine zfdQ_runs ?_
  refine stp ?_
  unfold mayL
  refine C.if (fun e1 => ?_) (fun e1 => ?_)
  · refine stp ?_
    rw [if_pos e1]
    exact ⟨rfl, rfl⟩
  rw [if_neg e1]
  refine stp ?_
  refine O.call' (DState_ok hc) (fun r h1 hr => ?_)
  obtain ⟨rfl, rfl⟩ := hr
  refine stp ?_
  refine C.if (fun e2 => ?_) (fun e2 => ?_)
  · refine stp ?_
    rw [if_pos e2]
    exact ⟨rfl, rfl⟩
  rw [if_neg e2]
  refine stp ?_
  refine O.call' (DState_ok hc) (fun r h1 hr => ?_)
  obtain ⟨rfl, rfl⟩ := hr
  refine stp ?_
  refine C.ifN (fun e3 => ?_) (fun e3 => ?_)
  · refine stp ?_
    rw [if_pos e3]
    exact ⟨rfl, rfl⟩
  rw [if_neg (fun e => e e3)]
  refine stp ?_
  exact ⟨rfl, rfl⟩
end Go.Proofs.YtlckmpioipiihaaGreat.A

namespace Go.Proofs.YtlckmpioipiihaaGreat.A
open Go.Proofs.YtlckmpioipiihaaGreat.K
open Go Go.Vm
set_option maxRecDepth 10000
set_option linter.unusedVariables false
theorem mayL_zero {S : List Int} {d who : Int} (h : mayL S d who = 0) : d < 0 ∧ 0 ≤ who ∧ who < 16 ∧ S.getD who.toNat 0 = 1 := by
  unfold mayL at h
  split at h
  · cases h
  · rename_i h1
    split at h
    · cases h
    · rename_i h2
      split at h
      · cases h
      · rename_i h3
        have h3 := Classical.not_not.1 h3
        unfold stateL at h3
        split at h3
        · cases h3
        · exact ⟨by omega, by omega, by omega, h3⟩
abbrev Dc.stand (c : Dc) (k : Nat) (s : Int) : Dc := { c with S := c.S.set k s }
theorem DAt.stand {h : Heap} {q k : Nat} {c : Dc} {s : Int} (hc : DAt h q c) : DAt (h.set q (.cells (c.stand k s).cells 0)) q (c.stand k s) :=
  ⟨⟨hc.ok.hash, by rw [List.length_set]; exact hc.ok.len, hc.ok.hd, hc.ok.bh, hc.ok.cv, hc.ok.cl⟩, hc.lt, by rw [Heap.get_set, if_pos rfl]⟩
theorem DAt.setW {h : Heap} {q : Nat} {c : Dc} {n : Int} (hc : DAt h q c) : DAt (h.set q (.cells ({ c with who := n } : Dc).cells 0)) q { c with who := n } :=
  ⟨⟨hc.ok.hash, hc.ok.len, hc.ok.hd, hc.ok.bh, hc.ok.cv, hc.ok.cl⟩, hc.lt, by rw [Heap.get_set, if_pos rfl]⟩
theorem DAt.setB {h : Heap} {q : Nat} {c : Dc} {x : Bk} {sv sl : Value} (hc : DAt h q c) (hx : ({ c with b := x, sv := sv, sl := sl } : Dc).ok) : DAt (h.set q (.cells ({ c with b := x, sv := sv, sl := sl } : Dc).cells 0)) q { c with b := x, sv := sv, sl := sl } :=
  ⟨hx, hc.lt, by rw [Heap.get_set, if_pos rfl]⟩
def leaveD (c : Dc) (who : Int) : Dc := if mayL c.S c.who who = 0 then c.stand who.toNat 3 else c
theorem DLeave_ok {h : Heap} {q : Nat} {c : Dc} {who : Int} (hc : DAt h q c) : Runs Tryz.prog T0 (.fn fn_zbdQ) [.pointer (some ⟨q, 0, none⟩), .int .i64 who] h (fun r h' => r = .int .i64 (mayL c.S c.who who) ∧ DAt h' q (leaveD c who) ∧ Fr (fun i => i = q) h h') (fun _ _ => False) := by
  refine zbdQ_runs ?_
  refine stp ?_
  refine O.call' (Dmay_ok hc) (fun r h1 hr => ?_)
  obtain ⟨rfl, rfl⟩ := hr
  unfold leaveD
  refine stp ?_
  refine C.if (fun e => ?_) (fun e => ?_)
  · rw [if_pos e]
    obtain ⟨_, w1, w2, _⟩ := mayL_zero e
    haveI i1 := Dc.putS hc (k := who.toNat) (by omega) 3
    haveI : Put h1 q (32 + who.toNat * 1) [.int .i64 3] (h1.set q (.cells (c.stand who.toNat 3).cells 0)) := by rw [Nat.mul_one]; exact i1
    refine stp ?_
    exact ⟨rfl, hc.stand, Fr.refl.set fun _ => rfl⟩
  · rw [if_neg e]
    refine stp ?_
    exact ⟨rfl, hc, Fr.refl⟩
def sayD (c : Dc) (who : Int) (x : Bk) : Int := if mayL c.S c.who who ≠ 0 then mayL c.S c.who who else checkS x.h
def SaidD (n : Nat) (h : Heap) (c : Dc) (who : Int) (x : Bk) (c' : Dc) : Prop :=
  if sayD c who x ≠ 0 then c' = c else if hashH x.h = c.hash then c' = c.stand who.toNat 2 else ∃ sw sm, c' = { c with S := c.S.set who.toNat 4, who := who, b := x, sv := sw, sl := sm } ∧ Own h 2 sw (tcells x.c.votes) x.c.votes.length ∧ Own h 5 sm (vcells x.vals) x.vals.length ∧ (∀ i, ownedBy sw i → n ≤ i) ∧ ∀ i, ownedBy sm i → n ≤ i
set_option maxHeartbeats 8000000 in
theorem DSay_ok {h : Heap} {q : Nat} {c : Dc} {who : Int} {x : Bk} {sv sl : Value} (hc : DAt h q c) (hb : BkRd h x sv sl) (hb8 : ∀ {g : Heap}, Fr (fun i => i = q) h g → BkRd g x sv sl) (h1 : x.c.votes.length ≤ 70) (h2 : x.vals.length ≤ 70) (h3 : x.h.chain.length ≤ 60) :
    Runs Tryz.prog T0 (.fn fn_zddQ) [.pointer (some ⟨q, 0, none⟩), .int .i64 who, .agg ⟨x.cells sv sl⟩] h (fun r h' => r = .int .i64 (sayD c who x) ∧ (∃ c', SaidD h.n h' c who x c' ∧ DAt h' q c') ∧ Fr (fun i => i = q) h h') (fun _ _ => False) := by
  have hx := hb.hd
  have hch := hb.hash
  haveI := l32 hx.prev
  haveI := l32 hx.vals
  haveI := l32 hx.next
  haveI := l32 hx.app
  haveI := l32 hch
  haveI := l32 (hashH_len x.h)
  haveI := l32 hc.ok.hash
  obtain ⟨a1, c1, rfl, _, _⟩ := id hb.sv
  obtain ⟨a2, c2, rfl, _, _⟩ := id hb.sl
  refine zddQ_runs ?_
  refine stp ?_
  have F0 : Fr (fun _ => False) h (h.push (.cells (x.cells (.slice a1 x.c.votes.length c1) (.slice a2 x.vals.length c2)) 0)) := Fr.refl.push
  have g0 : HGet (h.push (.cells (x.cells (.slice a1 x.c.votes.length c1) (.slice a2 x.vals.length c2)) 0)) h.n (.cells (x.cells (.slice a1 x.c.votes.length c1) (.slice a2 x.vals.length c2)) 0) := HGet.new
  have n0 : (h.push (.cells (x.cells (.slice a1 x.c.votes.length c1) (.slice a2 x.vals.length c2)) 0)).n = h.n + 1 := rfl
  generalize h.push (.cells (x.cells (.slice a1 x.c.votes.length c1) (.slice a2 x.vals.length c2)) 0) = h0 at *
  refine O.call' (Dmay_ok (hc.keep F0 id)) (fun r h3 hr => ?_)
  obtain ⟨rfl, rfl⟩ := hr
  haveI := g0
  unfold sayD SaidD
  refine stp ?_
  refine C.ifN (fun e1 => ?_) (fun e1 => ?_)
  · refine stp ?_
    unfold sayD
    rw [if_pos e1]
    exact ⟨rfl, ⟨c, by rw [if_pos e1], hc.keep F0 id⟩, F0.mono fun _ _ h => h.elim⟩
  unfold sayD
  rw [if_neg (fun e => e e1)]
  obtain ⟨_, w1, w2, _⟩ := mayL_zero e1
  refine stp ?_
  refine O.call' (RBHash_ok (hb.keep F0 fun _ _ => id) (by omega)) (fun r h4 hr => ?_)
  obtain ⟨rfl, f4⟩ := hr
  have F4 := F0.trans' f4
  have n4 := f4.n
  have g4 := f4.keep g0 (by omega) id
  haveI := g4
  haveI : BLt h.n h4 := ⟨by omega⟩
  refine stp ?_
  have F5 : Fr (fun _ => False) h (h4.push (.cells (bcells (hashH x.h)) 0)) := F4.push
  have g5 : HGet (h4.push (.cells (bcells (hashH x.h)) 0)) h.n (.cells (x.cells (.slice a1 x.c.votes.length c1) (.slice a2 x.vals.length c2)) 0) := HGet.push (g := g4)
  have gH : HGet (h4.push (.cells (bcells (hashH x.h)) 0)) h4.n (.cells (bcells (hashH x.h)) 0) := HGet.new
  have n5 : (h4.push (.cells (bcells (hashH x.h)) 0)).n = h4.n + 1 := rfl
  generalize h4.push (.cells (bcells (hashH x.h)) 0) = h5 at *
  have c5 := hc.keep F5 id
  have hql := hc.lt
  haveI := g5
  haveI := gH
  haveI : BLt h.n h5 := ⟨by omega⟩
  haveI : BLt h4.n h5 := ⟨by omega⟩
  haveI : BLt q h5 := ⟨by omega⟩
  haveI : BNe h.n q := ⟨by omega⟩
  haveI : BNe h4.n q := ⟨by omega⟩
  refine C.ifN (fun e2 => ?_) (fun e2 => ?_)
  · refine stp ?_
    exact ⟨rfl, ⟨c, by rw [if_pos e2], c5⟩, F5.mono fun _ _ h => h.elim⟩
  haveI i1 := Dc.putS c5 (k := who.toNat) (by omega) 2
  haveI : Put h5 q (32 + who.toNat * 1) [.int .i64 2] (h5.set q (.cells (c.stand who.toNat 2).cells 0)) := by rw [Nat.mul_one]; exact i1
  refine stp ?_
  have c6 := c5.stand (k := who.toNat) (s := 2)
  have f6 : Fr (fun i => i = q) h5 (h5.set q (.cells (c.stand who.toNat 2).cells 0)) := Fr.refl.set fun _ => rfl
  have g6 := f6.keep g5 (by omega) (by omega)
  have gH6 := f6.keep gH (by omega) (by omega)
  have n6 : (h5.set q (.cells (c.stand who.toNat 2).cells 0)).n = h5.n := rfl
  generalize h5.set q (.cells (c.stand who.toNat 2).cells 0) = h6 at *
  have F6 : Fr (fun i => i = q) h h6 := (F5.mono fun _ _ e => e.elim).trans' f6
  haveI := Dc.sum c6
  haveI := g6
  haveI := gH6
  haveI : BLt h.n h6 := ⟨by omega⟩
  haveI : BLt h4.n h6 := ⟨by omega⟩
  refine stp ?_
  rw [same_bytes]
  refine C.ifN (fun e3 => ?_) (fun e3 => ?_)
  · have e7 : ({ c.stand who.toNat 2 with S := (c.stand who.toNat 2).S.set who.toNat 4 } : Dc) = c.stand who.toNat 4 := by simp [Dc.stand]
    have i2 := Dc.putS c6 (k := who.toNat) (by omega) 4
    rw [e7] at i2
    haveI : Put h6 q (32 + who.toNat * 1) [.int .i64 4] (h6.set q (.cells (c.stand who.toNat 4).cells 0)) := by rw [Nat.mul_one]; exact i2
    refine stp ?_
    have c7 := c6.stand (k := who.toNat) (s := 4)
    rw [show (c.stand who.toNat 2).stand who.toNat 4 = c.stand who.toNat 4 from e7] at c7
    have f7 : Fr (fun i => i = q) h6 (h6.set q (.cells (c.stand who.toNat 4).cells 0)) := Fr.refl.set fun _ => rfl
    have n7 : (h6.set q (.cells (c.stand who.toNat 4).cells 0)).n = h6.n := rfl
    generalize h6.set q (.cells (c.stand who.toNat 4).cells 0) = h7 at *
    haveI := Dc.putW c7 who
    refine stp ?_
    have c8 := c7.setW (n := who)
    have f8 : Fr (fun i => i = q) h7 (h7.set q (.cells ({ c.stand who.toNat 4 with who := who } : Dc).cells 0)) := Fr.refl.set fun _ => rfl
    have n8 : (h7.set q (.cells ({ c.stand who.toNat 4 with who := who } : Dc).cells 0)).n = h7.n := rfl
    generalize h7.set q (.cells ({ c.stand who.toNat 4 with who := who } : Dc).cells 0) = h8 at *
    have f68 := f7.trans' f8
    have g8 := f68.keep g6 (by omega) (by omega)
    have F8 := F6.trans' f68
    haveI := g8
    haveI : BLt h.n h8 := ⟨by omega⟩
    have b8 : BkRd h8 x (.slice a1 x.c.votes.length c1) (.slice a2 x.vals.length c2) := hb8 F8
    refine stp ?_
    refine O.call' (CopyBlock_ok b8 (by omega) (by omega)) (fun r h9 hr => ?_)
    obtain ⟨sw, sm, rfl, o1, o2, m1, m2, f9⟩ := hr
    have n9 := f9.n
    have c9 := c8.keep f9 id
    obtain ⟨a3, c3, rfl, _, _⟩ := id o1.rd
    obtain ⟨a4, c4, rfl, _, _⟩ := id o2.rd
    have hx9 : ({ ({ c.stand who.toNat 4 with who := who } : Dc) with b := x, sv := .slice a3 x.c.votes.length c3, sl := .slice a4 x.vals.length c4 } : Dc).ok := ⟨c9.ok.hash, c9.ok.len, hx, hch, inferInstance, inferInstance⟩
    haveI := Dc.putB c9 hx9
    refine stp ?_
    have f10 : Fr (fun i => i = q) h9 (h9.set q (.cells ({ ({ c.stand who.toNat 4 with who := who } : Dc) with b := x, sv := .slice a3 x.c.votes.length c3, sl := .slice a4 x.vals.length c4 } : Dc).cells 0)) := Fr.refl.set fun _ => rfl
    have hn8 := F8.n
    refine ⟨by rw [e2], ⟨_, ?_, c9.setB hx9⟩, (F8.trans' (f9.mono fun _ _ e => e.elim)).trans' f10⟩
    rw [if_neg (fun e => e e2), if_neg e3]
    exact ⟨_, _, rfl, o1.keep f10 fun b hb e => by have := m1 b hb; omega, o2.keep f10 fun b hb e => by have := m2 b hb; omega, fun i hi => by have := m1 i hi; omega, fun i hi => by have := m2 i hi; omega⟩
  · refine stp ?_
    exact ⟨by rw [e2], ⟨_, by rw [if_neg (fun e => e e2), if_pos e3], c6⟩, F6⟩
end Go.Proofs.YtlckmpioipiihaaGreat.A

namespace Go.Proofs.YtlckmpioipiihaaGreat.A
open Go.Proofs.YtlckmpioipiihaaGreat.K
open Go Go.Vm
set_option maxRecDepth 10000
set_option linter.unusedVariables false
def allAcc (S : List Int) (s : Int) : Nat → List Int
  | 0 => []
  | k + 1 => if S.getD k 0 = s ∧ s ≠ 0 then allAcc S s k ++ [(k : Int)] else allAcc S s k
theorem allAcc_len (S : List Int) (s : Int) : ∀ k, (allAcc S s k).length ≤ k
  | 0 => by simp [allAcc]
  | k + 1 => by
    have := allAcc_len S s k
    simp only [allAcc]
    split
    · simp; omega
    · omega
theorem allAcc_pos {S : List Int} {s : Int} (hs : s ≠ 0) : ∀ {k : Nat}, k ≤ S.length → (0 < (allAcc S s k).length ↔ s ∈ S.take k)
  | 0, _ => by simp [allAcc]
  | k + 1, hk => by
    have ih := allAcc_pos (S := S) hs (k := k) (by omega)
    have g : S.getD k 0 = S[k] := by simp [List.getD, show k < S.length from hk]
    rw [List.take_succ_eq_append_getElem hk, List.mem_append, List.mem_singleton, ← g]
    simp only [allAcc]
    split
    · rename_i h
      simp only [List.length_append, List.length_cons, List.length_nil]
      exact ⟨fun _ => .inr h.1.symm, fun _ => by omega⟩
    · rename_i h
      rw [ih]
      exact ⟨.inl, fun e => e.elim id fun e => absurd ⟨e.symm, hs⟩ h⟩
theorem one_int {h : Heap} {n : Int} {es : Nat} : newCells (h.push (.cells [.int .i64 n] es)) 1 [.int .i64 0] false (.slice (some ⟨h.n, 0, none⟩) 1 1) = some (1, [.int .i64 n]) :=
  (Rd.mk (size := 1) (n := 1) (cap := 1) (sp := none) (o := 0) (b := h.n) (c := [.int .i64 n]) (by simp) (by rw [cellsAt_of (c := [.int .i64 n]) (by rw [Heap.get_push, if_pos rfl]; rfl) (by simp)]; rfl)).new _
theorem ncells_append (l m : List Int) : ncells (l ++ m) = ncells l ++ ncells m := by simp [ncells]
set_option maxHeartbeats 4000000 in
theorem DAll_ok {h : Heap} {q : Nat} {c : Dc} {s : Int} (hc : DAt h q c) : Runs Tryz.prog T0 (.fn fn_zadQ) [.pointer (some ⟨q, 0, none⟩), .int .i64 s] h (fun r h' => Own h' 1 r (ncells (allAcc c.S s 16)) (allAcc c.S s 16).length ∧ (∀ i, ownedBy r i → h.n ≤ i) ∧ Fr (fun _ => False) h h') (fun _ _ => False) := by
  refine zadQ_runs ?_
  refine stp ?_
  refine loop2 zadQ_l0_M 5 6 (fun m v5 v6 h' => ∃ k : Nat, k ≤ 16 ∧ m = 16 - k ∧ v6 = .int .i64 k ∧ Own h' 1 v5 (ncells (allAcc c.S s k)) (allAcc c.S s k).length ∧ (∀ i, ownedBy v5 i → h.n ≤ i) ∧ Fr (fun _ => False) h h') ?_ 16 ⟨0, by omega, rfl, rfl, .none, fun i hi => hi.elim, Fr.refl⟩
  rintro m v5 v6 h' x7 x8 x9 x10 x11 x12 x13 x14 x15 x16 x17 x18 x19 x20 x21 x22 x23 x24 x25 x26 ⟨k, hk, rfl, rfl, ho, hnew, hf⟩
  refine stp ?_
  refine C.if (fun hlt => ?_) (fun hge => ?_)
  · have hlt : k < 16 := by omega
    have c1 := hc.keep hf id
    haveI := Dc.st c1 hlt
    have hacc : allAcc c.S s (k + 1) = if c.S.getD k 0 = s ∧ s ≠ 0 then allAcc c.S s k ++ [(k : Int)] else allAcc c.S s k := rfl
    have hln := allAcc_len c.S s k
    generalize c.S.getD k 0 = t at *
    refine stp ?_
    refine O.dec (fun e1 => ?_) (fun e1 => ?_)
    · refine stp ?_
      refine C.ifN (fun e2 => ?_) (fun e2 => ?_)
      · rw [if_pos ⟨e1, e2⟩] at hacc
        refine stp ?_
        refine O.append (ho.keep (S := fun _ => False) Fr.refl.push fun _ _ => id) one_int rfl rfl (by omega) (by omega) (by omega) (fun v6 h6 ho6 hf6 hn6 => ?_)
        refine stp ?_
        refine loop2a 5 6 (16 - (k + 1)) (by omega) ⟨k + 1, by omega, rfl, rfl, ?_, fun i hi => ?_, hf.trans (Fr.trans (S := ownedBy v5) Fr.refl.push hf6 fun _ _ h => h) fun i hi h => by have := hnew i h; omega⟩
        · rw [hacc, ncells_append, List.length_append]
          exact ho6
        · rcases hn6 i hi with h7 | h7
          · exact hnew i h7
          · have := hf.n
            simp at h7; omega
      · rw [if_neg (fun e => e.2 e2)] at hacc
        refine stp ?_
        exact loop2a 5 6 (16 - (k + 1)) (by omega) ⟨k + 1, by omega, rfl, rfl, by rw [hacc]; exact ho, hnew, hf⟩
    · rw [if_neg (fun e => e1 e.1)] at hacc
      refine stp ?_
      exact loop2a 5 6 (16 - (k + 1)) (by omega) ⟨k + 1, by omega, rfl, rfl, by rw [hacc]; exact ho, hnew, hf⟩
  · obtain rfl : k = 16 := by omega
    refine stp ?_
    exact ⟨ho, hnew, hf⟩
def resL (S : List Int) (d : Int) : Int := if 0 ≤ d then 3 else if (1 : Int) ∈ S then 0 else if (2 : Int) ∈ S then 1 else 2
theorem DResult_ok {h : Heap} {q : Nat} {c : Dc} (hc : DAt h q c) : Runs Tryz.prog T0 (.fn fn_zcdQ) [.pointer (some ⟨q, 0, none⟩)] h (fun r h' => r = .int .i64 (resL c.S c.who) ∧ Fr (fun _ => False) h h') (fun _ _ => False) := by
  haveI := Dc.wh hc
  have p1 := allAcc_pos (S := c.S) (s := 1) (by omega) (k := 16) (by rw [hc.ok.len]; omega)
  have p2 := allAcc_pos (S := c.S) (s := 2) (by omega) (k := 16) (by rw [hc.ok.len]; omega)
  rw [List.take_of_length_le (by rw [hc.ok.len]; omega)] at p1 p2
  refine zcdQ_runs ?_
  refine stp ?_
  unfold resL
  refine C.if (fun e1 => ?_) (fun e1 => ?_)
  · refine stp ?_
    rw [if_pos e1]
    exact ⟨rfl, Fr.refl⟩
  rw [if_neg e1]
  refine stp ?_
  refine O.call' (DAll_ok hc) (fun r h1 hr => ?_)
  obtain ⟨o1, _, f1⟩ := hr
  obtain ⟨a1, c1, rfl, _, _⟩ := id o1.rd
  refine stp ?_
  refine C.if (fun e2 => ?_) (fun e2 => ?_)
  · refine stp ?_
    rw [if_pos (p1.1 (by omega))]
    exact ⟨rfl, f1⟩
  rw [if_neg (fun e => e2 (by have := p1.2 e; omega))]
  refine stp ?_
  refine O.call' (DAll_ok (hc.keep f1 id)) (fun r h2 hr => ?_)
  obtain ⟨o2, _, f2⟩ := hr
  obtain ⟨a2, c2, rfl, _, _⟩ := id o2.rd
  refine stp ?_
  refine C.if (fun e3 => ?_) (fun e3 => ?_)
  · refine stp ?_
    rw [if_pos (p2.1 (by omega))]
    exact ⟨rfl, f1.trans' f2⟩
  rw [if_neg (fun e => e3 (by have := p2.2 e; omega))]
  refine stp ?_
  exact ⟨rfl, f1.trans' f2⟩
end Go.Proofs.YtlckmpioipiihaaGreat.A

namespace Go.Proofs.YtlckmpioipiihaaGreat.A
open Go.Proofs.YtlckmpioipiihaaGreat.K
open Go Go.Vm
set_option maxRecDepth 10000
set_option linter.unusedVariables false
abbrev askL (l : List Int) : List Int := l.foldl (fun S w => S.set w.toNat 1) (List.replicate 16 0)
abbrev dc0 (l : List UInt8) (S : List Int) : Dc := ⟨l, S, -1, zBk, .slice none 0 0, .slice none 0 0⟩
theorem dc0_ok {l : List UInt8} {S : List Int} (h1 : l.length = 32) (h2 : S.length = 16) : (dc0 l S).ok := ⟨h1, h2, zeroHd_ok, rfl, inferInstanceAs (One1 (.slice none 0 0)), inferInstanceAs (One1 (.slice none 0 0))⟩
set_option maxHeartbeats 8000000 in
theorem DNew_ok {h : Heap} {x : Bk} {sv sl v : Value} {l : List Int} (hb : BkRd h x sv sl) (hv : Rd h 1 v (ncells l) l.length) (hsm : l.length < 1048576) (hcl : x.h.chain.length ≤ 60) :
    Runs Tryz.prog T0 (.fn fn_zgdQ) [.agg ⟨x.cells sv sl⟩, v] h (fun r h' => Fr (fun _ => False) h h' ∧ (
      (checkS x.h ≠ 0 ∧ r = .tuple ⟨[.pointer none, .int .i64 (checkS x.h)]⟩) ∨
      (checkS x.h = 0 ∧ newE (-1) l ≠ 0 ∧ r = .tuple ⟨[.pointer none, .int .i64 (newE (-1) l)]⟩) ∨
      (checkS x.h = 0 ∧ newE (-1) l = 0 ∧ ∃ q, r = .tuple ⟨[.pointer (some ⟨q, 0, none⟩), .int .i64 0]⟩ ∧ h.n ≤ q ∧ DAt h' q (dc0 (hashH x.h) (askL l))))) (fun _ _ => False) := by
  have hx := hb.hd
  have hch := hb.hash
  haveI := l32 hx.prev
  haveI := l32 hx.vals
  haveI := l32 hx.next
  haveI := l32 hx.app
  haveI := l32 hch
  haveI := l32 (hashH_len x.h)
  obtain ⟨a1, c1, rfl, _, _⟩ := id hb.sv
  obtain ⟨a2, c2, rfl, _, _⟩ := id hb.sl
  obtain ⟨a, cap, rfl, hlen, hcv⟩ := hv
  refine zgdQ_runs ?_
  refine stp ?_
  have F0 : Fr (fun _ => False) h (h.push (.cells (x.cells (.slice a1 x.c.votes.length c1) (.slice a2 x.vals.length c2)) 0)) := Fr.refl.push
  have n0 : (h.push (.cells (x.cells (.slice a1 x.c.votes.length c1) (.slice a2 x.vals.length c2)) 0)).n = h.n + 1 := rfl
  generalize h.push (.cells (x.cells (.slice a1 x.c.votes.length c1) (.slice a2 x.vals.length c2)) 0) = h0 at *
  refine O.call' (RBHash_ok (hb.keep F0 fun _ _ => id) (by omega)) (fun r h4 hr => ?_)
  obtain ⟨rfl, f4⟩ := hr
  have F4 := F0.trans' f4
  have n4 := f4.n
  refine stp ?_
  have F5 : Fr (fun _ => False) h (h4.push (.cells (bcells (hashH x.h)) 0)) := F4.push
  have gH : HGet (h4.push (.cells (bcells (hashH x.h)) 0)) h4.n (.cells (bcells (hashH x.h)) 0) := HGet.new
  have n5 : (h4.push (.cells (bcells (hashH x.h)) 0)).n = h4.n + 1 := rfl
  generalize h4.push (.cells (bcells (hashH x.h)) 0) = h5 at *
  haveI := gH
  haveI : BLt h4.n h5 := ⟨by omega⟩
  refine C.ifN (fun e2 => ?_) (fun e2 => ?_)
  · refine stp ?_
    exact ⟨F5, .inl ⟨e2, rfl⟩⟩
  refine stp ?_
  have hd0 := dc0_ok (hashH_len x.h) (S := List.replicate 16 0) rfl
  change RunC _ _ _ { ts := _, ds := _, h := h5.push (.cells (dc0 (hashH x.h) (List.replicate 16 0)).cells 0), rd := _ } _
  have F6 : Fr (fun _ => False) h (h5.push (.cells (dc0 (hashH x.h) (List.replicate 16 0)).cells 0)) := F5.push
  have C6 : DAt (h5.push (.cells (dc0 (hashH x.h) (List.replicate 16 0)).cells 0)) h5.n (dc0 (hashH x.h) (List.replicate 16 0)) := ⟨hd0, by simp, HGet.new.eq⟩
  have n6 : (h5.push (.cells (dc0 (hashH x.h) (List.replicate 16 0)).cells 0)).n = h5.n + 1 := rfl
  generalize h5.push (.cells (dc0 (hashH x.h) (List.replicate 16 0)).cells 0) = h6 at *
  refine loop1 zgdQ_l0_M 9 (fun q v9 h' => ∃ k : Nat, k ≤ l.length ∧ q = l.length - k ∧ v9 = .int .i64 k ∧ newE (-1) l = newE (lastI l k) (l.drop k) ∧ DAt h' h5.n (dc0 (hashH x.h) (askL (l.take k))) ∧ Fr (fun i => i = h5.n) h6 h') ?_ l.length ⟨0, by omega, rfl, rfl, rfl, C6, Fr.refl⟩
  rintro m v9 h' x4 x5 x21 x22 x23 x24 x25 x26 x27 x28 x29 x30 x31 x32 x33 x34 x35 x36 x37 x38 x39 x40 x41 x42 x43 x44 x45 x46 x47 x48 x49 x50 x51 x52 x53 x54 x55 x56 x57 x58 x59 x60 x61 x62 ⟨k, hk, rfl, rfl, hne, hC', hf⟩
  have n5' := F5.n
  have F7 : Fr (fun _ => False) h h' := F6.trans hf fun i hi e => by omega
  refine stp ?_
  refine C.if (fun hlt => ?_) (fun hge => ?_)
  · have hlt : k < l.length := by omega
    obtain ⟨b, o, sp, rfl, hb1, hcc⟩ := hcv (by omega)
    have hcc' : cellsAt h' b o (l.length * 1) = some (ncells l) := by rw [cellsAt_keep F7 hb1 id]; exact hcc
    haveI := ncell_at hcc' rfl hlt
    have hat := newE_at hlt
    have hask : askL (l.take (k + 1)) = (askL (l.take k)).set (l.getD k 0).toNat 1 := by
      have g : l.getD k 0 = l[k] := by simp [List.getD, hlt]
      unfold askL
      rw [List.take_succ_eq_append_getElem hlt, g, List.foldl_append]
      rfl
    rw [← hne] at hat
    have hprev : 0 < k → Cell h' b (o + (k - 1)) (.int .i64 (lastI l k)) := fun h0 => by
      have := ncell_at (k := k - 1) hcc' rfl (by omega)
      unfold lastI
      rw [if_neg (by omega)]
      exact this
    have hl0 : k = 0 → lastI l k = -1 := fun h0 => by unfold lastI; rw [if_pos h0]
    generalize hw : l.getD k 0 = w at *
    refine stp ?_
    refine O.dec (fun e3 => ?_) (fun e3 => ?_)
    · refine stp ?_
      rw [if_pos (.inl e3)] at hat
      exact ⟨F7, .inr (.inl ⟨by omega, by omega, by rw [hat]⟩)⟩
    refine stp ?_
    refine C.if (fun e4 => ?_) (fun e4 => ?_)
    · refine stp ?_
      rw [if_pos (.inr (by omega))] at hat
      exact ⟨F7, .inr (.inl ⟨by omega, by omega, by rw [hat]⟩)⟩
    rw [if_neg (by omega)] at hat
    haveI i1 := Dc.putS hC' (k := w.toNat) (by omega) 1
    rw [show ({ dc0 (hashH x.h) (askL (l.take k)) with S := (dc0 (hashH x.h) (askL (l.take k))).S.set w.toNat 1 } : Dc) = dc0 (hashH x.h) (askL (l.take (k + 1))) by rw [hask]] at i1
    haveI : Put h' h5.n (32 + w.toNat * 1) [.int .i64 1] (h'.set h5.n (.cells (dc0 (hashH x.h) (askL (l.take (k + 1)))).cells 0)) := by rw [Nat.mul_one]; exact i1
    have C8 : DAt (h'.set h5.n (.cells (dc0 (hashH x.h) (askL (l.take (k + 1)))).cells 0)) h5.n (dc0 (hashH x.h) (askL (l.take (k + 1)))) := by
      have := hC'.stand (k := w.toNat) (s := 1)
      rw [show (dc0 (hashH x.h) (askL (l.take k))).stand w.toNat 1 = dc0 (hashH x.h) (askL (l.take (k + 1))) by rw [hask]] at this
      exact this
    have hlt5 := hC'.lt
    haveI : BLt h5.n h' := ⟨hlt5⟩
    have hlk : lastI l (k + 1) = w := by unfold lastI; rw [if_neg (Nat.succ_ne_zero k), Nat.add_sub_cancel, hw]
    rw [hlk] at hat
    refine stp ?_
    refine D.dec (fun e5 => ?_) (fun e5 => ?_)
    · haveI : Cell h' b (o + ((k : Int) - 1).toNat * 1) (.int .i64 (lastI l k)) := by
        have := hprev (by omega)
        rw [Nat.mul_one, show ((k : Int) - 1).toNat = k - 1 by omega]
        exact this
      refine stp ?_
      refine D.howT (XOp.mkIndexSl (by omega)) rfl ?_
      refine stp ?_
      refine D.howT (XOp.mkIndexSl (by omega)) rfl ?_
      refine stp ?_
      refine C.if (fun e6 => ?_) (fun e6 => ?_)
      · refine stp ?_
        rw [if_pos e6] at hat
        exact ⟨F7, .inr (.inl ⟨by omega, by omega, by rw [hat]⟩)⟩
      · rw [if_neg e6] at hat
        refine stp ?_
        exact loop1a 9 (l.length - (k + 1)) (by omega) ⟨k + 1, by omega, rfl, rfl, by rw [hlk]; exact hat, C8, hf.set fun _ => rfl⟩
    · have hz := hl0 (by omega)
      rw [if_neg (by omega)] at hat
      refine stp ?_
      exact loop1a 9 (l.length - (k + 1)) (by omega) ⟨k + 1, by omega, rfl, rfl, by rw [hlk]; exact hat, C8, hf.set fun _ => rfl⟩
  · refine stp ?_
    obtain rfl : k = l.length := by omega
    rw [List.drop_eq_nil_of_le (by omega)] at hne
    rw [List.take_of_length_le (by omega)] at hC'
    exact ⟨F7, .inr (.inr ⟨by omega, hne, h5.n, rfl, by omega, hC'⟩)⟩
end Go.Proofs.YtlckmpioipiihaaGreat.A

namespace Go.Proofs.YtlckmpioipiihaaGreat.A
open Go.Proofs.YtlckmpioipiihaaGreat.K
open Go Go.Vm
set_option maxRecDepth 10000
set_option linter.unusedVariables false
theorem ncells_one (l : List Int) : (ncells l).all Value.oneCell' = true := by
  unfold ncells
  rw [List.all_map, List.all_eq_true]
  intro x _
  rfl
theorem CopyInts_ok {h : Heap} {v : Value} {l : List Int} (hr : Rd h 1 v (ncells l) l.length) (hs : l.length < 1048576) :
    Runs Tryz.prog T0 (.fn fn_zqbQ) [v] h (fun r h' => Own h' 1 r (ncells l) l.length ∧ (∀ i, ownedBy r i → h.n ≤ i) ∧ Fr (fun _ => False) h h') (fun _ _ => False) := by
  refine zqbQ_runs ?_
  refine stp ?_
  have hz : Own (h.push (.cells [] 0)) 1 (.slice (some ⟨h.n, 0, none⟩) 0 0) [] 0 := .lit (by simp) (by rw [Heap.get_push, if_pos rfl])
  refine O.append hz ((hr.keep (S := fun _ => False) Fr.refl.push fun _ _ => id).new [.int .i64 0]) (by rw [ncells_len]; omega) (ncells_one l) (by omega) (by omega) (by omega) (fun v' h' h1 h2 h3 => ?_)
  refine stp ?_
  rw [Nat.zero_add, List.nil_append] at h1
  refine ⟨h1, fun i hi => ?_, Fr.trans (S := fun _ => False) Fr.refl.push h2 fun i hi ho => ?_⟩
  · rcases h3 i hi with h4 | h4
    · rw [← h4]; exact Nat.le_refl _
    · simp at h4; omega
  · have : h.n = i := ho
    omega
theorem SameInts_same {h : Heap} {v w : Value} {l : List Int} (hv : Rd h 1 v (ncells l) l.length) (hw : Rd h 1 w (ncells l) l.length) (hs : l.length < 1048576) :
    Runs Tryz.prog T0 (.fn fn_zzbQ) [v, w] h (fun r h' => r = .bool true ∧ h' = h) (fun _ _ => False) := by
  obtain ⟨a, cap, rfl, hlen, hc⟩ := hv
  obtain ⟨a', cap', rfl, hlen', hc'⟩ := hw
  refine zzbQ_runs ?_
  refine stp ?_
  refine loop2 zzbQ_l0_M 5 6 (fun m v5 v6 h' => ∃ k : Nat, k ≤ l.length ∧ m = l.length - k ∧ v6 = .int .i64 k ∧ v5 = .bool true ∧ h' = h) ?_ l.length ⟨0, by omega, rfl, rfl, by simp, rfl⟩
  rintro m v5 v6 h' x12 x13 x14 x15 x16 x17 x18 x19 x20 x21 x22 x23 x24 x25 x26 x27 x28 x29 ⟨k, hk, rfl, rfl, rfl, rfl⟩
  refine stp ?_
  refine C.if (fun hlt => ?_) (fun hge => ?_)
  · have hlt : k < l.length := by omega
    obtain ⟨b, o, sp, rfl, hb, hcc⟩ := hc (by omega)
    obtain ⟨b', o', sp', rfl, hb', hcc'⟩ := hc' (by omega)
    haveI := ncell_at hcc rfl hlt
    haveI := ncell_at hcc' rfl hlt
    refine stp ?_
    simp only [decide_true]
    exact loop2a 5 6 (l.length - (k + 1)) (by omega) ⟨k + 1, by omega, rfl, rfl, rfl, rfl⟩
  · refine stp ?_
    exact ⟨rfl, rfl⟩
theorem OverInts_ok {h : Heap} {v : Value} {c : List Value} {n : Nat} (ho : Own h 1 v c n) (hs : n < 1048576) :
    Runs Tryz.prog T0 (.fn fn_zvbQ) [v] h (fun r h' => Fr (ownedBy v) h h') (fun _ _ => False) := by
  refine zvbQ_runs ?_
  cases ho with
  | none =>
    refine stp ?_
    refine loop1 zvbQ_l0_M 2 (fun m v2 h' => v2 = .int .i64 0 ∧ h' = h) ?_ 0 ⟨rfl, rfl⟩
    rintro m v2 h' x3 x4 x5 x6 x7 x8 x9 x10 x11 ⟨rfl, rfl⟩
    refine stp ?_
    exact Fr.refl
  | lit hq hg =>
    refine stp ?_
    refine loop1 zvbQ_l0_M 2 (fun m v2 h' => v2 = .int .i64 0 ∧ h' = h) ?_ 0 ⟨rfl, rfl⟩
    rintro m v2 h' x3 x4 x5 x6 x7 x8 x9 x10 x11 ⟨rfl, rfl⟩
    refine stp ?_
    exact Fr.refl
  | grown hq hn hle hl hl2 hg =>
    rename_i q kk cap j
    refine stp ?_
    refine loop1 zvbQ_l0_M 2 (fun m v2 h' => ∃ k : Nat, k ≤ n ∧ m = n - k ∧ v2 = .int .i64 k ∧ (∃ cs, h'.get q = .cells cs 1 ∧ cs.length = cap * 1) ∧ Fr (ownedBy (.slice (some ⟨q, 0, some kk⟩) n cap)) h h') ?_ n ⟨0, by omega, rfl, rfl, ⟨_, hg, hl2⟩, Fr.refl⟩
    rintro m v2 h' x3 x4 x5 x6 x7 x8 x9 x10 x11 ⟨k, hk, rfl, rfl, ⟨cs, hg', hcs⟩, hf⟩
    haveI : HGet h' q _ := ⟨hg'⟩
    refine stp ?_
    refine C.if (fun hlt => ?_) (fun hge => ?_)
    · refine stp ?_
      refine O.by0 (mkStoreN (xs := [.int .i64 (-77)]) (c := cs) (r := q) (es := 1) (by simp; omega) rfl rfl) rfl ?_
      refine stp ?_
      refine loop1a 2 (n - (k + 1)) (by omega) ⟨k + 1, by omega, rfl, rfl, ⟨_, by rw [Heap.get_set, if_pos rfl], ?_⟩, Fr.set hf fun _ => rfl⟩
      rw [over_length _ _ _ (by simp; omega), hcs]
    · refine stp ?_
      exact hf
end Go.Proofs.YtlckmpioipiihaaGreat.A

namespace Go.Proofs.YtlckmpioipiihaaGreat.A
open Go.Proofs.YtlckmpioipiihaaGreat.K
open Go Go.Vm
set_option maxRecDepth 10000
set_option linter.unusedVariables false
set_option maxHeartbeats 8000000 in
theorem CopyBlockA_ok {h : Heap} {x : Bk} {sv sl : Value} (hb : BkRd h x sv sl) (h1 : x.c.votes.length < 1048576) (h2 : x.vals.length < 1048576) :
    Runs Tryz.prog T0 (.fn fn_zobQ) [.agg ⟨x.cells sv sl⟩] h
      (fun r h' => ∃ sw sm, r = .agg ⟨x.cells sw sm⟩ ∧ Own h' 2 sw (tcells x.c.votes) x.c.votes.length ∧ Own h' 5 sm (vcells x.vals) x.vals.length ∧ (∀ i, ownedBy sw i → h.n ≤ i) ∧ (∀ i, ownedBy sm i → h.n ≤ i) ∧ (∀ i, ownedBy sw i → ¬ ownedBy sm i) ∧ Fr (fun _ => False) h h') (fun _ _ => False) := by
  have hx := hb.hd
  have hch := hb.hash
  haveI := l32 hx.prev
  haveI := l32 hx.vals
  haveI := l32 hx.next
  haveI := l32 hx.app
  haveI := l32 hch
  obtain ⟨a1, c1, rfl, _, _⟩ := id hb.sv
  obtain ⟨a2, c2, rfl, _, _⟩ := id hb.sl
  refine zobQ_runs ?_
  refine stp ?_
  have gA : HGet ((h.push (.cells (x.cells (.slice a1 x.c.votes.length c1) (.slice a2 x.vals.length c2)) 0)).push (.cells zBc 0)) h.n (.cells (x.cells (.slice a1 x.c.votes.length c1) (.slice a2 x.vals.length c2)) 0) := HGet.push (k := BLt.new) (g := HGet.new)
  have gB : HGet ((h.push (.cells (x.cells (.slice a1 x.c.votes.length c1) (.slice a2 x.vals.length c2)) 0)).push (.cells zBc 0)) (h.push (.cells (x.cells (.slice a1 x.c.votes.length c1) (.slice a2 x.vals.length c2)) 0)).n (.cells zBc 0) := HGet.new
  have f0 : Fr (fun _ => False) h ((h.push (.cells (x.cells (.slice a1 x.c.votes.length c1) (.slice a2 x.vals.length c2)) 0)).push (.cells zBc 0)) := Fr.refl.push.push
  have n0 : ((h.push (.cells (x.cells (.slice a1 x.c.votes.length c1) (.slice a2 x.vals.length c2)) 0)).push (.cells zBc 0)).n = h.n + 2 := rfl
  have nb : (h.push (.cells (x.cells (.slice a1 x.c.votes.length c1) (.slice a2 x.vals.length c2)) 0)).n = h.n + 1 := rfl
  generalize (h.push (.cells (x.cells (.slice a1 x.c.votes.length c1) (.slice a2 x.vals.length c2)) 0)).push (.cells zBc 0) = h0 at *
  generalize (h.push (.cells (x.cells (.slice a1 x.c.votes.length c1) (.slice a2 x.vals.length c2)) 0)).n = pb at *
  refine O.call' (CopyCommit_ok hch (hb.keep f0 fun _ _ => id).sv h1) (fun r h3 hr => ?_)
  obtain ⟨sw, rfl, ho, hnew, hf3⟩ := hr
  have gA3 := hf3.keep gA (by omega) id
  have gB3 := hf3.keep gB (by omega) id
  have n3 := hf3.n
  obtain ⟨a3, c3, rfl, _, _⟩ := id ho.rd
  haveI := gA3
  haveI : BLt h.n h3 := ⟨by omega⟩
  refine stp ?_
  have gA4 : HGet (h3.set h.n (.cells (x.cells (.slice a3 x.c.votes.length c3) (.slice a2 x.vals.length c2)) 0)) h.n (.cells (x.cells (.slice a3 x.c.votes.length c3) (.slice a2 x.vals.length c2)) 0) := HGet.same
  have gB4 : HGet (h3.set h.n (.cells (x.cells (.slice a3 x.c.votes.length c3) (.slice a2 x.vals.length c2)) 0)) pb (.cells zBc 0) := HGet.set (k := ⟨by omega⟩) (g := gB3)
  have f4 : Fr (fun i => i = h.n) h3 (h3.set h.n (.cells (x.cells (.slice a3 x.c.votes.length c3) (.slice a2 x.vals.length c2)) 0)) := Fr.refl.set fun _ => rfl
  have F4 : Fr (fun _ => False) h (h3.set h.n (.cells (x.cells (.slice a3 x.c.votes.length c3) (.slice a2 x.vals.length c2)) 0)) := (f0.trans' hf3).trans f4 fun i hi e => by omega
  have ho4 := ho.keep f4 fun b hb e => by have := hnew b hb; omega
  have n4 : (h3.set h.n (.cells (x.cells (.slice a3 x.c.votes.length c3) (.slice a2 x.vals.length c2)) 0)).n = h3.n := rfl
  generalize h3.set h.n (.cells (x.cells (.slice a3 x.c.votes.length c3) (.slice a2 x.vals.length c2)) 0) = h4 at *
  refine O.call' (CopyVals_ok (hb.keep F4 fun _ _ => id).sl h2) (fun r h5 hr => ?_)
  obtain ⟨hov, hf5, hnv⟩ := hr
  have gA5 := hf5.keep gA4 (by omega) id
  have gB5 := hf5.keep gB4 (by omega) id
  have n5 := hf5.n
  have ho5 := ho4.keep hf5 fun _ _ => id
  obtain ⟨a4, c4, rfl, _, _⟩ := id hov.rd
  haveI := gA5
  haveI := gB5
  haveI : BNe pb h.n := ⟨by omega⟩
  haveI : BNe h.n pb := ⟨by omega⟩
  refine stp ?_
  have f6 : ∀ {o1 o2 : AObj}, Fr (fun i => i = h.n ∨ i = pb) h5 ((h5.set h.n o1).set pb o2) := fun {o1 o2} => (Fr.refl.set fun _ => .inl rfl).set fun _ => .inr rfl
  refine ⟨_, _, rfl, ho5.keep f6 fun b hb e => by have := hnew b hb; omega, hov.keep f6 fun b hb e => by have := hnv b hb; omega, fun i hi => by have := hnew i hi; omega, fun i hi => by have := hnv i hi; omega, fun i hi e => by have := ho.lt hi; have := hnv i e; omega, (F4.trans' hf5).trans f6 fun i hi e => by omega⟩
theorem OverBlockL_ok {h : Heap} {lo : Nat} {x : Bk} {sv sl : Value} (hx : x.h.ok) (hh : x.c.hash.length = 32) (hvo : x.c.votes.length ≤ 70) (hva : x.vals.length ≤ 70) (hb : BkOwn h lo x sv sl) :
    Runs Tryz.prog T0 (.fn fn_ztbQ) [.agg ⟨x.cells sv sl⟩] h (fun r h' => Fr (fun i => lo ≤ i) h h') (fun _ _ => False) := by
  haveI := l32 hx.prev
  haveI := l32 hx.vals
  haveI := l32 hx.next
  haveI := l32 hx.app
  haveI := l32 hh
  have hlv := fun {i : Nat} (hi : ownedBy sv i) => hb.votes.lt hi
  have hll := fun {i : Nat} (hi : ownedBy sl i) => hb.vals.lt hi
  refine ztbQ_runs ?_
  refine stp ?_
  refine O.call' (OverVals_ok (hb.vals.keep (S := fun _ => False) Fr.refl.push fun _ _ => id) (by omega)) (fun r h1 hr => ?_)
  have hf1 := hr
  have hn1 := hf1.n
  simp only [Heap.n_push] at hn1
  haveI hA := hf1.keep (b := h.n) (HGet.new (h := h) (o := .cells (x.cells sv sl) 0)) (by simp) (fun hi => by have := hll hi; omega)
  refine stp ?_
  refine O.call' (OverCommit_ok hh ((hb.votes.keep (S := fun _ => False) Fr.refl.push fun _ _ => id).keep hf1 hb.apart) (by omega)) (fun r h2 hr => ?_)
  have hf2 := hr
  refine stp ?_
  refine Fr.trans (S := fun i => lo ≤ i) (Fr.trans (S := fun i => lo ≤ i) Fr.refl.push hf1 fun i _ hi => hb.lnew i hi) hf2 fun i _ hi => hb.vnew i hi
end Go.Proofs.YtlckmpioipiihaaGreat.A

namespace Go.Proofs.YtlckmpioipiihaaGreat.A
open Go.Proofs.YtlckmpioipiihaaGreat.K
open Go Go.Vm
set_option maxRecDepth 10000
set_option linter.unusedVariables false
set_option maxHeartbeats 4000000 in
theorem al_round {h : Heap} {lp p3 p4 n : Nat} {s : Int} {w : Wit} {v : Value} {L : List Int} {f0 f1 f2 f5 f6 f7 f8 f9 f10 f11 f12 f13 f14 f15 f16 f17 f18 f19 : Value} (hw : w.ok) (hlp : h.get lp = .loop .ready none [f0, f1, f2, .pointer (some ⟨p3, 0, none⟩), .pointer (some ⟨p4, 0, none⟩), f5, f6, f7, f8, f9, f10, f11, f12, f13, f14, f15, f16, f17, f18, f19] [9, 10] zmQ_ra0 zmQ_rb0)
    (h3 : h.get p3 = .cells [.int .i64 s] 0) (h4 : h.get p4 = .cells [v] 0) (ho : Own h 1 v (ncells L) L.length) (hL : L.length < 1000) (hv : ∀ i, ownedBy v i → i ≠ lp ∧ i ≠ p4) (ll : lp < h.n) (m3 : p3 < h.n) (m4 : p4 < h.n) (n3 : p3 ≠ lp) (n4 : p4 ≠ lp) :
    Runs Tryz.prog T0 (.yield lp) [.int .i64 (n : Int), .agg ⟨w.cells⟩] h (fun r g => r = .bool true ∧ g.get lp = .loop .ready none [f0, f1, f2, .pointer (some ⟨p3, 0, none⟩), .pointer (some ⟨p4, 0, none⟩), f5, f6, f7, f8, f9, f10, f11, f12, f13, f14, f15, f16, f17, f18, f19] [9, 10] zmQ_ra0 zmQ_rb0 ∧
      (∃ v', g.get p4 = .cells [v'] 0 ∧ Own g 1 v' (ncells (if w.st = s then L ++ [(n : Int)] else L)) (if w.st = s then L ++ [(n : Int)] else L).length ∧ (∀ i, ownedBy v' i → ownedBy v i ∨ h.n ≤ i)) ∧ Fr (fun i => i = lp ∨ i = p4 ∨ ownedBy v i) h g) (fun _ _ => False) := by
  haveI := l32 hw.hd.prev
  haveI := l32 hw.hd.vals
  haveI := l32 hw.hd.next
  haveI := l32 hw.hd.app
  haveI := l32 hw.hash
  haveI := hw.cv
  haveI := hw.cl
  haveI : HGet h lp _ := ⟨hlp⟩
  haveI : HGet h p3 _ := ⟨h3⟩
  haveI : HGet h p4 _ := ⟨h4⟩
  haveI : BLt lp h := ⟨ll⟩
  haveI : BLt p3 h := ⟨m3⟩
  haveI : BLt p4 h := ⟨m4⟩
  haveI : BNe p3 lp := ⟨n3⟩
  haveI : BNe p4 lp := ⟨n4⟩
  haveI : BNe lp p4 := ⟨fun e => n4 e.symm⟩
  haveI : BNe lp p3 := ⟨fun e => n3 e.symm⟩
  refine Runs.round hlp put_two rfl zmQ_na0 zmQ_nb0 zmQ_ca0 zmQ_cb0 ?_
  refine stp ?_
  refine A.go ?_
  refine stp ?_
  refine C.if (fun e1 => ?_) (fun e1 => ?_)
  · refine stp ?_
    have hL1 : (L ++ [(n : Int)]).length = L.length + 1 := by simp
    refine O.append ((ho.keep (Fr.refl.push.set (S := fun i => i = lp) fun _ => rfl) fun b hb e => (hv b hb).1 e).keep (S := fun _ => False) Fr.refl.push fun _ _ => id) one_int rfl rfl (by omega) (by omega) (by omega) (fun v6 h6 ho6 hf6 hn6 => ?_)
    have q6 := hf6.n
    simp only [Heap.n_set, Heap.n_push] at q6 hn6
    haveI := hf6.keep (b := lp) inferInstance (by simp; omega) (fun e => (hv lp e).1 rfl)
    haveI := hf6.keep (b := p4) (o := .cells [v] 0) inferInstance (by simp; omega) (fun e => (hv p4 e).2 rfl)
    haveI : BLt lp h6 := ⟨by omega⟩
    haveI : BLt p4 h6 := ⟨by omega⟩
    have F6 : Fr (fun i => i = lp ∨ ownedBy v i) h h6 := (((Fr.refl.push.set (S := fun i => i = lp ∨ ownedBy v i) fun _ => .inl rfl).push)).trans' (hf6.mono fun _ _ e => .inr e)
    obtain ⟨a6, c6, rfl, _, _⟩ := id ho6.rd
    refine stp ?_
    refine A.on ?_
    rw [if_pos e1]
    have fS : ∀ {A B : AObj}, Fr (fun i => i = p4 ∨ i = lp) h6 ((h6.set p4 A).set lp B) := fun {A B} => (Fr.refl.set fun _ => .inl rfl).set fun _ => .inr rfl
    refine ⟨rfl, by rw [Heap.get_set, if_pos rfl], ⟨_, by rw [Heap.get_set, if_neg n4, Heap.get_set, if_pos rfl], ?_, fun i hi => ?_⟩, (F6.mono fun _ _ e => e.elim .inl fun e => .inr (.inr e)).trans' (fS.mono fun _ _ e => e.elim (fun e => .inr (.inl e)) .inl)⟩
    · rw [ncells_append, hL1]
      exact ho6.keep fS fun b hb e => by
        rcases hn6 b hb with h7 | h7
        · have := hv b h7; omega
        · omega
    · rcases hn6 i hi with h7 | h7
      · exact .inl h7
      · exact .inr (by omega)
  · refine stp ?_
    refine A.on ?_
    rw [if_neg e1]
    have fS : ∀ {A B C : AObj}, Fr (fun i => i = lp) h (((h.push A).set lp B).set lp C) := fun {A B C} => (Fr.refl.push.set (S := fun i => i = lp) fun _ => rfl).set fun _ => rfl
    exact ⟨rfl, by rw [Heap.get_set, if_pos rfl], ⟨v, by rw [fS.get _ m4 n4]; exact h4, ho.keep fS fun b hb e => (hv b hb).1 e, fun i hi => .inl hi⟩, fS.mono fun _ _ e => .inl e⟩
end Go.Proofs.YtlckmpioipiihaaGreat.A

namespace Go.Proofs.YtlckmpioipiihaaGreat.A
open Go.Proofs.YtlckmpioipiihaaGreat.K
open Go Go.Vm
set_option maxRecDepth 10000
set_option linter.unusedVariables false
noncomputable abbrev arec (p : Nat) (s : Int) (bx p3 p4 : Nat) : AObj := .loop .ready none [.pointer (some ⟨p, 0, none⟩), .int .i64 s, undef, .pointer (some ⟨p3, 0, none⟩), .pointer (some ⟨p4, 0, none⟩), undef, undef, .pointer (some ⟨p, 0, none⟩), .func (.func fn_ztQ) ⟨[]⟩ ⟨[.pointer (some ⟨bx, 0, none⟩)]⟩, undef, undef, undef, undef, undef, undef, undef, undef, undef, undef, undef] [9, 10] zmQ_ra0 zmQ_rb0
set_option maxHeartbeats 8000000 in
theorem All_ok {h : Heap} {p : Nat} {c : Cr} {s : Int} (hc : CrAt h p c) :
    Runs Tryz.prog T0 (.fn fn_zmQ) [.pointer (some ⟨p, 0, none⟩), .int .i64 s] h (fun r h' => Own h' 1 r (ncells (allAcc (SS c) s 16)) (allAcc (SS c) s 16).length ∧ (∀ i, ownedBy r i → h.n ≤ i) ∧ Fr (fun _ => False) h h') (fun _ _ => False) := by
  refine zmQ_runs ?_
  refine stp ?_
  have F0 : Fr (fun _ => False) h ((h.push (.cells [.int .i64 s] 0)).push (.cells [.slice none 0 0] 0)) := Fr.refl.push.push
  have n0 : ((h.push (.cells [.int .i64 s] 0)).push (.cells [.slice none 0 0] 0)).n = h.n + 2 := rfl
  have e4 : (h.push (.cells [.int .i64 s] 0)).n = h.n + 1 := rfl
  have g3 : ((h.push (.cells [.int .i64 s] 0)).push (.cells [.slice none 0 0] 0)).get h.n = .cells [.int .i64 s] 0 := by
    rw [Heap.get_push, if_neg (by simp), Heap.get_push, if_pos rfl]
  have g4 : ((h.push (.cells [.int .i64 s] 0)).push (.cells [.slice none 0 0] 0)).get (h.push (.cells [.int .i64 s] 0)).n = .cells [.slice none 0 0] 0 := by
    rw [Heap.get_push, if_pos rfl]
  generalize (h.push (.cells [.int .i64 s] 0)).push (.cells [.slice none 0 0] 0) = h0 at *
  generalize (h.push (.cells [.int .i64 s] 0)).n = p4 at *
  refine O.call' all_ok (fun r ha hr => ?_)
  obtain ⟨rfl, na, gx, fa⟩ := hr
  refine stp ?_
  have FL : Fr (fun _ => False) ha ((ha.push (.defs false)).push (arec p s h0.n h.n p4)) := Fr.refl.push.push
  have Fa := F0.trans' fa
  have F1 := Fa.trans' FL
  have ca := hc.keep F1 fun _ _ => id
  have hlen := hc.ok.len
  have hd : (ha.push (.defs false)).n = ha.n + 1 := rfl
  refine range_on (J := fun hx => (∃ v, hx.get p4 = .cells [v] 0 ∧ Own hx 1 v (ncells (allAcc (SS c) s 16)) (allAcc (SS c) s 16).length ∧ ∀ i, ownedBy v i → ha.n + 2 ≤ i) ∧ Fr (fun i => i = ha.n + 1 ∨ i = p4) (ha.push (.defs false)) hx) ?_ (fun hx hJ => ?_)
  · refine Runs.mono (all1_ok (I := fun k hx => hx.get (ha.n + 1) = arec p s h0.n h.n p4 ∧ (∃ v, hx.get p4 = .cells [v] 0 ∧ Own hx 1 v (ncells (allAcc (SS c) s k)) (allAcc (SS c) s k).length ∧ ∀ i, ownedBy v i → ha.n + 2 ≤ i) ∧ ha.n + 1 < hx.n ∧ Fr (fun i => i = ha.n + 1 ∨ i = p4) (ha.push (.defs false)) hx) (K := fun _ => False) (by rw [FL.get _ (by omega) id]; exact gx) (FL.lt (by omega)) ca ?_ ?_ ?_ ?_) (fun _ h' hh => ?_) (fun _ _ h => h)
    · rintro k hx hx' ⟨i1, ⟨v, i2, i3, i4⟩, i5, i6⟩ hf
      have i7 := i6.n
      exact ⟨by rw [hf.get _ i5 id]; exact i1, ⟨v, by rw [hf.get _ (by omega) id]; exact i2, i3.keep hf fun _ _ => id, i4⟩, hf.lt i5, i6.trans' (hf.mono fun _ _ e => e.elim)⟩
    · refine ⟨HGet.new.eq, ⟨_, ?_, .none, fun i hi => hi.elim⟩, by simp, Fr.refl.push⟩
      rw [FL.get _ (by omega) id, fa.get _ (by omega) id]
      exact g4
    · rintro k hx hk ⟨i1, ⟨v, i2, i3, i4⟩, i5, i6⟩ hst
      have i7 := i6.n
      have FD : Fr (fun i => i = ha.n + 1 ∨ i = p4) ha hx := Fr.trans' (Fr.refl.push (o := .defs false)) i6
      have hal := allAcc_len (SS c) s k
      refine Runs.mono (al_round (s := s) (Cr.get hc.ok hk) i1 ?_ i2 i3 (by omega) (fun i hi => ?_) i5 (by omega) (by omega) (by omega) (by omega)) (fun r h' hh => ?_) (fun _ _ h => h)
      · rw [FD.get _ (by omega) (by omega), fa.get _ (by omega) id]; exact g3
      · have := i4 i hi
        omega
      · obtain ⟨rfl, j1, ⟨v', j2, j3, j4⟩, j5⟩ := hh
        refine .inl ⟨rfl, j1, ⟨v', j2, ?_, fun i hi => ?_⟩, j5.lt i5, i6.trans j5 fun i hi e => ?_⟩
        · have ea : allAcc (SS c) s (k + 1) = if (c.ws.getD k zWit).st = s then allAcc (SS c) s k ++ [(k : Int)] else allAcc (SS c) s k := by
            simp only [allAcc]
            rw [← SS_get]
            by_cases e : (c.ws.getD k zWit).st = s
            · rw [if_pos ⟨e, by omega⟩, if_pos e]
            · rw [if_neg (fun h => e h.1), if_neg e]
          rw [ea]
          exact j3
        · rcases j4 i hi with h7 | h7
          · exact i4 i h7
          · omega
        · rcases e with e | e | e
          · exact .inl e
          · exact .inr e
          · have := i4 i e
            omega
    · rintro k hx hk ⟨i1, ⟨v, i2, i3, i4⟩, i5, i6⟩ hst
      have ea : allAcc (SS c) s (k + 1) = allAcc (SS c) s k := by
        simp only [allAcc]
        rw [← SS_get, if_neg (fun h => h.2 (by omega))]
      exact ⟨i1, ⟨v, i2, by rw [ea]; exact i3, i4⟩, i5, i6⟩
    · rcases hh with ⟨i1, i2, i3, i4⟩ | i1
      · exact ⟨i1, i2, i4⟩
      · exact i1.elim
  · obtain ⟨⟨v, q4, ho, hnew⟩, hf⟩ := hJ
    have gdf : hx.get ha.n = .defs false := by rw [hf.get _ (by omega) (by omega)]; exact HGet.new.eq
    have FD : Fr (fun i => i = ha.n + 1 ∨ i = p4) ha hx := Fr.trans' (Fr.refl.push (o := .defs false)) hf
    have hfx : Fr (fun _ => False) h hx := Fa.trans FD fun i hi e => by omega
    have hxn := hf.n
    haveI : HGet hx p4 _ := ⟨q4⟩
    haveI : HGet hx ha.n _ := ⟨gdf⟩
    haveI : BLt p4 hx := ⟨by omega⟩
    haveI : BNe p4 (ha.n + 1) := ⟨by omega⟩
    haveI : BNe ha.n (ha.n + 1) := ⟨by omega⟩
    haveI : BNe ha.n p4 := ⟨by omega⟩
    haveI : BNe p4 ha.n := ⟨by omega⟩
    obtain ⟨a3, c3, rfl, _, _⟩ := id ho.rd
    refine stp ?_
    refine B.retC ?_
    have fS : ∀ {A B C D : AObj}, Fr (fun i => i = ha.n + 1 ∨ i = p4 ∨ i = ha.n) hx ((((hx.set (ha.n + 1) A).set (ha.n + 1) B).set p4 C).set ha.n D) := fun {A B C D} => (((Fr.refl.set fun _ => .inl rfl).set fun _ => .inl rfl).set fun _ => .inr (.inl rfl)).set fun _ => .inr (.inr rfl)
    exact ⟨ho.keep fS fun b hb e => by have := hnew b hb; omega, fun i hi => by have := hnew i hi; omega, hfx.trans fS fun i hi e => by omega⟩
end Go.Proofs.YtlckmpioipiihaaGreat.A

namespace Go.Proofs.YtlckmpioipiihaaGreat.A
open Go.Proofs.YtlckmpioipiihaaGreat.K
open Go Go.Vm
set_option maxRecDepth 10000
set_option linter.unusedVariables false
structure Alike (h : Heap) (c : Cr) (e : Dc) : Prop where
  S : e.S = SS c
  hash : e.hash = c.hash
  dif : Dif (SS c) e.who
  rd : BkRd h e.b e.sv e.sl
  none : (4 : Int) ∉ SS c → e.b = zBk
  some : ∀ k, k < 16 → (SS c).getD k 0 = 4 → e.b = (c.ws.getD k zWit).b
  lv : e.b.c.votes.length ≤ 70
  ll : e.b.vals.length ≤ 70
theorem stateL_eq (c : Cr) (who : Int) : stateS c who = stateL (SS c) who := by
  unfold stateS stateL stW
  rw [SS_get]
theorem resL_eq {c : Cr} {d : Int} (hd : Dif (SS c) d) : resS c = resL (SS c) d := by
  have h4 : (anyS c 4 = true) ↔ 0 ≤ d := by
    rw [anyS_iff]
    have := hd.neg
    constructor
    · intro h
      exact Classical.byContradiction fun e => this.1 (by omega) h
    · intro h
      exact Classical.byContradiction fun e => by have := this.2 e; omega
  have h1 := anyS_iff (c := c) (s := 1)
  have h2 := anyS_iff (c := c) (s := 2)
  unfold resS resL
  by_cases e : 0 ≤ d
  · rw [if_pos e]
    have := h4.2 e
    simp [this]
  · rw [if_neg e]
    have e4 : anyS c 4 = false := by
      cases h : anyS c 4 with
      | false => rfl
      | true => exact absurd (h4.1 h) e
    by_cases e1 : (1 : Int) ∈ SS c
    · rw [if_pos e1, if_pos ⟨e4, h1.2 e1⟩]
    · rw [if_neg e1, if_neg (fun h => e1 (h1.1 h.2)), if_neg (by rw [e4]; simp)]
      by_cases e2 : (2 : Int) ∈ SS c
      · rw [if_pos e2, if_pos (h2.2 e2)]
      · rw [if_neg e2, if_neg (fun h => e2 (h2.1 h))]
theorem sameB_self (x : Bk) : sameB x x = true := by
  unfold sameB
  rw [same_self]
  simp
theorem EvS_alike {h0 h : Heap} {c : Cr} {e : Dc} {r : Value} (hl : c.ws.length = 16) (hok : ∀ k, k < 16 → (c.ws.getD k zWit).ok) (ha : Alike h0 c e) (he : EvS h0 h c r) :
    ∃ sw sm, r = .tuple ⟨[.int .i64 e.who, .agg ⟨e.b.cells sw sm⟩, .bool (decide (0 ≤ e.who))]⟩ ∧ Own h 2 sw (tcells e.b.c.votes) e.b.c.votes.length ∧ Own h 5 sm (vcells e.b.vals) e.b.vals.length ∧ (∀ i, ownedBy sw i → h0.n ≤ i) ∧ (∀ i, ownedBy sm i → h0.n ≤ i) ∧ ∀ i, ownedBy sw i → ¬ ownedBy sm i := by
  have h4 : ∀ k, (c.ws.getD k zWit).st = (SS c).getD k 0 := SS_get c
  rcases he with ⟨rfl, hn⟩ | ⟨n, sw, sm, h16, e1, e2, rfl, o1, o2, m1, m2, mA⟩
  · have hm : (4 : Int) ∉ SS c := fun hm => by
      unfold SS at hm
      obtain ⟨w, hw, e⟩ := List.mem_map.1 hm
      exact hn w hw e
    have hb := ha.none hm
    have hneg := ha.dif.neg.2 hm
    have hw : e.who = -1 := by
      rcases ha.dif with ⟨e, _⟩ | ⟨k, _, e, _⟩
      · exact e
      · omega
    refine ⟨.slice none 0 0, .slice none 0 0, ?_, ?_, ?_, fun i hi => hi.elim, fun i hi => hi.elim, fun i hi => hi.elim⟩
    · rw [hw, hb]; rfl
    · rw [hb]; exact .none
    · rw [hb]; exact .none
  · rw [h4] at e1
    have hb := ha.some n h16 e1
    have hw : e.who = n := by
      rcases ha.dif with ⟨_, hn⟩ | ⟨k, hk, e, f1, f2⟩
      · exact absurd (mem_getD.2 ⟨n, by unfold SS; rw [List.length_map]; omega, e1⟩) hn
      · rw [e, f2 n e1]
    refine ⟨sw, sm, ?_, ?_, ?_, m1, m2, mA⟩
    · rw [hw, hb, decide_eq_true (by omega)]
    · rw [hb]; exact o1
    · rw [hb]; exact o2
set_option maxHeartbeats 16000000 in
theorem stands_ok {h : Heap} {p q : Nat} {c : Cr} {e : Dc} (hc : CrAt h p c) (hd : DAt h q e) (ha : Alike h c e) :
    Runs Tryz.prog T0 (.fn fn_zfcQ) [.pointer (some ⟨p, 0, none⟩), .pointer (some ⟨q, 0, none⟩)] h (fun r h' => r = .bool true ∧ Fr (fun i => h.n ≤ i) h h') (fun _ _ => False) := by
  have hlq := hd.lt
  refine zfcQ_runs ?_
  refine stp ?_
  refine loop1 zfcQ_l0_M 5 (fun m v5 h' => ∃ k : Nat, k ≤ 7 ∧ m = 7 - k ∧ v5 = .int .i64 ((k : Int) - 1) ∧ Fr (fun i => h.n ≤ i) h h') ?_ 7 ⟨0, by omega, rfl, rfl, Fr.refl⟩
  rintro m v5 h' x4 x6 x12 x13 x14 x15 x16 x17 x18 x19 x20 x21 x22 x23 x24 x25 x26 ⟨k, hk, rfl, rfl, hf⟩
  refine stp ?_
  refine C.if (fun hlt => ?_) (fun hge => ?_)
  · have c1 := hc.keep hf fun i hi => by omega
    have d1 := hd.keep hf (by omega)
    refine stp ?_
    refine O.call' (All_ok c1) (fun r h1 hr => ?_)
    obtain ⟨o1, m1, f1⟩ := hr
    refine stp ?_
    refine O.call' (DAll_ok (d1.keep f1 id)) (fun r2 h2 hr => ?_)
    obtain ⟨o2, m2, f2⟩ := hr
    rw [ha.S] at o2
    have hal := allAcc_len (SS c) ((k : Int) - 1) 16
    have n1 := f1.n
    refine stp ?_
    have o12 := o1.keep f2 fun _ _ => id
    refine O.call' (SameInts_same o12.rd o2.rd (by omega)) (fun r3 h3 hr => ?_)
    obtain ⟨rfl, rfl⟩ := hr
    refine stp ?_
    refine O.call' (OverInts_ok o12 (by omega)) (fun r4 h4 hr => ?_)
    have f4 := hr
    refine stp ?_
    exact loop1a 5 (7 - (k + 1)) (by omega) ⟨k + 1, by omega, rfl, by rw [show ((k : Int) - 1 + 1) = (((k + 1 : Nat) : Int) - 1) by omega], hf.trans' (((f1.trans' f2).mono fun _ _ e => e.elim).trans' (f4.mono fun i _ e => by have := m1 i e; have := hf.n; omega))⟩
  generalize hg : h' = g at *
  clear hg
  have c1 := hc.keep hf fun i hi => by omega
  have d1 := hd.keep hf (by omega)
  have r1 := ha.rd.keep hf fun i hi => by omega
  refine stp ?_
  refine loop1 zfcQ_l1_M 7 (fun m v7 h' => ∃ k : Nat, k ≤ 19 ∧ m = 19 - k ∧ v7 = .int .i64 ((k : Int) - 1) ∧ h' = g) ?_ 19 ⟨0, by omega, rfl, rfl, rfl⟩
  rintro m v7 h' x4 x27 x28 x29 x30 x31 x32 x33 x34 x35 x36 x37 ⟨k2, hk2, rfl, rfl, rfl⟩
  refine stp ?_
  refine C.if (fun hlt => ?_) (fun hge2 => ?_)
  · refine stp ?_
    refine O.call' (State_ok c1) (fun r h1 hr => ?_)
    obtain ⟨rfl, rfl⟩ := hr
    refine stp ?_
    refine O.call' (DState_ok d1) (fun r h1 hr => ?_)
    obtain ⟨rfl, rfl⟩ := hr
    rw [ha.S, stateL_eq]
    refine stp ?_
    simp only [decide_true, Bool.not_true]
    refine stp ?_
    exact loop1a 7 (19 - (k2 + 1)) (by omega) ⟨k2 + 1, by omega, rfl, by rw [show ((k2 : Int) - 1 + 1) = (((k2 + 1 : Nat) : Int) - 1) by omega], rfl⟩
  refine stp ?_
  refine O.call' (Evidence_ok c1) (fun r h1 hr => ?_)
  obtain ⟨hev, f1⟩ := hr
  have hev' : EvS h h1 c r := hev.imp id fun ⟨n, sw, sm, a1, a2, a3, a4, a5, a6, a7, a8⟩ => ⟨n, sw, sm, a1, a2, a3, a4, a5, a6, fun i hi => by have := a7 i hi; have := hf.n; omega, fun i hi => by have := a8.1 i hi; have := hf.n; omega, a8.2⟩
  obtain ⟨sw, sm, rfl, o1, o2, m1, m2, mA⟩ := EvS_alike hc.ok.len (fun k hk => Cr.get hc.ok hk) ha hev'
  haveI := l32 ha.rd.hd.prev
  haveI := l32 ha.rd.hd.vals
  haveI := l32 ha.rd.hd.next
  haveI := l32 ha.rd.hd.app
  haveI := l32 ha.rd.hash
  obtain ⟨a3, c3, rfl, _, _⟩ := id o1.rd
  obtain ⟨a4, c4, rfl, _, _⟩ := id o2.rd
  have d2 := (d1.keep f1 id).keep (S := fun _ => False) (Fr.refl.push (o := .cells (e.b.cells (.slice a3 e.b.c.votes.length c3) (.slice a4 e.b.vals.length c4)) 0)) id
  have f2 : Fr (fun _ => False) h1 (h1.push (.cells (e.b.cells (.slice a3 e.b.c.votes.length c3) (.slice a4 e.b.vals.length c4)) 0)) := Fr.refl.push
  have gB : HGet (h1.push (.cells (e.b.cells (.slice a3 e.b.c.votes.length c3) (.slice a4 e.b.vals.length c4)) 0)) h1.n (.cells (e.b.cells (.slice a3 e.b.c.votes.length c3) (.slice a4 e.b.vals.length c4)) 0) := HGet.new
  have n2 : (h1.push (.cells (e.b.cells (.slice a3 e.b.c.votes.length c3) (.slice a4 e.b.vals.length c4)) 0)).n = h1.n + 1 := rfl
  have n1 := f1.n
  haveI := Dc.wh d2
  haveI := Dc.blk d2
  refine stp ?_
  simp only [decide_true]
  generalize h1.push (.cells (e.b.cells (.slice a3 e.b.c.votes.length c3) (.slice a4 e.b.vals.length c4)) 0) = h2 at *
  have o1' := o1.keep f2 fun _ _ => id
  have o2' := o2.keep f2 fun _ _ => id
  have F12 := f1.trans' f2
  haveI := gB
  haveI := Dc.wh d2
  haveI := Dc.blk d2
  have lv := ha.lv
  have ll := ha.ll
  refine stp ?_
  refine D.callT (SameBlock_ok ⟨ha.rd.hd, ha.rd.hash, o1'.rd, o2'.rd⟩ (r1.keep F12 fun _ _ => id) (by omega) (by omega) (by omega) (by omega)) (fun r h3 hr => rfl) (fun r h3 hr => ?_)
  obtain ⟨rfl, f3⟩ := hr
  rw [sameB_self]
  have d3 := d2.keep f3 id
  have n3 := f3.n
  have gB3 := f3.keep gB (by omega) id
  haveI := Dc.wh d3
  refine stp ?_
  simp only [beq_self_eq_true]
  refine stp ?_
  refine D.callT (Result_ok ((c1.keep F12 fun _ _ => id).keep f3 fun _ _ => id)) (fun r h4 hr => ?_) (fun r h4 hr => ?_)
  · exact StabL.ok
  obtain ⟨rfl, f4⟩ := hr
  refine stp ?_
  refine D.callT (DResult_ok (d3.keep f4 id)) (fun r h5 hr => rfl) (fun r h5 hr => ?_)
  obtain ⟨rfl, f5⟩ := hr
  rw [ha.S, resL_eq ha.dif]
  have F35 := (f3.trans' f4).trans' f5
  haveI := F35.keep gB (by omega) id
  have n5 := F35.n
  haveI : BLt h1.n h5 := ⟨by omega⟩
  refine stp ?_
  simp only [decide_true]
  refine stp ?_
  refine O.call' (OverBlockL_ok (lo := h.n) ha.rd.hd ha.rd.hash lv ll ⟨o1'.keep F35 fun _ _ => id, o2'.keep F35 fun _ _ => id, m1, m2, mA⟩) (fun r h6 hr => ?_)
  have f6 := hr
  refine stp ?_
  exact ⟨rfl, (hf.trans' (((F12.trans' F35)).mono fun _ _ e => e.elim)).trans' f6⟩
end Go.Proofs.YtlckmpioipiihaaGreat.A

namespace Go.Proofs.YtlckmpioipiihaaGreat.A
open Go.Proofs.YtlckmpioipiihaaGreat.K
open Go Go.Vm
set_option maxRecDepth 10000
set_option linter.unusedVariables false
theorem Dif.any {c : Cr} {d : Int} (hd : Dif (SS c) d) : (anyS c 4 = true) ↔ 0 ≤ d := by
  rw [anyS_iff]
  have := hd.neg
  constructor
  · intro h
    exact Classical.byContradiction fun e => this.1 (by omega) h
  · intro h
    exact Classical.byContradiction fun e => by have := this.2 e; omega
theorem may_eq {c : Cr} {d who : Int} (hd : Dif (SS c) d) : mayS c who = mayL (SS c) d who := by
  have h4 := hd.any
  unfold mayS mayL
  by_cases e : 0 ≤ d
  · rw [if_pos (h4.2 e), if_pos e]
  · rw [if_neg (fun h => e (h4.1 h)), if_neg e, ← stateL_eq]
    unfold stateS
    by_cases e1 : who < 0 ∨ 16 ≤ who
    · rw [if_pos e1, if_pos e1, if_pos rfl]
    · rw [if_neg e1, if_neg e1]
theorem Alike.keep {S : Nat → Prop} {h h' : Heap} {c : Cr} {e : Dc} (ha : Alike h c e) (hf : Fr S h h') (hs : ∀ i, i < h.n → (blockOf e.sv i ∨ blockOf e.sl i) → ¬ S i) : Alike h' c e :=
  ⟨ha.S, ha.hash, ha.dif, ⟨ha.rd.hd, ha.rd.hash, ha.rd.sv.keep hf fun i hi => hs i (Rd.block_lt ha.rd.sv hi) (.inl hi), ha.rd.sl.keep hf fun i hi => hs i (Rd.block_lt ha.rd.sl hi) (.inr hi)⟩, ha.none, ha.some, ha.lv, ha.ll⟩
theorem Alike.stand {h : Heap} {c : Cr} {e : Dc} {k : Nat} {s : Int} (ha : Alike h c e) (hl : c.ws.length = 16) (hk : k < 16) (hs : s ≠ 4) (h4 : (4 : Int) ∉ SS c) : Alike h (c.stand k s) (e.stand k s) := by
  have hsl : (SS c).length = 16 := by unfold SS; rw [List.length_map]; exact hl
  have hn := Dif.set hsl hk hs h4
  have hd1 : e.who = -1 := by
    have := ha.dif.neg.2 h4
    rcases ha.dif with ⟨e, _⟩ | ⟨k', _, e, _⟩
    · exact e
    · omega
  refine ⟨by rw [SS_stand]; show e.S.set k s = _; rw [ha.S], ha.hash, ?_, ha.rd, fun _ => ha.none h4, fun j hj e => ?_, ha.lv, ha.ll⟩
  · rw [SS_stand]
    exact .inl ⟨hd1, hn⟩
  · rw [SS_stand] at e
    exact absurd (mem_getD.2 ⟨j, by rw [List.length_set]; omega, e⟩) hn
theorem Alike.four {h : Heap} {c : Cr} {e : Dc} {who : Int} {x : Bk} {sw sm tw tm : Value} (ha : Alike h c e) (hl : c.ws.length = 16) (h0 : 0 ≤ who) (h16 : who < 16) (h4 : (4 : Int) ∉ SS c) (hr : BkRd h x tw tm) (h1 : x.c.votes.length ≤ 70) (h2 : x.vals.length ≤ 70) :
    Alike h (c.put who.toNat ⟨4, x, sw, sm⟩) { e with S := e.S.set who.toNat 4, who := who, b := x, sv := tw, sl := tm } := by
  have hsl : (SS c).length = 16 := by unfold SS; rw [List.length_map]; exact hl
  have hf := Dif.four hsl (show who.toNat < 16 by omega) h4
  refine ⟨by rw [SS_put]; show e.S.set _ _ = _; rw [ha.S], ha.hash, ?_, hr, fun hn => ?_, fun j hj e => ?_, h1, h2⟩
  · rw [SS_put]
    show Dif _ who
    rwa [show ((who.toNat : Nat) : Int) = who by omega] at hf
  · exfalso
    rw [SS_put] at hn
    exact hn (mem_getD.2 ⟨who.toNat, by rw [List.length_set]; omega, by rw [getD_set (by omega), if_pos rfl]⟩)
  · rw [SS_put, getD_set (by omega)] at e
    by_cases ej : j = who.toNat
    · subst ej
      show x = _
      simp only [List.getD_eq_getElem?_getD, List.getElem?_set]
      simp [show who.toNat < c.ws.length by omega]
    · rw [if_neg ej] at e
      exact absurd (mem_getD.2 ⟨j, by omega, e⟩) h4
theorem Alike.new {h : Heap} {l : List UInt8} {W : List Int} : Alike h ⟨l, askAll W⟩ (dc0 l (askL W)) := by
  have h4 : (4 : Int) ∉ SS ⟨l, askAll W⟩ := by
    show (4 : Int) ∉ (askAll W).map Wit.st
    rw [askAll_map]
    have : ∀ (l : List Int) (S : List Int), (4 : Int) ∉ S → (4 : Int) ∉ l.foldl (fun S w => S.set w.toNat 1) S := by
      intro l
      induction l with
      | nil => intro S h; exact h
      | cons w l ih =>
        intro S h
        rw [List.foldl_cons]
        refine ih _ fun hm => ?_
        rcases List.mem_or_eq_of_mem_set hm with h1 | h1
        · exact h h1
        · cases h1
    exact this W _ (by intro h; have := List.eq_of_mem_replicate h; cases this)
  refine ⟨(askAll_map W).symm, rfl, .inl ⟨rfl, h4⟩, ⟨zeroHd_ok, rfl, Rd.nil, Rd.nil⟩, fun _ => rfl, fun k hk e => ?_, by simp, by simp⟩
  exact absurd (mem_getD.2 ⟨k, by
    have hl : (SS ⟨l, askAll W⟩).length = 16 := by
      show ((askAll W).map Wit.st).length = 16
      rw [askAll_map]
      have : ∀ (l : List Int) (S : List Int), (l.foldl (fun S w => S.set w.toNat 1) S).length = S.length := by
        intro l
        induction l with
        | nil => intro S; rfl
        | cons w l ih => intro S; rw [List.foldl_cons, ih, List.length_set]
      rw [this]; simp
    omega, e⟩) h4
end Go.Proofs.YtlckmpioipiihaaGreat.A

namespace Go.Proofs.YtlckmpioipiihaaGreat.A
open Go.Proofs.YtlckmpioipiihaaGreat.K
open Go Go.Vm
set_option maxRecDepth 10000
set_option linter.unusedVariables false
theorem OverBlockO_ok {h : Heap} {lo : Nat} {x : Bk} {sv sl : Value} (hx : x.h.ok) (hh : x.c.hash.length = 32) (hvo : x.c.votes.length ≤ 70) (hva : x.vals.length ≤ 70) (hb : BkOwn h lo x sv sl) :
    Runs Tryz.prog T0 (.fn fn_ztbQ) [.agg ⟨x.cells sv sl⟩] h (fun r h' => Fr (fun i => ownedBy sv i ∨ ownedBy sl i) h h') (fun _ _ => False) := by
  haveI := l32 hx.prev
  haveI := l32 hx.vals
  haveI := l32 hx.next
  haveI := l32 hx.app
  haveI := l32 hh
  have hlv := fun {i : Nat} (hi : ownedBy sv i) => hb.votes.lt hi
  have hll := fun {i : Nat} (hi : ownedBy sl i) => hb.vals.lt hi
  refine ztbQ_runs ?_
  refine stp ?_
  refine O.call' (OverVals_ok (hb.vals.keep (S := fun _ => False) Fr.refl.push fun _ _ => id) (by omega)) (fun r h1 hr => ?_)
  have hf1 := hr
  have hn1 := hf1.n
  simp only [Heap.n_push] at hn1
  haveI hA := hf1.keep (b := h.n) (HGet.new (h := h) (o := .cells (x.cells sv sl) 0)) (by simp) (fun hi => by have := hll hi; omega)
  refine stp ?_
  refine O.call' (OverCommit_ok hh ((hb.votes.keep (S := fun _ => False) Fr.refl.push fun _ _ => id).keep hf1 hb.apart) (by omega)) (fun r h2 hr => ?_)
  have hf2 := hr
  refine stp ?_
  exact Fr.trans (S := fun i => ownedBy sv i ∨ ownedBy sl i) (Fr.trans (S := fun i => ownedBy sv i ∨ ownedBy sl i) Fr.refl.push hf1 fun i _ hi => .inr hi) hf2 fun i _ hi => .inl hi
def Above (N : Nat) (c : Cr) : Prop := ∀ w ∈ c.ws, ∀ i, blockOf w.sv i ∨ blockOf w.sl i → N ≤ i
theorem Above.ask {N : Nat} {l : List UInt8} (W : List Int) : Above N ⟨l, askAll W⟩ := by
  have : ∀ (l : List Int) (ws : List Wit), (∀ w ∈ ws, ∀ i, ¬ (blockOf w.sv i ∨ blockOf w.sl i)) → ∀ w ∈ l.foldl askW ws, ∀ i, ¬ (blockOf w.sv i ∨ blockOf w.sl i) := by
    intro l
    induction l with
    | nil => intro ws h; exact h
    | cons w l ih =>
      intro ws h
      rw [List.foldl_cons]
      refine ih _ fun v hv => ?_
      rcases List.mem_or_eq_of_mem_set hv with h1 | h1
      · exact h v h1
      · rw [h1]
        by_cases hl : w.toNat < ws.length
        · exact fun i e => h _ (wit_mem hl) i e
        · rw [List.getD_eq_getElem?_getD, List.getElem?_eq_none (by omega)]
          exact fun i e => by rcases e with e | e <;> exact e
  intro w hw i hi
  exact absurd hi (this W _ (fun w hw i e => by rw [List.eq_of_mem_replicate hw] at e; rcases e with e | e <;> exact e) w hw i)
theorem CrAt.keepS {S : Nat → Prop} {h h' : Heap} {p : Nat} {c : Cr} (hc : CrAt h p c) (hf : Fr S h h') (hp : ¬ S p) (hw : ∀ w ∈ c.ws, ∀ i, blockOf w.sv i ∨ blockOf w.sl i → ¬ S i) : CrAt h' p c :=
  ⟨hc.ok, hf.lt hc.lt, by rw [hf.get _ hc.lt hp]; exact hc.get, fun w hw' => by
    have h1 := hc.ws w hw'
    exact ⟨h1.sv.keep hf fun i hi => hw w hw' i (.inl hi), h1.sl.keep hf fun i hi => hw w hw' i (.inr hi), h1.nv, h1.nl, h1.lv, h1.ll⟩⟩
theorem CrAt.blk {h : Heap} {p i : Nat} {c : Cr} (hc : CrAt h p c) {w : Wit} (hw : w ∈ c.ws) (hi : blockOf w.sv i ∨ blockOf w.sl i) : i < h.n := by
  have h1 := hc.ws w hw
  rcases hi with hi | hi
  · exact Rd.block_lt h1.sv hi
  · exact Rd.block_lt h1.sl hi
theorem Cr.put_all {Q : Nat → Prop} {c : Cr} {k : Nat} {w : Wit} (ha : ∀ w ∈ c.ws, ∀ i, blockOf w.sv i ∨ blockOf w.sl i → Q i) (hw : ∀ i, blockOf w.sv i ∨ blockOf w.sl i → Q i) : ∀ v ∈ (c.put k w).ws, ∀ i, blockOf v.sv i ∨ blockOf v.sl i → Q i := fun v hv => by
  rcases List.mem_or_eq_of_mem_set hv with h1 | h1
  · exact ha v h1
  · subst h1; exact hw
theorem Cr.stand_all {Q : Nat → Prop} {c : Cr} {k : Nat} {s : Int} (hk : k < c.ws.length) (ha : ∀ w ∈ c.ws, ∀ i, blockOf w.sv i ∨ blockOf w.sl i → Q i) : ∀ w ∈ (c.stand k s).ws, ∀ i, blockOf w.sv i ∨ blockOf w.sl i → Q i :=
  Cr.put_all (w := { c.ws.getD k zWit with st := s }) ha fun i hi => ha _ (wit_mem hk) i hi
structure Acted (u : Heap) (n m : Nat) (c c' : Cr) (e e' : Dc) : Prop where
  al : Alike u c' e'
  hash : c'.hash = c.hash
  pb : ∀ Q : Nat → Prop, (∀ w ∈ c.ws, ∀ i, blockOf w.sv i ∨ blockOf w.sl i → Q i) → (∀ i, n ≤ i → Q i) → ∀ w ∈ c'.ws, ∀ i, blockOf w.sv i ∨ blockOf w.sl i → Q i
  db : ∀ Q : Nat → Prop, (∀ i, blockOf e.sv i ∨ blockOf e.sl i → Q i) → (∀ i, m ≤ i → Q i) → ∀ i, blockOf e'.sv i ∨ blockOf e'.sl i → Q i
theorem Acted.none {u : Heap} {n m : Nat} {c : Cr} {e : Dc} (ha : Alike u c e) : Acted u n m c c e e := ⟨ha, rfl, fun _ h _ => h, fun _ h _ => h⟩
theorem Acted.stand {u : Heap} {n m k : Nat} {s : Int} {c : Cr} {e : Dc} (ha : Alike u c e) (hl : c.ws.length = 16) (hk : k < 16) (hs : s ≠ 4) (h4 : (4 : Int) ∉ SS c) : Acted u n m c (c.stand k s) e (e.stand k s) :=
  ⟨ha.stand hl hk hs h4, rfl, fun _ h _ => Cr.stand_all (by omega) h, fun _ h _ => h⟩
theorem mayS_four {c : Cr} {who : Int} (h : mayS c who = 0) : (4 : Int) ∉ SS c := fun hm => by
  have h1 := (mayS_zero h).1
  rw [anyS_iff.2 hm] at h1
  cases h1
theorem say_eq {u : Heap} {c : Cr} {e : Dc} {who : Int} {x : Bk} (ha : Alike u c e) : sayD e who x = sayE c who x := by
  unfold sayD sayE
  rw [ha.S, ← may_eq ha.dif]
theorem said_acted {u : Heap} {n m : Nat} {c c' : Cr} {e e' : Dc} {who : Int} {x : Bk} (hl : c.ws.length = 16) (ha : Alike u c e) (hx : x.h.ok) (hh : x.c.hash.length = 32) (h1 : x.c.votes.length ≤ 70) (h2 : x.vals.length ≤ 70)
    (hs : Said n c who x c') (hd : SaidD m u e who x e') : Acted u n m c c' e e' := by
  unfold Said at hs
  unfold SaidD at hd
  rw [say_eq ha] at hd
  by_cases e1 : sayE c who x ≠ 0
  · rw [if_pos e1] at hs hd
    subst hs
    subst hd
    exact .none ha
  · rw [if_neg e1] at hs hd
    have e0 : mayS c who = 0 := by
      unfold sayE at e1
      by_cases e : mayS c who = 0
      · exact e
      · rw [if_pos e] at e1
        exact absurd e e1
    have h4 := mayS_four e0
    obtain ⟨_, w1, w2, _⟩ := mayS_zero e0
    by_cases e2 : hashH x.h = c.hash
    · rw [if_pos e2] at hs
      rw [if_pos (by rw [ha.hash]; exact e2)] at hd
      subst hs
      subst hd
      exact .stand ha hl (by omega) (by omega) h4
    · rw [if_neg e2] at hs
      rw [if_neg (by rw [ha.hash]; exact e2)] at hd
      obtain ⟨sw, sm, rfl, hq⟩ := hs
      obtain ⟨tw, tm, rfl, o1, o2, m1, m2⟩ := hd
      have b1 : ∀ i, blockOf tw i → ownedBy tw i := by
        obtain ⟨a, c, rfl, _, _⟩ := id o1.rd
        exact fun i => block_owned
      have b2 : ∀ i, blockOf tm i → ownedBy tm i := by
        obtain ⟨a, c, rfl, _, _⟩ := id o2.rd
        exact fun i => block_owned
      exact ⟨ha.four hl w1 w2 h4 ⟨hx, hh, o1.rd, o2.rd⟩ h1 h2, rfl, fun Q q1 q2 => Cr.put_all (w := ⟨4, x, sw, sm⟩) q1 fun i hi => q2 i (hq i hi), fun Q q1 q2 i hi => q2 i (hi.elim (fun h => m1 i (b1 i h)) fun h => m2 i (b2 i h))⟩
theorem left_acted {u : Heap} {n m : Nat} {c : Cr} {e : Dc} {who : Int} (hl : c.ws.length = 16) (ha : Alike u c e) : Acted u n m c (leaveC c who) e (leaveD e who) := by
  unfold leaveC leaveD
  rw [show mayL e.S e.who who = mayS c who by rw [ha.S, ← may_eq ha.dif]]
  by_cases e0 : mayS c who = 0
  · rw [if_pos e0, if_pos e0]
    obtain ⟨_, w1, w2, _⟩ := mayS_zero e0
    exact .stand ha hl (by omega) (by omega) (mayS_four e0)
  · rw [if_neg e0, if_neg e0]
    exact .none ha
end Go.Proofs.YtlckmpioipiihaaGreat.A

namespace Go.Proofs.YtlckmpioipiihaaGreat.A
open Go.Proofs.YtlckmpioipiihaaGreat.K
open Go Go.Vm
set_option maxRecDepth 10000
set_option linter.unusedVariables false
def actOK (a : AC) : Prop := a.b.vals.length ≤ 70 ∧ a.b.c.votes.length ≤ 70 ∧ a.b.h.chain.length ≤ 60
theorem act_take {l : List AC} {k : Nat} (hk : k < l.length) : (∀ a ∈ l.take (k + 1), actOK a) ↔ (∀ a ∈ l.take k, actOK a) ∧ actOK (l.getD k zAC) := by
  have g : l.getD k zAC = l[k] := by simp [List.getD_eq_getElem?_getD, hk]
  rw [List.take_succ_eq_append_getElem hk, g]
  constructor
  · exact fun h => ⟨fun v hv => h v (List.mem_append.2 (.inl hv)), h _ (List.mem_append.2 (.inr (List.mem_singleton.2 rfl)))⟩
  · rintro ⟨h1, h2⟩ v hv
    rw [List.mem_append, List.mem_singleton] at hv
    rcases hv with hv | rfl
    · exact h1 v hv
    · exact h2
set_option maxHeartbeats 4000000 in
theorem long_ok {h : Heap} {v : Value} {l : List AC} (hv : Rd h 168 v (acells l) l.length) (hl : ∀ a ∈ l, BkRd h a.b a.sv a.sl) :
    Runs Tryz.prog T0 (.fn fn_zecQ) [v] h (fun r h' => (∃ b : Bool, r = .bool b ∧ (b = false → l.length ≤ 30 ∧ ∀ a ∈ l, actOK a)) ∧ Fr (fun _ => False) h h') (fun _ _ => False) := by
  obtain ⟨a, cap, rfl, hlen, hc⟩ := hv
  refine zecQ_runs ?_
  refine stp ?_
  refine loop1 zecQ_l0_M 3 (fun q v3 h' => ∃ k : Nat, k ≤ l.length ∧ k ≤ 31 ∧ q = 31 - k ∧ v3 = .int .i64 k ∧ (∀ a ∈ l.take k, actOK a) ∧ Fr (fun _ => False) h h') ?_ 31 ⟨0, by omega, by omega, rfl, rfl, by simp, Fr.refl⟩
  rintro m v3 h' x2 x4 x5 x6 x7 x8 x9 x10 x11 x12 x13 x14 x15 x16 x17 x18 x19 ⟨k, hk, hk2, rfl, rfl, hall, hf⟩
  refine stp ?_
  refine O.dec (fun e1 => ?_) (fun e1 => ?_)
  · have hlt : k < l.length := by omega
    refine stp ?_
    refine C.if (fun e2 => ?_) (fun e2 => ?_)
    · obtain ⟨b, o, sp, rfl, hb, hcc⟩ := hc (by omega)
      have hcc' : cellsAt h' b o (l.length * 168) = some (acells l) := by rw [cellsAt_keep hf hb id]; exact hcc
      haveI := act_block hl hcc' rfl hlt
      have hm := hl _ (act_mem hlt)
      have hat := act_take hlt
      generalize l.getD k zAC = A at *
      refine stp ?_
      refine O.call' (LongBlock_ok (hm.keep hf fun _ _ => id)) (fun r h1 hr => ?_)
      obtain ⟨⟨b', rfl, hlong⟩, hf1⟩ := hr
      have F1 := hf.trans' hf1
      cases b' with
      | true =>
        refine stp ?_
        exact ⟨⟨true, rfl, fun e => by cases e⟩, F1⟩
      | false =>
        refine stp ?_
        exact loop1a 3 (31 - (k + 1)) (by omega) ⟨k + 1, by omega, by omega, rfl, rfl, hat.2 ⟨hall, hlong rfl⟩, F1⟩
    · refine stp ?_
      exact ⟨⟨_, rfl, fun e => by have := of_decide_eq_false e; omega⟩, hf⟩
  · refine stp ?_
    have hkl : k = l.length := by omega
    exact ⟨⟨_, rfl, fun e => ⟨by have := of_decide_eq_false e; omega, fun a ha => hall a (by rw [List.take_of_length_le (by omega)]; exact ha)⟩⟩, hf⟩
end Go.Proofs.YtlckmpioipiihaaGreat.A

namespace Go.Proofs.YtlckmpioipiihaaGreat.A
open Go.Proofs.YtlckmpioipiihaaGreat.K
open Go Go.Vm
set_option maxRecDepth 10000
set_option linter.unusedVariables false
set_option linter.unusedSimpArgs false
set_option maxHeartbeats 16000000 in
theorem CrossActs_true {h : Heap} {x : Bk} {sv sl v w : Value} {W : List Int} {l : List AC} (hb : BkRd h x sv sl) (hi : Rd h 1 v (ncells W) W.length) (hv : Rd h 168 w (acells l) l.length) (hl : ∀ a ∈ l, BkRd h a.b a.sv a.sl) :
    Runs Tryz.prog T0 (.fn fn_zccQ) [.agg ⟨x.cells sv sl⟩, v, w] h (fun r h' => r = .bool true) (fun _ _ => False) := by
  have hx := hb.hd
  have hch := hb.hash
  haveI := l32 hx.prev
  haveI := l32 hx.vals
  haveI := l32 hx.next
  haveI := l32 hx.app
  haveI := l32 hch
  haveI := l32 (hashH_len x.h)
  obtain ⟨a1, c1, rfl, _, _⟩ := id hb.sv
  obtain ⟨a2, c2, rfl, _, _⟩ := id hb.sl
  obtain ⟨ai, ci, rfl, hil, _⟩ := id hi
  obtain ⟨aw, cw, rfl, hwl, hwc⟩ := id hv
  refine zccQ_runs ?_
  refine stp ?_
  generalize hX : Value.slice a1 x.c.votes.length c1 = xv at *
  generalize hX' : Value.slice a2 x.vals.length c2 = xl at *
  have gA : HGet (h.push (.cells (x.cells xv xl) 0)) h.n (.cells (x.cells xv xl) 0) := HGet.new
  have F0 : Fr (fun _ => False) h (h.push (.cells (x.cells xv xl) 0)) := Fr.refl.push
  have n0 : (h.push (.cells (x.cells xv xl) 0)).n = h.n + 1 := rfl
  generalize h.push (.cells (x.cells xv xl) 0) = h0 at *
  refine O.call' (LongBlock_ok (hb.keep F0 fun _ _ => id)) (fun r h4 hr => ?_)
  obtain ⟨⟨b, rfl, hlong⟩, f4⟩ := hr
  have F4 := F0.trans' f4
  have n4 := f4.n
  have gA4 := f4.keep gA (by omega) id
  haveI := gA4
  cases b with
  | true =>
    refine stp ?_
    refine O.call' zdcQ_known (fun r h2 hr => ?_)
    obtain ⟨rfl, rfl⟩ := hr
    refine stp ?_
    rfl
  | false =>
  obtain ⟨y1, y2, y3⟩ := hlong rfl
  refine stp ?_
  refine O.dec (fun q1 => ?_) (fun q1 => ?_)
  · refine stp ?_
    refine O.call' zdcQ_known (fun r h2 hr => ?_)
    obtain ⟨rfl, rfl⟩ := hr
    refine stp ?_
    rfl
  refine stp ?_
  refine O.callT (long_ok (hv.keep F4 fun _ _ => id) (fun a ha => (hl a ha).keep F4 fun _ _ => id)) (fun r h5 hr => ?_)
  obtain ⟨⟨b, rfl, hacts⟩, f5⟩ := hr
  have F5 := F4.trans' f5
  have n5 := f5.n
  have gA5 := f5.keep gA4 (by omega) id
  haveI := gA5
  cases b with
  | true =>
    refine stp ?_
    refine O.call' zdcQ_known (fun r h2 hr => ?_)
    obtain ⟨rfl, rfl⟩ := hr
    refine stp ?_
    rfl
  | false =>
  obtain ⟨w1, w2⟩ := hacts rfl
  refine stp ?_
  refine O.call' (CopyBlockA_ok (hb.keep F5 fun _ _ => id) (by omega) (by omega)) (fun r h6 hr => ?_)
  obtain ⟨sw, sm, rfl, o1, o2, m1, m2, mA, f6⟩ := hr
  have F6 := F5.trans' f6
  have n6 := f6.n
  have gA6 := f6.keep gA5 (by omega) id
  refine stp ?_
  refine O.call' (CopyInts_ok (hi.keep F6 fun _ _ => id) (by omega)) (fun ri h7 hr => ?_)
  obtain ⟨o3, m3, f7⟩ := hr
  have F7 := F6.trans' f7
  have n7 := f7.n
  have gA7 := f7.keep gA6 (by omega) id
  have o17 := o1.keep f7 fun _ _ => id
  have o27 := o2.keep f7 fun _ _ => id
  obtain ⟨a3, c3, rfl, _, _⟩ := id o1.rd
  obtain ⟨a4, c4, rfl, _, _⟩ := id o2.rd
  haveI := gA7
  haveI : BLt h.n h7 := ⟨by omega⟩
  refine stp ?_
  have f8 : Fr (fun _ => False) h7 (h7.push (.cells (x.cells (.slice a3 x.c.votes.length c3) (.slice a4 x.vals.length c4)) 0)) := Fr.refl.push
  have gI8 : HGet (h7.push (.cells (x.cells (.slice a3 x.c.votes.length c3) (.slice a4 x.vals.length c4)) 0)) h7.n (.cells (x.cells (.slice a3 x.c.votes.length c3) (.slice a4 x.vals.length c4)) 0) := HGet.new
  have n8 : (h7.push (.cells (x.cells (.slice a3 x.c.votes.length c3) (.slice a4 x.vals.length c4)) 0)).n = h7.n + 1 := rfl
  generalize h7.push (.cells (x.cells (.slice a3 x.c.votes.length c3) (.slice a4 x.vals.length c4)) 0) = h8 at *
  have F8 := F7.trans' f8
  have gA8 := f8.keep gA7 (by omega) id
  have o18 := o17.keep f8 fun _ _ => id
  have o28 := o27.keep f8 fun _ _ => id
  have o38 := o3.keep f8 fun _ _ => id
  refine O.call' (New_ok ⟨hx, hch, o18.rd, o28.rd⟩ o38.rd (by omega)) (fun r1 h9 hr => ?_)
  obtain ⟨f9, hr1⟩ := hr
  have n9 := f9.n
  have gA9 := f9.keep gA8 (by omega) id
  have gI9 := f9.keep gI8 (by omega) id
  haveI := gA9
  have F9 := F8.trans' f9
  have hres : (∃ E, r1 = .tuple ⟨[.pointer none, .int .i64 E]⟩ ∧ E = (if checkS x.h ≠ 0 then checkS x.h else newE (-1) W) ∧ E ≠ 0) ∨ (checkS x.h = 0 ∧ newE (-1) W = 0 ∧ ∃ p, r1 = .tuple ⟨[.pointer (some ⟨p, 0, none⟩), .int .i64 0]⟩ ∧ h8.n ≤ p ∧ CrAt h9 p ⟨hashH x.h, askAll W⟩) := by
    rcases hr1 with ⟨e1, rfl⟩ | ⟨e1, e2, rfl⟩ | h
    · exact .inl ⟨_, rfl, by rw [if_pos e1], e1⟩
    · exact .inl ⟨_, rfl, by rw [if_neg (fun e => e e1)], e2⟩
    · exact .inr h
  clear hr1
  rcases hres with ⟨E, rfl, hE, hE0⟩ | ⟨e1, e2, p, rfl, hp, hC⟩
  · refine stp ?_
    refine O.call' (DNew_ok (hb.keep F9 fun _ _ => id) (hi.keep F9 fun _ _ => id) (by omega) y3) (fun r2 h10 hr => ?_)
    obtain ⟨f10, hr2⟩ := hr
    have hres2 : r2 = .tuple ⟨[.pointer none, .int .i64 E]⟩ := by
      rcases hr2 with ⟨e1, rfl⟩ | ⟨e1, e2, rfl⟩ | ⟨e1, e2, _⟩
      · rw [if_pos e1] at hE; rw [hE]
      · rw [if_neg (fun e => e e1)] at hE; rw [hE]
      · rw [if_neg (fun e => e e1)] at hE; exact absurd (by rw [hE, e2]) hE0
    subst hres2
    have n10 := f10.n
    have f810 := f9.trans' f10
    have F10 := F8.trans' f810
    haveI := f810.keep gA8 (by omega) id
    haveI := f810.keep gI8 (by omega) id
    refine stp ?_
    simp only [decide_true, Bool.not_true]
    refine stp ?_
    simp only [beq_self_eq_true, Bool.not_true, Bool.false_eq_true, if_false]
    have o1A := o18.keep f810 fun _ _ => id
    have o2A := o28.keep f810 fun _ _ => id
    have o3A := o38.keep f810 fun _ _ => id
    refine O.callT (SameBlock_ok ⟨hx, hch, o1A.rd, o2A.rd⟩ (hb.keep F10 fun _ _ => id) (by omega) (by omega) (by omega) (by omega)) (fun r h11 hr => ?_)
    obtain ⟨rfl, f11⟩ := hr
    rw [sameB_self]
    refine stp ?_
    simp only [Bool.not_true]
    refine stp ?_
    have n11 := f11.n
    refine O.callT (SameInts_same (o3A.keep f11 fun _ _ => id).rd ((hi.keep F10 fun _ _ => id).keep f11 fun _ _ => id) (by omega)) (fun r h12 hr => ?_)
    obtain ⟨rfl, rfl⟩ := hr
    have F811 := f810.trans' f11
    haveI := F811.keep gA8 (by omega) id
    haveI := F811.keep gI8 (by omega) id
    refine stp ?_
    simp only [Bool.not_true]
    refine stp ?_
    refine O.call' (OverBlockO_ok (lo := h.n) hx hch (by omega) (by omega) ⟨o18.keep F811 fun _ _ => id, o28.keep F811 fun _ _ => id, fun i hi => by have := m1 i hi; omega, fun i hi => by have := m2 i hi; omega, mA⟩) (fun r h13 hr => ?_)
    have f13 := hr
    refine stp ?_
    refine O.call' (OverInts_ok ((o38.keep F811 fun _ _ => id).keep f13 fun i hi e => by
      have := m3 i hi
      rcases e with e | e
      · have := o1.lt e; omega
      · have := o2.lt e; omega) (by omega)) (fun r h14 hr => ?_)
    have f14 := hr
    refine stp ?_
    refine loop1 zccQ_l0_M 13 (fun m v13 h' => h' = h14) ?_ 0 rfl
    rintro m v13 h' x6 x14 x15 x16 x71 x72 x73 x74 x75 x76 x77 x78 x79 x80 x81 x82 x83 x84 x85 x86 x87 x88 x89 x90 x91 x92 x93 x94 x95 x96 x97 x98 x99 x100 x101 x102 x103 x104 x105 x106 x107 x108 x109 x110 x111 x112 x113 x114 x115 x116 x117 x118 x119 x120 x121 x122 x123 x124 x125 x126 x127 x128 x129 x130 rfl
    refine stp ?_
    refine O.callT zdcQ_known (fun r h2 hr => ?_)
    obtain ⟨rfl, rfl⟩ := hr
    refine stp ?_
    rfl
  · have lp := hC.lt
    refine stp ?_
    refine O.call' (DNew_ok (hb.keep F9 fun _ _ => id) (hi.keep F9 fun _ _ => id) (by omega) y3) (fun r2 h10 hr => ?_)
    obtain ⟨f10, hr2⟩ := hr
    have hres2 : ∃ q, r2 = .tuple ⟨[.pointer (some ⟨q, 0, none⟩), .int .i64 0]⟩ ∧ h9.n ≤ q ∧ DAt h10 q (dc0 (hashH x.h) (askL W)) := by
      rcases hr2 with ⟨e3, _⟩ | ⟨_, e3, _⟩ | ⟨_, _, h⟩
      · exact absurd e1 e3
      · exact absurd e2 e3
      · exact h
    obtain ⟨q, rfl, hq, hD⟩ := hres2
    have lq := hD.lt
    have n10 := f10.n
    have f810 := f9.trans' f10
    have F10 := F8.trans' f810
    haveI := f810.keep gA8 (by omega) id
    haveI := f810.keep gI8 (by omega) id
    refine stp ?_
    simp only [decide_true, Bool.not_true]
    refine stp ?_
    simp only [beq_self_eq_true, Bool.not_true, Bool.false_eq_true, if_false]
    have o1A := o18.keep f810 fun _ _ => id
    have o2A := o28.keep f810 fun _ _ => id
    have o3A := o38.keep f810 fun _ _ => id
    refine O.callT (SameBlock_ok ⟨hx, hch, o1A.rd, o2A.rd⟩ (hb.keep F10 fun _ _ => id) (by omega) (by omega) (by omega) (by omega)) (fun r h11 hr => ?_)
    obtain ⟨rfl, f11⟩ := hr
    rw [sameB_self]
    refine stp ?_
    simp only [Bool.not_true]
    refine stp ?_
    have n11 := f11.n
    refine O.callT (SameInts_same (o3A.keep f11 fun _ _ => id).rd ((hi.keep F10 fun _ _ => id).keep f11 fun _ _ => id) (by omega)) (fun r h12 hr => ?_)
    obtain ⟨rfl, rfl⟩ := hr
    have F811 := f810.trans' f11
    haveI := F811.keep gA8 (by omega) id
    haveI := F811.keep gI8 (by omega) id
    refine stp ?_
    simp only [Bool.not_true]
    refine stp ?_
    refine O.call' (OverBlockO_ok (lo := h.n) hx hch (by omega) (by omega) ⟨o18.keep F811 fun _ _ => id, o28.keep F811 fun _ _ => id, fun i hi => by have := m1 i hi; omega, fun i hi => by have := m2 i hi; omega, mA⟩) (fun r h13 hr => ?_)
    have f13 := hr
    refine stp ?_
    refine O.call' (OverInts_ok ((o38.keep F811 fun _ _ => id).keep f13 fun i hi e => by
      have := m3 i hi
      rcases e with e | e
      · have := o1.lt e; omega
      · have := o2.lt e; omega) (by omega)) (fun r h14 hr => ?_)
    have f14 := hr
    refine stp ?_
    have n13 := f13.n
    have n14 := f14.n
    have hlp : ∀ i, ownedBy (.slice a3 x.c.votes.length c3) i ∨ ownedBy (.slice a4 x.vals.length c4) i → h.n ≤ i ∧ i < h8.n := fun i e => by
      rcases e with e | e
      · exact ⟨by have := m1 i e; omega, by have := o1.lt e; omega⟩
      · exact ⟨by have := m2 i e; omega, by have := o2.lt e; omega⟩
    have hlo : ∀ i, ownedBy ri i → h.n ≤ i ∧ i < h8.n := fun i e => ⟨by have := m3 i e; omega, by have := o3.lt e; omega⟩
    have FE : Fr (fun i => h.n ≤ i ∧ i < h8.n) h12 h14 := (f13.mono fun i _ e => hlp i e).trans' (f14.mono fun i _ e => hlo i e)
    have C0 : CrAt h14 p ⟨hashH x.h, askAll W⟩ := ((hC.keep f10 fun _ _ => id).keep f11 fun _ _ => id).keepS FE (by omega) fun w hw i hi => absurd (Above.ask (N := i + 1) W w hw i hi) (by omega)
    have D0 : DAt h14 q (dc0 (hashH x.h) (askL W)) := (hD.keep f11 id).keep FE (by omega)
    have FX : Fr (fun i => h.n ≤ i) h h14 := ((F8.trans' F811).mono fun _ _ e => e.elim).trans' (FE.mono fun i _ e => e.1)
    refine loop1 zccQ_l0_M 13 (fun m v13 g => ∃ (k : Nat) (c : Cr) (e : Dc), k ≤ l.length ∧ m = l.length - k ∧ v13 = .int .i64 k ∧ CrAt g p c ∧ DAt g q e ∧ Alike g c e ∧ Above h10.n c ∧ (∀ i, blockOf e.sv i ∨ blockOf e.sl i → h10.n ≤ i) ∧ Fr (fun i => h.n ≤ i) h g ∧ h14.n ≤ g.n) ?_ l.length ⟨0, _, _, by omega, rfl, rfl, C0, D0, Alike.new, Above.ask W, fun i hi => by rcases hi with hi | hi <;> exact hi.elim, FX, Nat.le_refl _⟩
    rintro m v13 h' x6 x14 x15 x16 x71 x72 x73 x74 x75 x76 x77 x78 x79 x80 x81 x82 x83 x84 x85 x86 x87 x88 x89 x90 x91 x92 x93 x94 x95 x96 x97 x98 x99 x100 x101 x102 x103 x104 x105 x106 x107 x108 x109 x110 x111 x112 x113 x114 x115 x116 x117 x118 x119 x120 x121 x122 x123 x124 x125 x126 x127 x128 x129 x130 ⟨k, c, e, hk, rfl, rfl, hCk, hDk, hAk, hab, hdb, hfk, hgn⟩
    refine stp ?_
    have nk := hfk.n
    refine C.if (fun hlt => ?_) (fun hge => ?_)
    · have hlt : k < l.length := by omega
      obtain ⟨b, o, sp, rfl, hb1, hcc⟩ := hwc (by omega)
      have hcc' : cellsAt h' b o (l.length * 168) = some (acells l) := by rw [cellsAt_keep hfk hb1 (by omega)]; exact hcc
      haveI := act_cells hl hcc' rfl hlt
      have hm0 := hl _ (act_mem hlt)
      have hm := hm0.keep hfk (fun i hi => by omega)
      have hbd := w2 _ (act_mem hlt)
      generalize l.getD k zAC = A at *
      obtain ⟨kd, who, ab, asv, asl⟩ := A
      obtain ⟨z1, z2, z3⟩ := hbd
      simp only at hm0 hm z1 z2 z3
      haveI := l32 hm.hd.prev
      haveI := l32 hm.hd.vals
      haveI := l32 hm.hd.next
      haveI := l32 hm.hd.app
      haveI := l32 hm.hash
      haveI := l32 (hashH_len ab.h)
      obtain ⟨a5, c5, rfl, _, _⟩ := id hm.sv
      obtain ⟨a6, c6, rfl, _, _⟩ := id hm.sl
      refine stp ?_
      have f1 : Fr (fun _ => False) h' (h'.push (.cells (.int .i64 kd :: .int .i64 who :: ab.cells (.slice a5 ab.c.votes.length c5) (.slice a6 ab.vals.length c6)) 0)) := Fr.refl.push
      have gX : HGet (h'.push (.cells (.int .i64 kd :: .int .i64 who :: ab.cells (.slice a5 ab.c.votes.length c5) (.slice a6 ab.vals.length c6)) 0)) h'.n (.cells (.int .i64 kd :: .int .i64 who :: ab.cells (.slice a5 ab.c.votes.length c5) (.slice a6 ab.vals.length c6)) 0) := HGet.new
      have n1 : (h'.push (.cells (.int .i64 kd :: .int .i64 who :: ab.cells (.slice a5 ab.c.votes.length c5) (.slice a6 ab.vals.length c6)) 0)).n = h'.n + 1 := rfl
      generalize h'.push (.cells (.int .i64 kd :: .int .i64 who :: ab.cells (.slice a5 ab.c.votes.length c5) (.slice a6 ab.vals.length c6)) 0) = g1 at *
      have hm1 := hm.keep f1 fun _ _ => id
      refine O.call' (CopyBlockA_ok hm1 (by omega) (by omega)) (fun r g2 hr => ?_)
      obtain ⟨tw, tm, rfl, t1, t2, u1, u2, uA, f2⟩ := hr
      have n2 := f2.n
      obtain ⟨a7, c7, rfl, _, _⟩ := id t1.rd
      obtain ⟨a8, c8, rfl, _, _⟩ := id t2.rd
      have gX2 := f2.keep gX (by omega) id
      haveI := gX2
      haveI : BLt h'.n g2 := ⟨by omega⟩
      refine stp ?_
      have f3 : Fr (fun _ => False) g2 (g2.push (.cells (ab.cells (.slice a7 ab.c.votes.length c7) (.slice a8 ab.vals.length c8)) 0)) := Fr.refl.push
      have gB3 : HGet (g2.push (.cells (ab.cells (.slice a7 ab.c.votes.length c7) (.slice a8 ab.vals.length c8)) 0)) g2.n (.cells (ab.cells (.slice a7 ab.c.votes.length c7) (.slice a8 ab.vals.length c8)) 0) := HGet.new
      have n3 : (g2.push (.cells (ab.cells (.slice a7 ab.c.votes.length c7) (.slice a8 ab.vals.length c8)) 0)).n = g2.n + 1 := rfl
      have gX3 := f3.keep gX2 (by omega) id
      generalize g2.push (.cells (ab.cells (.slice a7 ab.c.votes.length c7) (.slice a8 ab.vals.length c8)) 0) = g3 at *
      have F3 := (f1.trans' f2).trans' f3
      have hC3 := hCk.keep F3 fun _ _ => id
      have hD3 := hDk.keep F3 id
      have hA3 := hAk.keep F3 fun _ _ _ => id
      have hm3 := hm.keep F3 fun _ _ => id
      have t13 := t1.keep f3 fun _ _ => id
      have t23 := t2.keep f3 fun _ _ => id
      have lC := hCk.lt
      have lD := hDk.lt
      haveI := gX3
      haveI := gB3
      haveI : BLt h'.n g3 := ⟨by omega⟩
      haveI : BLt g2.n g3 := ⟨by omega⟩
      have hown : ∀ i, ownedBy (.slice a7 ab.c.votes.length c7) i ∨ ownedBy (.slice a8 ab.vals.length c8) i → g1.n ≤ i ∧ i < g2.n := fun i e => by
        rcases e with e | e
        · exact ⟨u1 i e, t1.lt e⟩
        · exact ⟨u2 i e, t2.lt e⟩
      refine stp ?_
      refine C.if (fun kd0 => ?_) (fun kd0 => ?_)
      · refine stp ?_
        refine D.callX (Say_ok hC3 ⟨hm3.hd, hm3.hash, t13.rd, t23.rd⟩ (by omega) (by omega)) (fun r g4 hr => ?_) (fun r g4 hr => ?_) (fun _ _ hx => hx.elim)
        · obtain ⟨_, _, f⟩ := hr
          haveI := f.keep gX3 (by omega) (by omega)
          haveI : BLt h'.n g4 := ⟨by have := f.n; omega⟩
          refine stab_cons (h2 := g4) ?_ ?_
          · exact inferInstance
          refine stab_cons (h2 := g4) ?_ ?_
          · exact inferInstance
          refine stab_cons (h2 := g4) ?_ ?_
          · exact inferInstance
          refine stab_cons (h2 := g4) ?_ ?_
          · exact inferInstance
          refine stab_cons (h2 := g4) ?_ ?_
          · exact inferInstance
          exact StabL.ok
        obtain ⟨rfl, ⟨c', hs, hC4⟩, f4⟩ := hr
        have n4 := f4.n
        have gX4 := f4.keep gX3 (by omega) (by omega)
        haveI := gX4
        haveI : BLt h'.n g4 := ⟨by omega⟩
        have hD4 := hD3.keep f4 (by omega)
        have FT4 : Fr (fun i => h.n ≤ i) h g4 := (hfk.trans' (F3.mono fun _ _ e => e.elim)).trans' (f4.mono fun i _ e => by omega)
        have hm4 := hm0.keep FT4 (fun i hi => by omega)
        have hA4 := hA3.keep f4 fun i _ hi e => by have := hdb i hi; omega
        refine stp ?_
        refine D.callX (DSay_ok hD4 hm4 (fun {g} hg => hm0.keep (FT4.trans' (hg.mono fun i _ e => by omega)) (fun i hi => by omega)) (by omega) (by omega) (by omega)) (fun r g5 hr => rfl) (fun r g5 hr => ?_) (fun _ _ hx => hx.elim)
        obtain ⟨rfl, ⟨e', hs', hD5⟩, f5⟩ := hr
        have n5' := f5.n
        have hA5 := hA4.keep f5 fun i _ hi e => by have := hdb i hi; omega
        have FE5 : Fr (fun i => i = p ∨ i = q) g3 g5 := (f4.mono fun _ _ e => .inl e).trans' (f5.mono fun _ _ e => .inr e)
        have hact := said_acted hC3.ok.len hA5 hm.hd hm.hash (by omega) (by omega) hs hs'
        have hC5 := hC4.keepS f5 (by omega) (hact.pb (fun i => i ≠ q) (fun w hw i hi => by have := hab w hw i hi; omega) (fun i hi => by omega))
        rw [say_eq hA5]
        haveI := FE5.keep gX3 (by omega) (by omega)
        haveI := FE5.keep gB3 (by omega) (by omega)
        haveI : BLt h'.n g5 := ⟨by omega⟩
        haveI : BLt g2.n g5 := ⟨by omega⟩
        refine stp ?_
        simp only [decide_true]
        refine stp ?_
        have hm5 := hm0.keep (FT4.trans' (f5.mono fun i _ e => by omega)) (fun i hi => by omega)
        refine D.callT (SameBlock_ok ⟨hm.hd, hm.hash, (t13.keep FE5 fun i hi e => by have := hown i (.inl hi); omega).rd, (t23.keep FE5 fun i hi e => by have := hown i (.inr hi); omega).rd⟩ hm5 (by omega) (by omega) (by omega) (by omega)) (fun r g6 hr => rfl) (fun r g6 hr => ?_)
        obtain ⟨rfl, f6⟩ := hr
        rw [sameB_self]
        have FE6 := FE5.trans' (f6.mono (S' := fun i => i = p ∨ i = q) fun _ _ e => e.elim)
        have n6' := f6.n
        have hC6 := hC5.keep f6 fun _ _ => id
        have hD6 := hD5.keep f6 id
        have hact6 : Acted g6 g3.n g4.n c c' e e' := ⟨hact.al.keep f6 fun _ _ _ => id, hact.hash, hact.pb, hact.db⟩
        refine stp ?_
        have nE := FE6.n
        have gBE := FE6.keep gB3 (by omega) (by omega)
        haveI := gBE
        haveI : BLt g2.n g6 := ⟨by omega⟩
        refine stp ?_
        refine O.call' (OverBlockO_ok (lo := g1.n) hm.hd hm.hash (by omega) (by omega) ⟨t13.keep FE6 fun i hi e => by have := (hown i (.inl hi)); omega, t23.keep FE6 fun i hi e => by have := (hown i (.inr hi)); omega, u1, u2, uA⟩) (fun r g7 hr => ?_)
        have f7 := hr
        have n7 := f7.n
        have hC7 := hC6.keepS f7 (fun e => by have := hown _ e; omega) (hact6.pb (fun i => ¬ (ownedBy (.slice a7 ab.c.votes.length c7) i ∨ ownedBy (.slice a8 ab.vals.length c8) i)) (fun w hw i hi e => by have := hCk.blk hw hi; have := hown i e; omega) (fun i hi e => by have := hown i e; omega))
        have hD7 := hD6.keep f7 (fun e => by have := hown _ e; omega)
        have hA7 := hact6.al.keep f7 fun i _ hi => hact6.db (fun i => ¬ (ownedBy (.slice a7 ab.c.votes.length c7) i ∨ ownedBy (.slice a8 ab.vals.length c8) i)) (fun i hi e => by
          have := hown i e
          rcases hi with hi | hi
          · have := Rd.block_lt hAk.rd.sv hi; omega
          · have := Rd.block_lt hAk.rd.sl hi; omega) (fun i hi e => by have := hown i e; omega) i hi
        refine stp ?_
        refine O.callT (stands_ok hC7 hD7 hA7) (fun r g8 hr => ?_)
        obtain ⟨rfl, f8⟩ := hr
        have n8' := f8.n
        refine stp ?_
        exact loop1a 13 (l.length - (k + 1)) (by omega) ⟨k + 1, c', e', by omega, rfl, rfl, hC7.keep f8 fun i hi => by omega, hD7.keep f8 (by omega), hA7.keep f8 fun i hi _ => by omega, hact6.pb (fun i => h10.n ≤ i) hab (fun i hi => by omega), hact6.db (fun i => h10.n ≤ i) hdb (fun i hi => by omega), (((hfk.trans' (F3.mono fun _ _ e => e.elim)).trans' (FE6.mono fun i _ e => by omega)).trans' (f7.mono fun i _ e => by have := hown i e; omega)).trans' (f8.mono fun i _ e => by omega), by omega⟩
      · refine stp ?_
        refine C.if (fun kd1 => ?_) (fun kd1 => ?_)
        · refine stp ?_
          refine D.callX (Leave_ok hC3) (fun r g4 hr => ?_) (fun r g4 hr => ?_) (fun _ _ hx => hx.elim)
          · obtain ⟨_, _, f⟩ := hr
            haveI := f.keep gX3 (by omega) (by omega)
            haveI : BLt h'.n g4 := ⟨by have := f.n; omega⟩
            exact StabL.ok
          obtain ⟨rfl, hC4, f4⟩ := hr
          have n4 := f4.n
          haveI := f4.keep gX3 (by omega) (by omega)
          haveI : BLt h'.n g4 := ⟨by omega⟩
          have hD4 := hD3.keep f4 (by omega)
          have hA4 := hA3.keep f4 fun i _ hi e => by have := hdb i hi; omega
          refine stp ?_
          refine D.callX (DLeave_ok hD4) (fun r g5 hr => rfl) (fun r g5 hr => ?_) (fun _ _ hx => hx.elim)
          obtain ⟨rfl, hD5, f5⟩ := hr
          have n5' := f5.n
          have hA5 := hA4.keep f5 fun i _ hi e => by have := hdb i hi; omega
          have FE5 : Fr (fun i => i = p ∨ i = q) g3 g5 := (f4.mono fun _ _ e => .inl e).trans' (f5.mono fun _ _ e => .inr e)
          have hact : Acted g5 g3.n g4.n c (leaveC c who) e (leaveD e who) := left_acted hC3.ok.len hA5
          have hC5 := hC4.keepS f5 (by omega) (hact.pb (fun i => i ≠ q) (fun w hw i hi => by have := hab w hw i hi; omega) (fun i hi => by omega))
          rw [show mayL e.S e.who who = mayS c who by rw [hA5.S, ← may_eq hA5.dif]]
          refine stp ?_
          simp only [decide_true]
          refine stp ?_
          have nE := FE5.n
          have gBE := FE5.keep gB3 (by omega) (by omega)
          haveI := gBE
          haveI : BLt g2.n g5 := ⟨by omega⟩
          refine stp ?_
          refine O.call' (OverBlockO_ok (lo := g1.n) hm.hd hm.hash (by omega) (by omega) ⟨t13.keep FE5 fun i hi e => by have := (hown i (.inl hi)); omega, t23.keep FE5 fun i hi e => by have := (hown i (.inr hi)); omega, u1, u2, uA⟩) (fun r g7 hr => ?_)
          have f7 := hr
          have n7 := f7.n
          have hC7 := hC5.keepS f7 (fun e => by have := hown _ e; omega) (hact.pb (fun i => ¬ (ownedBy (.slice a7 ab.c.votes.length c7) i ∨ ownedBy (.slice a8 ab.vals.length c8) i)) (fun w hw i hi e => by have := hCk.blk hw hi; have := hown i e; omega) (fun i hi e => by have := hown i e; omega))
          have hD7 := hD5.keep f7 (fun e => by have := hown _ e; omega)
          have hA7 := hact.al.keep f7 fun i _ hi => hact.db (fun i => ¬ (ownedBy (.slice a7 ab.c.votes.length c7) i ∨ ownedBy (.slice a8 ab.vals.length c8) i)) (fun i hi e => by
            have := hown i e
            rcases hi with hi | hi
            · have := Rd.block_lt hAk.rd.sv hi; omega
            · have := Rd.block_lt hAk.rd.sl hi; omega) (fun i hi e => by have := hown i e; omega) i hi
          refine stp ?_
          refine O.callT (stands_ok hC7 hD7 hA7) (fun r g8 hr => ?_)
          obtain ⟨rfl, f8⟩ := hr
          have n8' := f8.n
          refine stp ?_
          exact loop1a 13 (l.length - (k + 1)) (by omega) ⟨k + 1, _, _, by omega, rfl, rfl, hC7.keep f8 fun i hi => by omega, hD7.keep f8 (by omega), hA7.keep f8 fun i hi _ => by omega, hact.pb (fun i => h10.n ≤ i) hab (fun i hi => by omega), hact.db (fun i => h10.n ≤ i) hdb (fun i hi => by omega), (((hfk.trans' (F3.mono fun _ _ e => e.elim)).trans' (FE5.mono fun i _ e => by omega)).trans' (f7.mono fun i _ e => by have := hown i e; omega)).trans' (f8.mono fun i _ e => by omega), by omega⟩
        · refine stp ?_
          have FE3 : Fr (fun i => i = p ∨ i = q) g3 g3 := Fr.refl
          have hact : Acted g3 g3.n g3.n c c e e := .none hA3
          have nE := FE3.n
          have gBE := FE3.keep gB3 (by omega) (by omega)
          haveI := gBE
          haveI : BLt g2.n g3 := ⟨by omega⟩
          refine stp ?_
          refine O.call' (OverBlockO_ok (lo := g1.n) hm.hd hm.hash (by omega) (by omega) ⟨t13.keep FE3 fun i hi e => by have := (hown i (.inl hi)); omega, t23.keep FE3 fun i hi e => by have := (hown i (.inr hi)); omega, u1, u2, uA⟩) (fun r g7 hr => ?_)
          have f7 := hr
          have n7 := f7.n
          have hC7 := hC3.keepS f7 (fun e => by have := hown _ e; omega) (hact.pb (fun i => ¬ (ownedBy (.slice a7 ab.c.votes.length c7) i ∨ ownedBy (.slice a8 ab.vals.length c8) i)) (fun w hw i hi e => by have := hCk.blk hw hi; have := hown i e; omega) (fun i hi e => by have := hown i e; omega))
          have hD7 := hD3.keep f7 (fun e => by have := hown _ e; omega)
          have hA7 := hact.al.keep f7 fun i _ hi => hact.db (fun i => ¬ (ownedBy (.slice a7 ab.c.votes.length c7) i ∨ ownedBy (.slice a8 ab.vals.length c8) i)) (fun i hi e => by
            have := hown i e
            rcases hi with hi | hi
            · have := Rd.block_lt hAk.rd.sv hi; omega
            · have := Rd.block_lt hAk.rd.sl hi; omega) (fun i hi e => by have := hown i e; omega) i hi
          refine stp ?_
          refine O.callT (stands_ok hC7 hD7 hA7) (fun r g8 hr => ?_)
          obtain ⟨rfl, f8⟩ := hr
          have n8' := f8.n
          refine stp ?_
          exact loop1a 13 (l.length - (k + 1)) (by omega) ⟨k + 1, c, e, by omega, rfl, rfl, hC7.keep f8 fun i hi => by omega, hD7.keep f8 (by omega), hA7.keep f8 fun i hi _ => by omega, hact.pb (fun i => h10.n ≤ i) hab (fun i hi => by omega), hact.db (fun i => h10.n ≤ i) hdb (fun i hi => by omega), (((hfk.trans' (F3.mono fun _ _ e => e.elim)).trans' (FE3.mono fun i _ e => by omega)).trans' (f7.mono fun i _ e => by have := hown i e; omega)).trans' (f8.mono fun i _ e => by omega), by omega⟩
    · refine stp ?_
      refine O.callT (stands_ok hCk hDk hAk) (fun r h2 hr => ?_)
      obtain ⟨rfl, f2⟩ := hr
      refine stp ?_
      refine O.callT zdcQ_known (fun r h2 hr => ?_)
      obtain ⟨rfl, rfl⟩ := hr
      refine stp ?_
      rfl
end Go.Proofs.YtlckmpioipiihaaGreat.A
