/- Contracts of functions, over the machine. -/
import Derived.Test.YtmhnddkpiefkhaaQStoreBelow2
import Derived.Test.YtmhnddkpiefkhaaVK
import Derived.Test.YtmhnddkpiefkhaaVJ
set_option linter.unusedSimpArgs false
noncomputable section
namespace Go.Proofs.Ytmhnddkpiefkhaa.A
open Go Go.Vm
set_option maxRecDepth 10000
set_option linter.unusedVariables false
theorem lookup_any {l : List Ent} {c : Nat} {k : Int} (hn : EntsOK l c) (zero : Value) : ∃ pv b, (b = true → ∃ e ∈ l, e.k = k ∧ pv = e.v) ∧ (b = false → (∀ e ∈ l, e.k ≠ k) ∧ pv = zero) ∧
    ∀ {P : Program} {ts : List Value} {h : Heap} {m x : Operand} {r : Nat} [Ev ts m (.map (some r))] [HGet h r (.map (ents l) c)] [Ev ts x (.int .i64 k)], XOp P ts h (.lookup (.int .i64) zero true m x) (.tuple ⟨[pv, .bool b]⟩) h := by
  by_cases h : ∃ e ∈ l, e.k = k
  · obtain ⟨e, he, hk⟩ := h
    exact ⟨e.v, true, fun _ => ⟨e, he, hk, rfl⟩, fun h => (by cases h), fun {P ts h m x r} _ _ _ => XOp.lookupYes he hn hk⟩
  · have h' : ∀ e ∈ l, e.k ≠ k := fun e he hk => h ⟨e, he, hk⟩
    exact ⟨zero, false, fun h => (by cases h), fun _ => ⟨h', rfl⟩, fun {P ts h m x r} _ _ _ => XOp.lookupNo h'⟩
theorem StAt.del {h : Heap} {p m c : Nat} {room : Int} {l : List SE} (hs : StAt h p m c room l) (q : SE → Bool) : StAt (h.set m (.map (ents ((l.filter q).map SE.ent)) c)) p m c room (l.filter q) := by
  have hf : Fr (fun i => i = m) h (h.set m (.map (ents ((l.filter q).map SE.ent)) c)) := Fr.refl.set fun _ => rfl
  have hm : ∀ e ∈ l.filter q, e ∈ l := fun e he => (List.mem_filter.1 he).1
  refine ⟨hf.lt hs.pl, hf.lt hs.ml, hs.pm, by rw [hf.get _ hs.pl hs.pm]; exact hs.gp, by rw [Heap.get_set, if_pos rfl], ⟨?_, ?_, fun e he => ?_⟩, fun e he => (hs.ats e (hm e he)).keep hf fun i hi => (hs.sp e (hm e he) i hi).2, fun e he => hs.sp e (hm e he), hs.nd.sublist ((List.filter_sublist).map _), fun e he e' he' => hs.sv e (hm e he) e' (hm e' he')⟩
  · exact hs.ok.k.sublist (((List.filter_sublist).map _).map _)
  · exact hs.ok.t.sublist (((List.filter_sublist).map _).map _)
  · obtain ⟨s, hs2, rfl⟩ := List.mem_map.1 he
    exact hs.ok.lt _ (List.mem_map.2 ⟨s, hm s hs2, rfl⟩)
theorem StAt.add {h : Heap} {p m c : Nat} {room : Int} {l : List SE} {n : SE} (hs : StAt h p m c room l) (hn : n.At h) (ht : n.t = c) (hk : ∀ y ∈ l, y.k ≠ n.k) (hm : ∀ i, n.mine i → ¬ Mine p m l i) (hb : ¬ ownedBy n.sv n.b ∧ ¬ ownedBy n.sl n.b) :
    StAt (h.set m (.map (ents (l.map SE.ent ++ [n.ent])) (c + 1))) p m (c + 1) room (l ++ [n]) := by
  have hf : Fr (fun i => i = m) h (h.set m (.map (ents (l.map SE.ent ++ [n.ent])) (c + 1))) := Fr.refl.set fun _ => rfl
  have e1 : (l ++ [n]).map SE.ent = l.map SE.ent ++ [n.ent] := by simp
  have e2 : n.ent = ⟨n.k, .pointer (some ⟨n.b, 0, none⟩), c⟩ := by rw [← ht]; rfl
  refine ⟨hf.lt hs.pl, hf.lt hs.ml, hs.pm, by rw [hf.get _ hs.pl hs.pm]; exact hs.gp, by rw [Heap.get_set, if_pos rfl, e1], ?_, fun e he => ?_, fun e he i hi => ?_, ?_, fun e he e' he' => ?_⟩
  · rw [e1, e2]
    exact hs.ok.add fun e he => by
      obtain ⟨s, hs2, rfl⟩ := List.mem_map.1 he
      exact hk s hs2
  · rcases List.mem_append.1 he with he | he
    · exact (hs.ats e he).keep hf fun i hi => (hs.sp e he i hi).2
    · simp only [List.mem_singleton] at he
      subst he
      exact hn.keep hf fun i hi e => hm i hi (.inr (.inl e))
  · rcases List.mem_append.1 he with he | he
    · exact hs.sp e he i hi
    · simp only [List.mem_singleton] at he
      subst he
      exact ⟨fun e => hm i hi (.inl e), fun e => hm i hi (.inr (.inl e))⟩
  · rw [List.map_append, List.nodup_append]
    refine ⟨hs.nd, by simp, fun a ha b hb e => ?_⟩
    obtain ⟨s, hs2, rfl⟩ := List.mem_map.1 ha
    simp only [List.map_cons, List.map_nil, List.mem_singleton] at hb
    subst hb
    exact hm n.b (.inl rfl) (.inr (.inr ⟨s, hs2, .inl e.symm⟩))
  · rcases List.mem_append.1 he with h1 | h1 <;> rcases List.mem_append.1 he' with h2 | h2
    · exact hs.sv e h1 e' h2
    · have h3 : e' = n := by simpa using h2
      rw [h3]
      exact ⟨fun q => hm n.b (.inl rfl) (.inr (.inr ⟨e, h1, .inr (.inl q)⟩)), fun q => hm n.b (.inl rfl) (.inr (.inr ⟨e, h1, .inr (.inr q)⟩))⟩
    · have h3 : e = n := by simpa using h1
      rw [h3]
      exact ⟨fun q => hm _ (.inr (.inl q)) (.inr (.inr ⟨e', h2, .inl rfl⟩)), fun q => hm _ (.inr (.inr q)) (.inr (.inr ⟨e', h2, .inl rfl⟩))⟩
    · have h3 : e = n := by simpa using h1
      have h4 : e' = n := by simpa using h2
      rw [h3, h4]
      exact hb
def PutRel (room : Int) (l : List SE) (x : Bk) (gone e : Int) (l' : List SE) : Prop :=
  (x.h.height < 1 ∨ 1073741824 < x.h.height) ∧ gone = 0 ∧ e = 13 ∧ l' = l ∨
  (1 ≤ x.h.height ∧ x.h.height ≤ 1073741824) ∧
    ((∃ y ∈ l, y.k = x.h.height) ∧ gone = 0 ∧ e = 8 ∧ l' = l ∨
     (∀ y ∈ l, y.k ≠ x.h.height) ∧
       (room ≤ l.length ∧ (∀ y ∈ l, y.p = true) ∧ gone = 0 ∧ e = 7 ∧ l' = l ∨
        ∃ n : SE, n.x = x ∧ n.v = false ∧ n.p = false ∧ e = 0 ∧
          (l.length < room ∧ gone = 0 ∧ l' = l ++ [n] ∨
           room ≤ l.length ∧ ∃ y ∈ l, y.p = false ∧ (∀ z ∈ l, z.p = false → ¬ KeyLt z y) ∧ gone = y.k ∧ l' = (l.filter fun z => !decide (z.k = y.k)) ++ [n])))
set_option maxHeartbeats 16000000 in
theorem Put_ok {h : Heap} {p m c : Nat} {room : Int} {l : List SE} {x : Bk} {sv sl : Value} (hs : StAt h p m c room l) (hl : l.length < 100000) (hb : BkRd h x sv sl) (hv : x.c.votes.length ≤ 70) (hw : x.vals.length ≤ 70) (hbm : ∀ i, blockOf sv i ∨ blockOf sl i → i ≠ m) :
    Runs Try.prog T0 (.fn fn_znbQ) [.pointer (some ⟨p, 0, none⟩), .agg ⟨x.cells sv sl⟩] h
      (fun r h' => ∃ gone e l' c', r = .tuple ⟨[.int .i64 gone, .int .i64 e]⟩ ∧ PutRel room l x gone e l' ∧ StAt h' p m c' room l' ∧ Fr (fun i => i = m) h h' ∧ ∀ i, Mine p m l' i → Mine p m l i ∨ h.n ≤ i) (fun _ _ => False) := by
  have hx := hb.hd
  have hch := hb.hash
  haveI := l32 hx.prev
  haveI := l32 hx.vals
  haveI := l32 hx.next
  haveI := l32 hx.app
  haveI := l32 hch
  obtain ⟨a1, c1, rfl, _, _⟩ := id hb.sv
  obtain ⟨a2, c2, rfl, _, _⟩ := id hb.sl
  refine znbQ_runs ?_
  refine stp ?_
  generalize hX : Value.slice a1 x.c.votes.length c1 = xv at *
  generalize hX' : Value.slice a2 x.vals.length c2 = xl at *
  have gA : (h.push (.cells (x.cells xv xl) 0)).get h.n = .cells (x.cells xv xl) 0 := HGet.new.eq
  have F0 : Fr (fun _ => False) h (h.push (.cells (x.cells xv xl) 0)) := Fr.refl.push
  have n0 : (h.push (.cells (x.cells xv xl) 0)).n = h.n + 1 := rfl
  generalize h.push (.cells (x.cells xv xl) 0) = h0 at *
  have hs0 := hs.keep F0 fun _ _ => id
  have hb0 := hb.keep F0 fun _ _ => id
  haveI : HGet h0 h.n _ := ⟨gA⟩
  haveI : HGet h0 p _ := ⟨hs0.gp⟩
  haveI : HGet h0 m _ := ⟨hs0.gm⟩
  refine O.call' (snone_ok hs0) (fun r h0 hr => ?_)
  obtain ⟨rfl, rfl⟩ := hr
  obtain ⟨pv, b, hb1, hb2, hlk⟩ := lookup_any (k := x.h.height) hs0.ok (.pointer none)
  refine stp ?_
  have hlt0 : h.n < h0.n := by omega
  have FM0 : Fr (fun i => i = m) h h0 := F0.mono fun _ _ e => e.elim
  refine O.dec (fun g1 => ?_) (fun g1 => ?_)
  · refine stp ?_
    exact ⟨0, 13, l, c, rfl, .inl ⟨.inl g1, rfl, rfl, rfl⟩, hs0, FM0, fun i hi => .inl hi⟩
  refine stp ?_
  refine C.if (fun g2 => ?_) (fun g2 => ?_)
  · refine stp ?_
    exact ⟨0, 13, l, c, rfl, .inl ⟨.inr g2, rfl, rfl, rfl⟩, hs0, FM0, fun i hi => .inl hi⟩
  have hin : 1 ≤ x.h.height ∧ x.h.height ≤ 1073741824 := ⟨by omega, by omega⟩
  cases b with
  | true =>
    obtain ⟨e, he, hk, _⟩ := hb1 rfl
    obtain ⟨y, hy, rfl⟩ := List.mem_map.1 he
    refine stp ?_
    exact ⟨0, 8, l, c, rfl, .inr ⟨hin, .inl ⟨⟨y, hy, hk⟩, rfl, rfl, rfl⟩⟩, hs0, FM0, fun i hi => .inl hi⟩
  | false =>
  obtain ⟨hno, rfl⟩ := hb2 rfl
  have hne : ∀ y ∈ l, y.k ≠ x.h.height := fun y hy => hno _ (List.mem_map.2 ⟨y, hy, rfl⟩)
  have elen : (ents (l.map SE.ent)).length = l.length := by simp [ents]
  refine stp ?_
  rw [elen]
  refine C.if (fun hfull => ?full) (fun hfree => ?free)
  case' full =>
    refine stp ?_
    refine O.call' (loose_ok hs0 hl) (fun r h1 hr => ?_)
    obtain ⟨d, hd, hod, hnd, f1⟩ := hr
    have hs1 := hs0.keep f1 fun _ _ => id
    have hdl : (d.map SE.b).length = d.length := by simp
    have hdm : ∀ e ∈ d, e ∈ l ∧ e.p = false := fun e he => by
      have := hd.mem_iff.1 he
      unfold looseL at this
      obtain ⟨q1, q2⟩ := List.mem_filter.1 this
      exact ⟨q1, by simpa using q2⟩
    have hmd : ∀ e ∈ l, e.p = false → e ∈ d := fun e he hp => hd.mem_iff.2 (List.mem_filter.2 ⟨he, by simp [hp]⟩)
    have hdlen : d.length < 100000 := by
      have h1 := hd.length_eq
      have h2 : (looseL l).length ≤ l.length := List.length_filter_le _ _
      omega
    obtain ⟨ad, cd, rfl, _, _⟩ := id hod.rd
    refine stp ?_
    refine C.if (fun hz => ?_) (fun hz => ?_)
    · refine stp ?_
      have hd0 : d = [] := List.length_eq_zero_iff.1 (by omega)
      subst hd0
      refine ⟨0, 7, l, c, rfl, .inr ⟨hin, .inr ⟨hne, .inl ⟨hfull, fun y hy => ?_, rfl, rfl, rfl⟩⟩⟩, hs1, FM0.trans' (f1.mono fun _ _ e => e.elim), fun i hi => .inl hi⟩
      cases hp : y.p with
      | true => rfl
      | false => exact absurd (hmd y hy hp) (by simp)
    refine stp ?_
    refine O.call' (MinFunc_ok hod (fun e he => hs1.ats e (hdm e he).1) (by omega) hdlen) (fun r h2 hr => ?_)
    obtain ⟨y, hyd, rfl, hmin, f2⟩ := hr
    have hs2 := hs1.keep f2 fun _ _ => id
    obtain ⟨hyl, hyp⟩ := hdm y hyd
    have hya := hs2.ats y hyl
    haveI := l32 hya.hd.prev
    haveI := l32 hya.hd.vals
    haveI := l32 hya.hd.next
    haveI := l32 hya.hd.app
    haveI := l32 hya.hash
    have F12 := f1.trans' f2
    haveI : HGet h2 y.b _ := ⟨hya.get⟩
    haveI : HGet h2 p _ := ⟨hs2.gp⟩
    haveI : HGet h2 m _ := ⟨hs2.gm⟩
    refine stp ?_
    refine O.by0 (XOp.deleteYes (l := l.map SE.ent) (c := c) (e := y.ent) (List.mem_map.2 ⟨y, hyl, rfl⟩) hs2.ok rfl).eq rfl ?_
    have e3 : (l.map SE.ent).filter (fun x => !decide (x.k = y.ent.k)) = (l.filter fun z => !decide (z.k = y.k)).map SE.ent := by rw [List.filter_map]; rfl
    rw [e3]
    have hs3 := hs2.del (fun z => !decide (z.k = y.k))
    have fm : Fr (fun i => i = m) h2 (h2.set m (.map (ents ((l.filter fun z => !decide (z.k = y.k)).map SE.ent)) c)) := Fr.refl.set fun _ => rfl
    have F3 : Fr (fun i => i = m) h (h2.set m (.map (ents ((l.filter fun z => !decide (z.k = y.k)).map SE.ent)) c)) := (FM0.trans' (F12.mono fun _ _ e => e.elim)).trans' fm
    have hb3 : BkRd (h2.set m (.map (ents ((l.filter fun z => !decide (z.k = y.k)).map SE.ent)) c)) x xv xl := ⟨hb.hd, hb.hash, hb.sv.keep F3 fun i hi e => hbm i (.inl hi) e, hb.sl.keep F3 fun i hi e => hbm i (.inr hi) e⟩
    have gX3 : (h2.set m (.map (ents ((l.filter fun z => !decide (z.k = y.k)).map SE.ent)) c)).get h.n = .cells (x.cells xv xl) 0 := by
      rw [fm.get _ (by have := F12.n; omega) (by have := hs.ml; omega), F12.get _ hlt0 id]; exact gA
    have hlt3 : h.n < (h2.set m (.map (ents ((l.filter fun z => !decide (z.k = y.k)).map SE.ent)) c)).n := by have := F12.n; simp; omega
    have hsub : ∀ z ∈ (l.filter fun z => !decide (z.k = y.k)), z ∈ l := fun z hz => (List.mem_filter.1 hz).1
    have hrel : ∀ n : SE, n.x = x → n.v = false → n.p = false → PutRel room l x y.x.h.height 0 ((l.filter fun z => !decide (z.k = y.k)) ++ [n]) := fun n q1 q2 q3 =>
      .inr ⟨hin, .inr ⟨hne, .inr ⟨n, q1, q2, q3, rfl, .inr ⟨hfull, y, hyl, hyp, fun z hz hzp => hmin z (hmd z hz hzp), rfl, rfl⟩⟩⟩⟩
    generalize (l.filter fun z => !decide (z.k = y.k)) = L at *
    generalize h2.set m (.map (ents (L.map SE.ent)) c) = hc at *
  case' free =>
    have hs3 := hs0
    have F3 := FM0
    have hb3 := hb0
    have gX3 := gA
    have hlt3 := hlt0
    have hsub : ∀ z ∈ l, z ∈ l := fun z hz => hz
    have hrel : ∀ n : SE, n.x = x → n.v = false → n.p = false → PutRel room l x 0 0 (l ++ [n]) := fun n q1 q2 q3 =>
      .inr ⟨hin, .inr ⟨hne, .inr ⟨n, q1, q2, q3, rfl, .inl ⟨by omega, rfl, rfl⟩⟩⟩⟩
  all_goals
    haveI : HGet _ h.n _ := ⟨gX3⟩
    haveI : HGet _ p _ := ⟨hs3.gp⟩
    haveI : HGet _ m _ := ⟨hs3.gm⟩
    haveI : BLt h.n _ := ⟨hlt3⟩
    haveI : BLt p _ := ⟨hs3.pl⟩
    refine stp ?_
    refine D.callX (sown_ok hb3 (by omega) (by omega)) (fun r h4 hr => ?_) (fun r h4 hr => ?_) (fun _ _ hx => hx.elim)
    · obtain ⟨_, _, _, _, _, _, _, _, f4⟩ := hr
      haveI : HGet h4 h.n _ := f4.keep ⟨gX3⟩ hlt3 id
      haveI : HGet h4 p _ := f4.keep ⟨hs3.gp⟩ hs3.pl id
      repeat refine stab_cons inferInstance ?_
      rfl
    obtain ⟨sw, sm, rfl, o1, o2, m1, m2, m3, f4⟩ := hr
    have hs4 := hs3.keep f4 fun _ _ => id
    obtain ⟨a3, c3, rfl, _, _⟩ := id o1.rd
    obtain ⟨a4, c4, rfl, _, _⟩ := id o2.rd
    haveI : HGet h4 h.n _ := f4.keep ⟨gX3⟩ hlt3 id
    haveI : HGet h4 p _ := ⟨hs4.gp⟩
    haveI : HGet h4 m _ := ⟨hs4.gm⟩
    haveI : BLt h.n h4 := ⟨f4.lt hlt3⟩
    haveI : BLt p h4 := ⟨hs4.pl⟩
    haveI : BLt m h4 := ⟨hs4.ml⟩
    refine stp ?_
    have gP4 := hs4.gp
    have gX4 := f4.get _ hlt3 id
    rw [gX3] at gX4
    refine D.one ?_ ?_
    · repeat refine stab_cons inferInstance ?_
      rfl
    refine stp ?_
    refine D.one0 (k := XOp.mapAdd ?_) rfl ?_
    · exact fun e he => by
        obtain ⟨s, hs2, rfl⟩ := List.mem_map.1 he
        exact hne s (hsub s hs2)
    refine stp ?_
    have q3 := F3.n
    have q4 := f4.n
    have ql : ∀ i, Mine p m _ i → _ := fun i => hs3.mlt (i := i)
    refine ⟨_, _, _, _, rfl, hrel ⟨h4.n, c, x, .slice a3 x.c.votes.length c3, .slice a4 x.vals.length c4, false, false⟩ rfl rfl rfl, (hs4.keep (Fr.refl.push (S := fun _ => False)) fun _ _ => id).add (n := ⟨h4.n, c, x, .slice a3 x.c.votes.length c3, .slice a4 x.vals.length c4, false, false⟩) ⟨hx, hch, HGet.new.eq, Nat.lt_succ_self h4.n, o1.keep (Fr.refl.push (S := fun _ => False)) fun _ _ => id, o2.keep (Fr.refl.push (S := fun _ => False)) fun _ _ => id, hv, hw⟩ rfl (fun y hy => hne y (hsub y hy)) (fun i hi hM => ?_) ⟨fun e => ?_, fun e => ?_⟩, ((F3.trans' (f4.mono fun _ _ e => e.elim)).push).set fun _ => rfl, fun i hi => ?_⟩
    · have h5 := ql i hM
      rcases hi with h6 | h6 | h6
      · have h6 : i = h4.n := h6
        omega
      · have := m1 i h6
        omega
      · have := m2 i h6
        omega
    · exact Nat.lt_irrefl _ (o1.lt e)
    · exact Nat.lt_irrefl _ (o2.lt e)
    · rcases hi with h6 | h6 | ⟨e, he, h6⟩
      · exact .inl (.inl h6)
      · exact .inl (.inr (.inl h6))
      · rcases List.mem_append.1 he with he | he
        · exact .inl (.inr (.inr ⟨e, hsub e he, h6⟩))
        · rw [List.mem_singleton.1 he] at h6
          rcases h6 with h6 | h6 | h6
          · have h6 : i = h4.n := h6
            exact .inr (by omega)
          · have := m1 i h6
            exact .inr (by omega)
          · have := m2 i h6
            exact .inr (by omega)
end Go.Proofs.Ytmhnddkpiefkhaa.A

namespace Go.Proofs.Ytmhnddkpiefkhaa.A
open Go Go.Vm
set_option maxRecDepth 10000
set_option linter.unusedVariables false
theorem key_inj {h : Heap} {p m c : Nat} {room : Int} {l : List SE} (hs : StAt h p m c room l) {a b : SE} (ha : a ∈ l) (hb : b ∈ l) (e : a.k = b.k) : a = b := by
  have ht : (l.map SE.k).Nodup := by have := hs.ok.k; rw [List.map_map] at this; exact this
  exact inj_of_nodup ht ha hb e
def turnS (k : Int) (f : SE → SE) (l : List SE) : List SE := l.map fun z => if z.k = k then f z else z
theorem StAt.turn {h h' : Heap} {p m c : Nat} {room : Int} {l : List SE} (hs : StAt h p m c room l) {y : SE} (hy : y ∈ l) {f : SE → SE} (hf : ∀ z, f z = ⟨z.b, z.t, z.x, z.sv, z.sl, (f z).v, (f z).p⟩) (hF : Fr (fun i => i = y.b) h h') (hg : h'.get y.b = .cells (f y).cells 0) :
    StAt h' p m c room (turnS y.k f l) := by
  have hb : ∀ z, (f z).b = z.b := fun z => by rw [hf]
  have hent : ∀ z, (f z).ent = z.ent := fun z => by rw [hf]; rfl
  have hmi : ∀ z i, (f z).mine i ↔ z.mine i := fun z i => by rw [hf]; exact Iff.rfl
  have e1 : (turnS y.k f l).map SE.ent = l.map SE.ent := by
    unfold turnS
    rw [List.map_map]
    refine List.map_congr_left fun z _ => ?_
    show (if z.k = y.k then f z else z).ent = z.ent
    split
    · exact hent z
    · rfl
  have e2 : (turnS y.k f l).map SE.b = l.map SE.b := by
    unfold turnS
    rw [List.map_map]
    refine List.map_congr_left fun z _ => ?_
    show (if z.k = y.k then f z else z).b = z.b
    split
    · exact hb z
    · rfl
  have hym := hs.sp y hy y.b (.inl rfl)
  refine ⟨hF.lt hs.pl, hF.lt hs.ml, hs.pm, by rw [hF.get _ hs.pl (fun e => hym.1 e.symm)]; exact hs.gp, by rw [hF.get _ hs.ml (fun e => hym.2 e.symm), e1]; exact hs.gm, by rw [e1]; exact hs.ok, fun e he => ?_, fun e he i hi => ?_, by rw [e2]; exact hs.nd, fun e he e' he' => ?_⟩
  · obtain ⟨z, hz, rfl⟩ := List.mem_map.1 he
    show (if z.k = y.k then f z else z).At h'
    by_cases hk : z.k = y.k
    · have hzy : z = y := key_inj hs hz hy hk
      subst hzy
      rw [if_pos rfl]
      have ha := hs.ats z hz
      have hsv := hs.sv z hz z hz
      have h1 : (f z).x = z.x := by rw [hf]
      have h2 : (f z).sv = z.sv := by rw [hf]
      have h3 : (f z).sl = z.sl := by rw [hf]
      refine ⟨by rw [h1]; exact ha.hd, by rw [h1]; exact ha.hash, by rw [hb]; exact hg, by rw [hb]; exact hF.lt ha.lt, ?_, ?_, by rw [h1]; exact ha.lv, by rw [h1]; exact ha.ll⟩
      · rw [h1, h2]; exact ha.sv.keep hF fun b hb e => hsv.1 (by rw [← e]; exact hb)
      · rw [h1, h3]; exact ha.sl.keep hF fun b hb e => hsv.2 (by rw [← e]; exact hb)
    · rw [if_neg hk]
      have hsv := hs.sv z hz y hy
      refine (hs.ats z hz).keep hF fun i hi e => ?_
      rcases hi with h1 | h1 | h1
      · exact hk (by rw [inj_of_nodup hs.nd hz hy (by rw [← h1, e])])
      · exact hsv.1 (by rw [← e]; exact h1)
      · exact hsv.2 (by rw [← e]; exact h1)
  · obtain ⟨z, hz, rfl⟩ := List.mem_map.1 he
    refine hs.sp z hz i ?_
    have hi : (if z.k = y.k then f z else z).mine i := hi
    split at hi
    · exact (hmi z i).1 hi
    · exact hi
  · obtain ⟨z, hz, rfl⟩ := List.mem_map.1 he
    obtain ⟨z', hz', rfl⟩ := List.mem_map.1 he'
    have q1 : (if z.k = y.k then f z else z).sv = z.sv := by
      split
      · rw [hf]
      · rfl
    have q2 : (if z.k = y.k then f z else z).sl = z.sl := by
      split
      · rw [hf]
      · rfl
    have q3 : (if z'.k = y.k then f z' else z').b = z'.b := by
      split
      · rw [hf]
      · rfl
    rw [q1, q2, q3]
    exact hs.sv z hz z' hz'
theorem mine_turn {p m : Nat} {l : List SE} {k : Int} {f : SE → SE} (hf : ∀ z, f z = ⟨z.b, z.t, z.x, z.sv, z.sl, (f z).v, (f z).p⟩) {i : Nat} (hi : Mine p m (turnS k f l) i) : Mine p m l i := by
  rcases hi with h1 | h1 | ⟨e, he, h1⟩
  · exact .inl h1
  · exact .inr (.inl h1)
  · obtain ⟨z, hz, rfl⟩ := List.mem_map.1 he
    refine .inr (.inr ⟨z, hz, ?_⟩)
    have h1 : (if z.k = k then f z else z).mine i := h1
    split at h1
    · rw [hf] at h1; exact h1
    · exact h1
set_option maxHeartbeats 2000000 in
theorem with_ok {h : Heap} {p m c : Nat} {room k : Int} {l : List SE} {fd : FuncId} {cs : List Value} {R : RP} (hs : StAt h p m c room l) (hd : ∀ y ∈ l, y.k = k → Runs Try.prog T0 (.fn fd) (.pointer (some ⟨y.b, 0, none⟩) :: cs) h R (fun _ _ => False)) :
    Runs Try.prog T0 (.fn fn_ztbQ) [.pointer (some ⟨p, 0, none⟩), .int .i64 k, .func (.func fd) ⟨[]⟩ ⟨cs⟩] h
      (fun r h' => (∃ y ∈ l, y.k = k ∧ r = .int .i64 0 ∧ ∃ r', R r' h') ∨ (∀ y ∈ l, y.k ≠ k) ∧ r = .int .i64 10 ∧ h' = h) (fun _ _ => False) := by
  haveI : HGet h p _ := ⟨hs.gp⟩
  haveI : HGet h m _ := ⟨hs.gm⟩
  refine ztbQ_runs ?_
  refine stp ?_
  refine O.call' (snone_ok hs) (fun r h0 hr => ?_)
  obtain ⟨rfl, rfl⟩ := hr
  obtain ⟨pv, b, hb1, hb2, hlk⟩ := lookup_any (k := k) hs.ok (.pointer none)
  refine stp ?_
  cases b with
  | true =>
    obtain ⟨e, he, hk, rfl⟩ := hb1 rfl
    obtain ⟨y, hy, rfl⟩ := List.mem_map.1 he
    have hkey : y.k = k := hk
    refine stp ?_
    refine O.call' (all := .pointer (some ⟨y.b, 0, none⟩) :: cs) (hd y hy hkey) (fun r h1 hr => ?_)
    refine stp ?_
    exact .inl ⟨y, hy, hkey, rfl, r, hr⟩
  | false =>
    obtain ⟨hno, rfl⟩ := hb2 rfl
    refine stp ?_
    exact .inr ⟨fun y hy => hno _ (List.mem_map.2 ⟨y, hy, rfl⟩), rfl, rfl⟩
def pinF (b : Bool) (z : SE) : SE := { z with p := b }
def verF (z : SE) : SE := { z with v := true }
def withE (l : List SE) (k : Int) (e : Int) : Prop := (∃ y ∈ l, y.k = k) ∧ e = 0 ∨ (∀ y ∈ l, y.k ≠ k) ∧ e = 10
theorem turn_no {l : List SE} {k : Int} {f : SE → SE} (hn : ∀ y ∈ l, y.k ≠ k) : turnS k f l = l := by
  unfold turnS
  refine (List.map_congr_left fun z hz => ?_).trans (List.map_id l)
  show (if z.k = k then f z else z) = z
  rw [if_neg (hn z hz)]
set_option maxHeartbeats 2000000 in
theorem Pin_ok {h : Heap} {p m c : Nat} {room k : Int} {is : Bool} {l : List SE} (hs : StAt h p m c room l) :
    Runs Try.prog T0 (.fn fn_zlbQ) [.pointer (some ⟨p, 0, none⟩), .int .i64 k, .bool is] h
      (fun r h' => ∃ e, r = .int .i64 e ∧ withE l k e ∧ StAt h' p m c room (turnS k (pinF is) l) ∧ Fr (fun i => ∃ y ∈ l, i = y.b) h h' ∧ ∀ i, Mine p m (turnS k (pinF is) l) i → Mine p m l i) (fun _ _ => False) := by
  refine zlbQ_runs ?_
  refine stp ?_
  have gb : (h.push (.cells [.bool is] 0)).get h.n = .cells [.bool is] 0 := HGet.new.eq
  have F0 : Fr (fun _ => False) h (h.push (.cells [.bool is] 0)) := Fr.refl.push
  have n0 : (h.push (.cells [.bool is] 0)).n = h.n + 1 := rfl
  generalize h.push (.cells [.bool is] 0) = h0 at *
  have hs0 := hs.keep F0 fun _ _ => id
  refine O.call' (with_ok hs0 (k := k) (fd := fn_zmbQ) (cs := [.pointer (some ⟨h.n, 0, none⟩)]) (R := fun _ h' => ∃ y ∈ l, y.k = k ∧ h' = h0.set y.b (.cells (pinF is y).cells 0)) fun y hy hk => ?_) (fun r h1 hr => ?_)
  · have ha := hs0.ats y hy
    haveI := l32 ha.hd.prev
    haveI := l32 ha.hd.vals
    haveI := l32 ha.hd.next
    haveI := l32 ha.hd.app
    haveI := l32 ha.hash
    haveI : HGet h0 y.b _ := ⟨ha.get⟩
    haveI : HGet h0 h.n _ := ⟨gb⟩
    refine zmbQ_runs ?_
    refine stp ?_
    exact ⟨y, hy, hk, rfl⟩
  · refine stp ?_
    rcases hr with ⟨y, hy, hk, rfl, _, y', hy', hk', rfl⟩ | ⟨hno, rfl, rfl⟩
    · refine stp ?_
      subst hk'
      have fS : Fr (fun i => i = y'.b) h0 (h0.set y'.b (.cells (pinF is y').cells 0)) := Fr.refl.set fun _ => rfl
      exact ⟨0, rfl, .inl ⟨⟨y', hy', rfl⟩, rfl⟩, hs0.turn hy' (fun _ => rfl) fS (by rw [Heap.get_set, if_pos rfl]), (F0.mono fun _ _ e => e.elim).trans' (fS.mono fun i _ e => ⟨y', hy', e⟩), fun i hi => mine_turn (fun _ => rfl) hi⟩
    · refine stp ?_
      rw [turn_no hno]
      exact ⟨10, rfl, .inr ⟨hno, rfl⟩, hs0, F0.mono fun _ _ e => e.elim, fun i hi => hi⟩
set_option maxHeartbeats 2000000 in
theorem Verify_ok {h : Heap} {p m c : Nat} {room k : Int} {l : List SE} (hs : StAt h p m c room l) :
    Runs Try.prog T0 (.fn fn_zobQ) [.pointer (some ⟨p, 0, none⟩), .int .i64 k] h
      (fun r h' => ∃ e, r = .int .i64 e ∧ withE l k e ∧ StAt h' p m c room (turnS k verF l) ∧ Fr (fun i => ∃ y ∈ l, i = y.b) h h' ∧ ∀ i, Mine p m (turnS k verF l) i → Mine p m l i) (fun _ _ => False) := by
  refine zobQ_runs ?_
  refine stp ?_
  refine O.call' (with_ok hs (k := k) (fd := fn_zpbQ) (cs := []) (R := fun _ h' => ∃ y ∈ l, y.k = k ∧ h' = h.set y.b (.cells (verF y).cells 0)) fun y hy hk => ?_) (fun r h1 hr => ?_)
  · have ha := hs.ats y hy
    haveI := l32 ha.hd.prev
    haveI := l32 ha.hd.vals
    haveI := l32 ha.hd.next
    haveI := l32 ha.hd.app
    haveI := l32 ha.hash
    haveI : HGet h y.b _ := ⟨ha.get⟩
    refine zpbQ_runs ?_
    refine stp ?_
    exact ⟨y, hy, hk, rfl⟩
  · rcases hr with ⟨y, hy, hk, rfl, _, y', hy', hk', rfl⟩ | ⟨hno, rfl, rfl⟩
    · refine stp ?_
      subst hk'
      have fS : Fr (fun i => i = y'.b) h (h.set y'.b (.cells (verF y').cells 0)) := Fr.refl.set fun _ => rfl
      exact ⟨0, rfl, .inl ⟨⟨y', hy', rfl⟩, rfl⟩, hs.turn hy' (fun _ => rfl) fS (by rw [Heap.get_set, if_pos rfl]), fS.mono fun i _ e => ⟨y', hy', e⟩, fun i hi => mine_turn (fun _ => rfl) hi⟩
    · refine stp ?_
      rw [turn_no hno]
      exact ⟨10, rfl, .inr ⟨hno, rfl⟩, hs, Fr.refl, fun i hi => hi⟩
end Go.Proofs.Ytmhnddkpiefkhaa.A

namespace Go.Proofs.Ytmhnddkpiefkhaa.A
open Go Go.Vm
set_option maxRecDepth 10000
set_option linter.unusedVariables false
def remE (l d : List Ent) (k : Int) : List Ent := l.filter fun e => !((d.map Ent.t).contains e.t && !decide (e.k = k))
theorem remE_next {l d : List Ent} {c : Nat} {k : Int} {e : Ent} (ok : EntsOK l c) (he : e ∈ l) (hk : e.k ≠ k) : (remE l d k).filter (fun x => !decide (x.k = e.k)) = remE l (d ++ [e]) k := by
  unfold remE
  rw [List.filter_filter]
  refine List.filter_congr fun x hx => ?_
  by_cases hxe : x = e
  · subst hxe
    simp [hk]
  · have h1 : x.k ≠ e.k := fun h => hxe (inj_of_nodup ok.k hx he h)
    have h2 : x.t ≠ e.t := fun h => hxe (inj_of_nodup ok.t hx he h)
    simp [h1, h2]
theorem remE_stay {l d : List Ent} {c : Nat} {k : Int} {e : Ent} (ok : EntsOK l c) (he : e ∈ l) (hk : e.k = k) : remE l d k = remE l (d ++ [e]) k := by
  unfold remE
  refine List.filter_congr fun x hx => ?_
  by_cases hxe : x = e
  · subst hxe
    simp [hk]
  · have h2 : x.t ≠ e.t := fun h => hxe (inj_of_nodup ok.t hx he h)
    simp [h2]
theorem remE_end {l d : List Ent} {k : Int} (h : leftE (remE l d k) (d.map Ent.t) = []) : remE l d k = l.filter fun e => decide (e.k = k) := by
  unfold remE
  refine List.filter_congr fun x hx => ?_
  by_cases hk : x.k = k
  · simp [hk]
  · by_cases ht : x.t ∈ d.map Ent.t
    · have ht2 : (d.map Ent.t).contains x.t = true := by simpa using ht
      rw [ht2]; simp [hk]
    · exfalso
      have h1 : x ∈ remE l d k := List.mem_filter.2 ⟨hx, by
        have : (d.map Ent.t).contains x.t = false := by simpa using ht
        rw [this]; rfl⟩
      have h2 := List.filter_eq_nil_iff.1 h x h1
      have h3 : (d.map Ent.t).contains x.t = false := by simpa using ht
      rw [h3] at h2
      exact h2 rfl
theorem clear1_ok {h : Heap} {b : Nat} {n k : Int} {v : Value} (hg : h.get b = .cells [.int .i64 k] 0) : Runs Try.prog T0 (.fn fn_zibQ) [.int .i64 n, v, .pointer (some ⟨b, 0, none⟩)] h (fun r h' => r = .bool (!decide (n = k)) ∧ h' = h) (fun _ _ => False) := by
  haveI : HGet h b _ := ⟨hg⟩
  refine zibQ_runs ?_
  refine stp ?_
  exact ⟨rfl, rfl⟩
set_option maxHeartbeats 4000000 in
theorem DeleteFunc_ok {h : Heap} {b m c : Nat} {k : Int} {l : List Ent} (hg : h.get b = .cells [.int .i64 k] 0) (bl : b < h.n) (hm : h.get m = .map (ents l) c) (ml : m < h.n) (hbm : b ≠ m) (ok : EntsOK l c) :
    Runs Try.prog T0 (.fn fn_zvQ) [.map (some m), .func (.func fn_zibQ) ⟨[]⟩ ⟨[.pointer (some ⟨b, 0, none⟩)]⟩] h
      (fun r h' => h'.get m = .map (ents (l.filter fun e => decide (e.k = k))) c ∧ Fr (fun i => i = m) h h') (fun _ _ => False) := by
  haveI : HGet h b _ := ⟨hg⟩
  haveI : BLt b h := ⟨bl⟩
  haveI : HGet h m _ := ⟨hm⟩
  haveI : BLt m h := ⟨ml⟩
  refine zvQ_runs ?_
  refine stp ?_
  refine loop0 zvQ_l0_M (fun q hx => ∃ d, TellE l d ∧ q = l.length - d.length ∧ hx.get h.n = .mapIter (some m) c (d.map Ent.t) c ∧ hx.get m = .map (ents (remE l d k)) c ∧ h.n < hx.n ∧ Fr (fun i => i = m) h hx) ?_ l.length
    ⟨[], TellE.nil, rfl, HGet.new.eq, by rw [Heap.get_push, if_neg (by omega), hm]; congr 2; exact (List.filter_eq_self.2 fun _ _ => rfl).symm, by simp, Fr.refl.push⟩
  rintro m h' x4 x5 x8 x9 x10 x11 x12 x13 x14 x15 x16 x17 x18 ⟨d, ht, rfl, gi, gm, hn, hF⟩
  have hbx : h'.get b = .cells [.int .i64 k] 0 := by rw [hF.get _ bl hbm]; exact hg
  have okr : EntsOK (remE l d k) c := ok.filter _
  haveI : HGet h' b _ := ⟨hbx⟩
  haveI : HGet h' h.n _ := ⟨gi⟩
  haveI : HGet h' m _ := ⟨gm⟩
  haveI : BLt h.n h' := ⟨hn⟩
  haveI : BLt b h' := ⟨by omega⟩
  haveI : BNe m h.n := ⟨by omega⟩
  haveI : BNe b h.n := ⟨by omega⟩
  refine stp ?_
  refine O.nextMap (l := remE l d k) (c := c) (m := m) (seen := d.map Ent.t) okr (fun hend => ?_) (fun e he => ?_)
  · refine stp ?_
    exact ⟨by rw [gm, remE_end hend], hF⟩
  · have her := (List.mem_filter.1 he).1
    have hel := (List.mem_filter.1 her).1
    have heL : e ∈ leftE l (d.map Ent.t) := List.mem_filter.2 ⟨hel, (List.mem_filter.1 he).2⟩
    have ht2 := ht.next heL
    have hlen := tell_len ht2
    rw [List.length_append, List.length_singleton] at hlen
    have hFs : Fr (fun i => i = m) h (h'.set h.n (.mapIter (some m) c (d.map Ent.t ++ [e.t]) c)) := hF.set fun hh => absurd hh (by omega)
    refine stp ?_
    refine O.how (XOp.entryMap (m := m) (c := c) (l := remE l d k) (seen := d.map Ent.t) (x := e) okr her) ?_
    refine stp ?_
    refine O.call' (clear1_ok (k := k) (by rw [Heap.get_set, if_neg (by omega)]; exact hbx)) (fun r h3 hr => ?_)
    obtain ⟨rfl, rfl⟩ := hr
    refine stp ?_
    refine C.ifN (fun hne => ?_) (fun hek => ?_)
    · refine stp ?_
      refine O.by0 (XOp.deleteYes (l := remE l d k) (c := c) (e := e) her okr rfl).eq rfl ?_
      refine stp ?_
      refine loop0a (l.length - (d.length + 1)) (by omega) ⟨d ++ [e], ht2, by simp, ?_, ?_, by simpa using hn, hFs.set fun _ => rfl⟩
      · rw [Heap.get_set, if_neg (by omega), Heap.get_set, if_pos rfl, List.map_append]
        rfl
      · rw [Heap.get_set, if_pos rfl, remE_next ok hel hne]
    · refine stp ?_
      refine loop0a (l.length - (d.length + 1)) (by omega) ⟨d ++ [e], ht2, by simp, ?_, ?_, by simpa using hn, hFs⟩
      · rw [Heap.get_set, if_pos rfl, List.map_append]
        rfl
      · rw [Heap.get_set, if_neg (by omega), gm, remE_stay ok hel hek]
theorem StAt.less {h h' : Heap} {p m c : Nat} {room : Int} {l : List SE} (hs : StAt h p m c room l) (q : SE → Bool) (hf : Fr (fun i => i = m) h h') (hg : h'.get m = .map (ents ((l.filter q).map SE.ent)) c) : StAt h' p m c room (l.filter q) := by
  have hm : ∀ e ∈ l.filter q, e ∈ l := fun e he => (List.mem_filter.1 he).1
  refine ⟨hf.lt hs.pl, hf.lt hs.ml, hs.pm, by rw [hf.get _ hs.pl hs.pm]; exact hs.gp, hg, ⟨?_, ?_, fun e he => ?_⟩, fun e he => (hs.ats e (hm e he)).keep hf fun i hi => (hs.sp e (hm e he) i hi).2, fun e he => hs.sp e (hm e he), hs.nd.sublist ((List.filter_sublist).map _), fun e he e' he' => hs.sv e (hm e he) e' (hm e' he')⟩
  · exact hs.ok.k.sublist (((List.filter_sublist).map _).map _)
  · exact hs.ok.t.sublist (((List.filter_sublist).map _).map _)
  · obtain ⟨s, hs2, rfl⟩ := List.mem_map.1 he
    exact hs.ok.lt _ (List.mem_map.2 ⟨s, hm s hs2, rfl⟩)
def onlyS (k : Int) (l : List SE) : List SE := l.filter fun z => decide (z.k = k)
set_option maxHeartbeats 2000000 in
theorem Clear_ok {h : Heap} {p m c : Nat} {room k : Int} {l : List SE} (hs : StAt h p m c room l) :
    Runs Try.prog T0 (.fn fn_zhbQ) [.pointer (some ⟨p, 0, none⟩), .int .i64 k] h
      (fun r h' => StAt h' p m c room (onlyS k l) ∧ Fr (fun i => i = m) h h' ∧ ∀ i, Mine p m (onlyS k l) i → Mine p m l i) (fun _ _ => False) := by
  refine zhbQ_runs ?_
  refine stp ?_
  have gb : (h.push (.cells [.int .i64 k] 0)).get h.n = .cells [.int .i64 k] 0 := HGet.new.eq
  have F0 : Fr (fun _ => False) h (h.push (.cells [.int .i64 k] 0)) := Fr.refl.push
  have n0 : (h.push (.cells [.int .i64 k] 0)).n = h.n + 1 := rfl
  generalize h.push (.cells [.int .i64 k] 0) = h0 at *
  have hs0 := hs.keep F0 fun _ _ => id
  haveI : HGet h0 p _ := ⟨hs0.gp⟩
  refine O.call' (snone_ok hs0) (fun r h0 hr => ?_)
  obtain ⟨rfl, rfl⟩ := hr
  refine stp ?_
  refine O.call' (DeleteFunc_ok (k := k) (l := l.map SE.ent) (c := c) gb (by omega) hs0.gm hs0.ml (by have := hs.ml; omega) hs0.ok) (fun r h1 hr => ?_)
  obtain ⟨g1, f1⟩ := hr
  refine stp ?_
  have e3 : (l.map SE.ent).filter (fun e => decide (e.k = k)) = (onlyS k l).map SE.ent := by
    unfold onlyS
    rw [List.filter_map]
    rfl
  rw [e3] at g1
  refine ⟨hs0.less _ f1 g1, (F0.mono fun _ _ e => e.elim).trans' f1, fun i hi => ?_⟩
  rcases hi with h1 | h1 | ⟨e, he, h1⟩
  · exact .inl h1
  · exact .inr (.inl h1)
  · exact .inr (.inr ⟨e, (List.mem_filter.1 he).1, h1⟩)
end Go.Proofs.Ytmhnddkpiefkhaa.A

namespace Go.Proofs.Ytmhnddkpiefkhaa.A
open Go Go.Vm
set_option maxRecDepth 10000
set_option linter.unusedVariables false
structure KK where
  k : Int
  v : Bool
  p : Bool
  deriving DecidableEq
abbrev KK.cells (e : KK) : List Value := [.int .i64 e.k, .bool e.v, .bool e.p]
def SE.kk (e : SE) : KK := ⟨e.k, e.v, e.p⟩
def kkcells (l : List KK) : List Value := l.flatMap KK.cells
theorem kkcells_append (l m : List KK) : kkcells (l ++ m) = kkcells l ++ kkcells m := by simp [kkcells]
theorem one_kk {h : Heap} {e : KK} {es : Nat} : newCells (h.push (.cells e.cells es)) 3 [.int .i64 0, .bool false, .bool false] false (.slice (some ⟨h.n, 0, none⟩) 1 1) = some (1, e.cells) :=
  (Rd.mk (size := 3) (n := 1) (cap := 1) (sp := none) (o := 0) (b := h.n) (c := e.cells) (by simp) (by rw [cellsAt_of (c := e.cells) (by rw [Heap.get_push, if_pos rfl]; rfl) (by simp)]; rfl)).new _
set_option maxHeartbeats 8000000 in
theorem List_ok {h : Heap} {p m c : Nat} {room : Int} {l : List SE} (hs : StAt h p m c room l) (hlen : l.length < 100000) :
    Runs Try.prog T0 (.fn fn_zkbQ) [.pointer (some ⟨p, 0, none⟩)] h
      (fun r h' => ∃ L : List SE, L.Perm l ∧ (L.map SE.k).Pairwise (· ≤ ·) ∧ Own h' 3 r (kkcells (L.map SE.kk)) (L.map SE.kk).length ∧ (∀ i, ownedBy r i → h.n ≤ i) ∧ Fr (fun _ => False) h h') (fun _ _ => False) := by
  refine zkbQ_runs ?_
  refine stp ?_
  refine O.call' (snone_ok hs) (fun r h hr => ?_)
  obtain ⟨rfl, rfl⟩ := hr
  refine stp ?_
  refine O.call' (rising_ok hs.gp hs.pl hs.gm hs.ml hs.ok (by simpa using hlen)) (fun r h1 hr => ?_)
  obtain ⟨R, hR, hsort, ho, hnew, f1⟩ := hr
  have hs1 := hs.keep f1 fun _ _ => id
  obtain ⟨a, cap, rfl, hl1, hc⟩ := id ho.rd
  have hRl : R.length = l.length := by have := hR.length_eq; simpa using this
  refine stp ?_
  have hpn : ∀ y ∈ l, ∃ i, i < R.length ∧ R.getD i 0 = y.k := fun y hy => by
    have h1 : y.k ∈ R := hR.mem_iff.2 (List.mem_map.2 ⟨y.ent, List.mem_map.2 ⟨y, hy, rfl⟩, rfl⟩)
    obtain ⟨i, hi, he⟩ := List.getElem_of_mem h1
    exact ⟨i, hi, by simp [List.getD, hi, he]⟩
  refine loop2 zkbQ_l0_M 2 11 (fun q v2 v11 hx => ∃ (i : Nat) (L : List SE), i ≤ R.length ∧ q = R.length - i ∧ v11 = .int .i64 i ∧ (∀ y ∈ L, y ∈ l) ∧ L.map SE.k = R.take i ∧ Own hx 3 v2 (kkcells (L.map SE.kk)) (L.map SE.kk).length ∧ (∀ i, ownedBy v2 i → h1.n ≤ i) ∧ Fr (fun _ => False) h1 hx) ?_ R.length
    ⟨0, [], by omega, rfl, rfl, by simp, by simp, .none, fun i hi => hi.elim, Fr.refl⟩
  rintro m v2 v11 h' x4 x5 x12 x13 x14 x15 x16 x17 x18 x19 x20 x21 x22 x23 x24 x25 x26 x27 x28 x29 x30 x31 x32 x33 x34 ⟨i, L, hi, rfl, rfl, hLl, hLk, hoL, hnL, hF⟩
  refine stp ?_
  refine C.if (fun hlt => ?_) (fun hge => ?_)
  · have hlt : i < R.length := by omega
    obtain ⟨b, o, sp, rfl, hb, hcc⟩ := hc (by omega)
    haveI : Cell h' b (o + i) (.int .i64 (R.getD i 0)) := ncell_at (n := R.length) (by rw [cellsAt_keep hF hb id]; exact hcc) rfl hlt
    have hsx := hs1.keep hF fun _ _ => id
    have hki : R.getD i 0 ∈ R := by
      rw [List.getD_eq_getElem?_getD, List.getElem?_eq_getElem hlt]
      exact List.getElem_mem hlt
    obtain ⟨e, he, hek⟩ := List.mem_map.1 (hR.mem_iff.1 hki)
    obtain ⟨y, hy, rfl⟩ := List.mem_map.1 he
    have hyk : y.k = R.getD i 0 := hek
    have ha := hsx.ats y hy
    haveI := l32 ha.hd.prev
    haveI := l32 ha.hd.vals
    haveI := l32 ha.hd.next
    haveI := l32 ha.hd.app
    haveI := l32 ha.hash
    haveI : HGet h' p _ := ⟨hsx.gp⟩
    haveI : HGet h' m _ := ⟨hsx.gm⟩
    haveI : HGet h' y.b _ := ⟨ha.get⟩
    refine stp ?_
    rw [← hyk]
    refine O.how (v := .pointer (some ⟨y.b, 0, none⟩)) (XOp.lookupYes1 (l := l.map SE.ent) (c := c) (e := y.ent) he hsx.ok rfl) ?_
    refine stp ?_
    have hLlen : L.length = i := by have := congrArg List.length hLk; simp at this; omega
    refine D.oneS ?_
    refine stp ?_
    refine D.append (d := KK.cells (SE.kk y)) (hoL.keep (S := fun _ => False) Fr.refl.push fun _ _ => id) (one_kk (e := SE.kk y)) rfl rfl (by omega) (by omega) (by rw [List.length_map]; omega) (fun v6 h6 ho6 hf6 hn6 => ?_)
    have q6 := hf6.n
    have qF := hF.n
    simp only [Heap.n_push] at q6 hn6
    refine stp ?_
    refine loop2a 2 11 (R.length - (i + 1)) (by omega) ⟨i + 1, L ++ [y], by omega, rfl, rfl, fun z hz => ?_, ?_, ?_, fun j hj => ?_, hF.trans ((Fr.refl.push).trans' (S := ownedBy _) hf6) fun j hj e => by have := hnL j e; omega⟩
    · rcases List.mem_append.1 hz with h1 | h1
      · exact hLl z h1
      · rw [List.mem_singleton.1 h1]; exact hy
    · rw [List.map_append, hLk, List.take_add_one, List.getElem?_eq_getElem hlt]
      have : R[i] = y.k := by rw [hyk, List.getD_eq_getElem?_getD, List.getElem?_eq_getElem hlt]; rfl
      rw [this]
      rfl
    · rw [List.map_append, kkcells_append, List.length_append]
      have e1 : kkcells ([y].map SE.kk) = KK.cells (SE.kk y) := by simp [kkcells]
      rw [e1]
      exact ho6
    · rcases hn6 j hj with h7 | h7
      · exact hnL j h7
      · omega
  · refine stp ?_
    obtain rfl : i = R.length := by omega
    rw [List.take_length] at hLk
    refine ⟨L, ?_, by rw [hLk]; exact hsort, hoL, fun j hj => by have := hnL j hj; have := f1.n; omega, f1.trans' hF⟩
    have hkn : (l.map SE.k).Nodup := by have := hs.ok.k; rw [List.map_map] at this; exact this
    have hRk : R.Perm (l.map SE.k) := by rw [List.map_map] at hR; exact hR
    have hLn : (L.map SE.k).Nodup := by rw [hLk]; exact (hRk.nodup_iff).2 hkn
    refine perm_of_same (nodup_of_map _ hLn) (nodup_of_map _ hkn) fun z => ⟨hLl z, fun hz => ?_⟩
    have h1 : z.k ∈ L.map SE.k := by rw [hLk]; exact hRk.mem_iff.2 (List.mem_map.2 ⟨z, hz, rfl⟩)
    obtain ⟨z', hz', he⟩ := List.mem_map.1 h1
    have : z' = z := inj_of_nodup hkn (hLl z' hz') hz he
    rwa [this] at hz'
end Go.Proofs.Ytmhnddkpiefkhaa.A

namespace Go.Proofs.Ytmhnddkpiefkhaa.A
open Go Go.Vm
set_option maxRecDepth 10000
set_option linter.unusedVariables false
def pickS (x n : Int) : Int := if n ≤ 0 then 0 else x % n
theorem Pick_ok {h : Heap} {x n : Int} (hn : n ≤ 9223372036854775807) : Runs Try.prog T0 (.fn fn_zhQ) [.int .i64 x, .int .i64 n] h (fun r h' => r = .int .i64 (pickS x n) ∧ h' = h) (fun _ _ => False) := by
  refine zhQ_runs ?_
  refine stp ?_
  unfold pickS
  refine C.if (fun h0 => ?_) (fun h0 => ?_)
  · refine stp ?_
    rw [if_pos h0]
    exact ⟨rfl, rfl⟩
  · refine stp ?_
    refine O.how (XOp.remI (by omega)) ?_
    have h1 := Int.tmod_lt_of_pos x (show 0 < n by omega)
    have h2 : -n < x.tmod n := by
      have := Int.lt_tmod_of_pos x (show 0 < n by omega)
      omega
    have e := Int.tmod_eq_emod (a := x) (b := n)
    have p1 := Int.emod_nonneg x (show n ≠ 0 by omega)
    have p2 := Int.emod_lt_of_pos x (show 0 < n by omega)
    have p3 : (n.natAbs : Int) = n := Int.natAbs_of_nonneg (by omega)
    refine stp ?_
    rw [if_neg h0]
    refine C.if (fun h3 => ?_) (fun h3 => ?_)
    · refine stp ?_
      refine ⟨?_, rfl⟩
      congr 1
      split at e <;> omega
    · refine stp ?_
      refine ⟨?_, rfl⟩
      congr 1
      split at e <;> omega
end Go.Proofs.Ytmhnddkpiefkhaa.A

namespace Go.Proofs.Ytmhnddkpiefkhaa.A
open Go Go.Vm
set_option maxRecDepth 10000
set_option linter.unusedVariables false
instance : DecidableEq Vote := fun ⟨a, s⟩ ⟨b, t⟩ => if h : a = b ∧ s = t then .isTrue (by rw [h.1, h.2]) else .isFalse (fun e => h (by injection e with e1 e2; exact ⟨e1, e2⟩))
theorem same_vote {v w : Vote} : same v.cells w.cells = decide (v = w) := by
  by_cases h : v = w
  · rw [h, same_self, decide_eq_true rfl]
  · rw [decide_eq_false h, same_ne]
    intro e
    apply h
    obtain ⟨a, s⟩ := v
    obtain ⟨b, t⟩ := w
    simp only [Vote.cells, List.cons.injEq, Value.int.injEq, true_and, and_true] at e
    obtain ⟨e1, e2⟩ := e
    rw [e1, show s = t from by omega]
theorem take_next {α : Type} {l m : List α} {z : α} {k : Nat} (h1 : k < l.length) (h2 : k < m.length) : l.take (k + 1) = m.take (k + 1) ↔ l.take k = m.take k ∧ l.getD k z = m.getD k z := by
  have g1 : l.getD k z = l[k] := by simp [List.getD_eq_getElem?_getD, h1]
  have g2 : m.getD k z = m[k] := by simp [List.getD_eq_getElem?_getD, h2]
  rw [List.take_succ_eq_append_getElem h1, List.take_succ_eq_append_getElem h2, g1, g2]
  constructor
  · intro h
    have h3 := List.append_inj h (by simp; omega)
    exact ⟨h3.1, by simpa using h3.2⟩
  · rintro ⟨e1, e2⟩
    rw [e1, e2]
theorem SameVotes_ok {h : Heap} {v w : Value} {l m : List Vote} (hv : Rd h 2 v (tcells l) l.length) (hw : Rd h 2 w (tcells m) m.length) (hs : l.length < 1048576) (ht : m.length < 1048576) :
    Runs Try.prog T0 (.fn fn_zmQ) [v, w] h (fun r h' => r = .bool (decide (l = m)) ∧ h' = h) (fun _ _ => False) := by
  obtain ⟨a, cap, rfl, hlen, hc⟩ := hv
  obtain ⟨a', cap', rfl, hlen', hc'⟩ := hw
  refine zmQ_runs ?_
  refine stp ?_
  refine loop2 zmQ_l0_M 5 6 (fun q v5 v6 h' => ∃ (k : Nat) (B : Bool), k ≤ l.length ∧ q = l.length - k ∧ v6 = .int .i64 k ∧ v5 = .bool B ∧ (B = true ↔ l.length = m.length ∧ l.take k = m.take k) ∧ h' = h) ?_ l.length ⟨0, _, by omega, rfl, rfl, rfl, by simp; omega, rfl⟩
  rintro m v5 v6 h' x12 x13 x14 x15 x16 x17 x18 x19 x20 x21 x22 x23 x24 x25 x26 x27 x28 x29 ⟨k, B, hk, rfl, rfl, rfl, hB, rfl⟩
  cases B with
  | false =>
    refine stp ?_
    have hne : l ≠ m := fun e => by have := hB.2 ⟨by rw [e], by rw [e]⟩; cases this
    rw [decide_eq_false hne]
    exact ⟨rfl, rfl⟩
  | true =>
    obtain ⟨hl1, hl2⟩ := hB.1 rfl
    refine stp ?_
    refine C.if (fun hlt => ?_) (fun hge => ?_)
    · have hlt : k < l.length := by omega
      obtain ⟨b, o, sp, rfl, hb, hcc⟩ := hc (by omega)
      obtain ⟨b', o', sp', rfl, hb', hcc'⟩ := hc' (by omega)
      haveI := vote_cells hcc rfl hlt
      haveI := vote_cells hcc' rfl (show k < m.length by omega)
      refine stp ?_
      rw [same_vote]
      exact loop2a 5 6 (l.length - (k + 1)) (by omega) ⟨k + 1, _, by omega, rfl, rfl, rfl, by rw [decide_eq_true_eq, take_next (z := zVote) hlt (by omega)]; exact ⟨fun e => ⟨hl1, hl2, e⟩, fun e => e.2.2⟩, rfl⟩
    · refine stp ?_
      have e : l = m := by
        have h1 : l.take l.length = m.take l.length := by rw [show l.length = k by omega]; exact hl2
        rwa [List.take_length, hl1, List.take_length] at h1
      rw [decide_eq_true e]
      exact ⟨rfl, rfl⟩
end Go.Proofs.Ytmhnddkpiefkhaa.A

namespace Go.Proofs.Ytmhnddkpiefkhaa.A
open Go Go.Vm
set_option maxRecDepth 10000
set_option linter.unusedVariables false
theorem u8_of {a b : UInt8} (h : (a.toNat : Int) = (b.toNat : Int)) : a = b := by
  apply UInt8.toNat_inj.1
  omega
theorem same_val {v w : Val} : same v.cells w.cells = decide (v = w) := by
  by_cases h : v = w
  · rw [h, same_self, decide_eq_true rfl]
  · rw [decide_eq_false h, same_ne]
    intro e
    apply h
    obtain ⟨a0, a1, a2, a3, p⟩ := v
    obtain ⟨b0, b1, b2, b3, q⟩ := w
    simp only [Val.cells, List.cons.injEq, Value.int.injEq, true_and, and_true] at e
    obtain ⟨e0, e1, e2, e3, e4⟩ := e
    rw [u8_of e0, u8_of e1, u8_of e2, u8_of e3, e4]
theorem SameVals_ok {h : Heap} {v w : Value} {l m : List Val} (hv : Rd h 5 v (vcells l) l.length) (hw : Rd h 5 w (vcells m) m.length) (hs : l.length < 1048576) (ht : m.length < 1048576) :
    Runs Try.prog T0 (.fn fn_zlQ) [v, w] h (fun r h' => r = .bool (decide (l = m)) ∧ h' = h) (fun _ _ => False) := by
  obtain ⟨a, cap, rfl, hlen, hc⟩ := hv
  obtain ⟨a', cap', rfl, hlen', hc'⟩ := hw
  refine zlQ_runs ?_
  refine stp ?_
  refine loop2 zlQ_l0_M 5 6 (fun q v5 v6 h' => ∃ (k : Nat) (B : Bool), k ≤ l.length ∧ q = l.length - k ∧ v6 = .int .i64 k ∧ v5 = .bool B ∧ (B = true ↔ l.length = m.length ∧ l.take k = m.take k) ∧ h' = h) ?_ l.length ⟨0, _, by omega, rfl, rfl, rfl, by simp; omega, rfl⟩
  rintro m v5 v6 h' x12 x13 x14 x15 x16 x17 x18 x19 x20 x21 x22 x23 x24 x25 x26 x27 x28 x29 ⟨k, B, hk, rfl, rfl, rfl, hB, rfl⟩
  cases B with
  | false =>
    refine stp ?_
    have hne : l ≠ m := fun e => by have := hB.2 ⟨by rw [e], by rw [e]⟩; cases this
    rw [decide_eq_false hne]
    exact ⟨rfl, rfl⟩
  | true =>
    obtain ⟨hl1, hl2⟩ := hB.1 rfl
    refine stp ?_
    refine C.if (fun hlt => ?_) (fun hge => ?_)
    · have hlt : k < l.length := by omega
      obtain ⟨b, o, sp, rfl, hb, hcc⟩ := hc (by omega)
      obtain ⟨b', o', sp', rfl, hb', hcc'⟩ := hc' (by omega)
      haveI := val_cells hcc rfl hlt
      haveI := val_cells hcc' rfl (show k < m.length by omega)
      refine stp ?_
      rw [same_val]
      exact loop2a 5 6 (l.length - (k + 1)) (by omega) ⟨k + 1, _, by omega, rfl, rfl, rfl, by rw [decide_eq_true_eq, take_next (z := zVal) hlt (by omega)]; exact ⟨fun e => ⟨hl1, hl2, e⟩, fun e => e.2.2⟩, rfl⟩
    · refine stp ?_
      have e : l = m := by
        have h1 : l.take l.length = m.take l.length := by rw [show l.length = k by omega]; exact hl2
        rwa [List.take_length, hl1, List.take_length] at h1
      rw [decide_eq_true e]
      exact ⟨rfl, rfl⟩
end Go.Proofs.Ytmhnddkpiefkhaa.A

namespace Go.Proofs.Ytmhnddkpiefkhaa.A
open Go Go.Vm
set_option maxRecDepth 10000
set_option linter.unusedVariables false
theorem bcells_eq : ∀ {l m : List UInt8}, bcells l = bcells m → l = m
  | [], [], _ => rfl
  | [], _ :: _, h => by simp [bcells] at h
  | _ :: _, [], h => by simp [bcells] at h
  | a :: l, b :: m, h => by
    simp only [bcells, List.map_cons, List.cons.injEq, Value.int.injEq, true_and] at h
    rw [u8_of h.1, bcells_eq (l := l) (m := m) h.2]
theorem same_bytes {l m : List UInt8} : same (bcells l) (bcells m) = decide (l = m) := by
  by_cases h : l = m
  · rw [h, same_self, decide_eq_true rfl]
  · rw [decide_eq_false h, same_ne]
    exact fun e => h (bcells_eq e)
theorem SameCommit_ok {h : Heap} {x y : Cm} {sv sw : Value} (hx : x.hash.length = 32) (hy : y.hash.length = 32) (hs : x.votes.length < 1048576) (ht : y.votes.length < 1048576) (hv : Rd h 2 sv (tcells x.votes) x.votes.length) (hw : Rd h 2 sw (tcells y.votes) y.votes.length) :
    Runs Try.prog T0 (.fn fn_zjQ) [.agg ⟨x.cells sv⟩, .agg ⟨y.cells sw⟩] h (fun r h' => r = .bool (decide (x.height = y.height ∧ x.hash = y.hash ∧ x.votes = y.votes)) ∧ Fr (fun _ => False) h h') (fun _ _ => False) := by
  haveI := l32 hx
  haveI := l32 hy
  refine zjQ_runs ?_
  refine stp ?_
  refine O.dec (fun e1 => ?_) (fun e1 => ?_)
  · refine stp ?_
    rw [same_bytes]
    refine stp ?_
    refine O.dec (fun e2 => ?_) (fun e2 => ?_)
    · refine stp ?_
      refine O.callT (SameVotes_ok (hv.keep (S := fun _ => False) Fr.refl.push.push fun _ _ => id) (hw.keep (S := fun _ => False) Fr.refl.push.push fun _ _ => id) hs ht) (fun r h1 hr => ?_)
      obtain ⟨rfl, rfl⟩ := hr
      refine stp ?_
      exact ⟨by simp [e1, e2], Fr.refl.push.push⟩
    · refine stp ?_
      exact ⟨by simp [e2], Fr.refl.push.push⟩
  · refine stp ?_
    exact ⟨by simp [e1], Fr.refl.push.push⟩
end Go.Proofs.Ytmhnddkpiefkhaa.A

namespace Go.Proofs.Ytmhnddkpiefkhaa.A
open Go Go.Vm
set_option maxRecDepth 10000
set_option linter.unusedVariables false
def sameB (x y : Bk) : Bool := same x.h.cells y.h.cells && (decide (x.c.height = y.c.height ∧ x.c.hash = y.c.hash ∧ x.c.votes = y.c.votes) && decide (x.vals = y.vals))
set_option maxHeartbeats 4000000 in
theorem SameBlock_ok {h : Heap} {x y : Bk} {sv sl sw sm : Value} (hx : BkRd h x sv sl) (hy : BkRd h y sw sm) (h1 : x.c.votes.length < 1048576) (h2 : x.vals.length < 1048576) (h3 : y.c.votes.length < 1048576) (h4 : y.vals.length < 1048576) :
    Runs Try.prog T0 (.fn fn_ziQ) [.agg ⟨x.cells sv sl⟩, .agg ⟨y.cells sw sm⟩] h (fun r h' => r = .bool (sameB x y) ∧ Fr (fun _ => False) h h') (fun _ _ => False) := by
  haveI := l32 hx.hd.prev
  haveI := l32 hx.hd.vals
  haveI := l32 hx.hd.next
  haveI := l32 hx.hd.app
  haveI := l32 hx.hash
  haveI := l32 hy.hd.prev
  haveI := l32 hy.hd.vals
  haveI := l32 hy.hd.next
  haveI := l32 hy.hd.app
  haveI := l32 hy.hash
  obtain ⟨a1, c1, rfl, _, _⟩ := id hx.sv
  obtain ⟨a2, c2, rfl, _, _⟩ := id hx.sl
  obtain ⟨a3, c3, rfl, _, _⟩ := id hy.sv
  obtain ⟨a4, c4, rfl, _, _⟩ := id hy.sl
  refine ziQ_runs ?_
  refine stp ?_
  generalize hh0 : (h.push (.cells (x.cells (.slice a1 x.c.votes.length c1) (.slice a2 x.vals.length c2)) 0)).push (.cells (y.cells (.slice a3 y.c.votes.length c3) (.slice a4 y.vals.length c4)) 0) = h0
  generalize hb : (h.push (.cells (x.cells (.slice a1 x.c.votes.length c1) (.slice a2 x.vals.length c2)) 0)).n = b
  have hf0 : Fr (fun _ => False) h h0 := by rw [← hh0]; exact Fr.refl.push.push
  have hA : HGet h0 h.n (.cells (x.cells (.slice a1 x.c.votes.length c1) (.slice a2 x.vals.length c2)) 0) := by rw [← hh0]; exact HGet.push (k := BLt.new) (g := HGet.new)
  have hB : HGet h0 b (.cells (y.cells (.slice a3 y.c.votes.length c3) (.slice a4 y.vals.length c4)) 0) := by rw [← hh0, ← hb]; exact HGet.new
  have hb' : b = h.n + 1 := by rw [← hb]; rfl
  have hn0 : h0.n = h.n + 2 := by rw [← hh0]; rfl
  clear hh0 hb
  haveI := hA
  haveI := hB
  refine stp ?_
  unfold sameB
  generalize hS : same x.h.cells y.h.cells = S
  have hS' := hS
  simp only [Hd.cells] at hS'
  try rw [hS']
  cases S with
  | false =>
    refine stp ?_
    exact ⟨rfl, hf0⟩
  | true =>
    refine stp ?_
    refine O.callT (SameCommit_ok hx.hash hy.hash h1 h3 (hx.sv.keep hf0 fun _ _ => id) (hy.sv.keep hf0 fun _ _ => id)) (fun r h5 hr => ?_)
    obtain ⟨rfl, hf5⟩ := hr
    haveI := hf5.keep hA (by omega) id
    haveI := hf5.keep hB (by omega) id
    have hf05 := hf0.trans' hf5
    refine stp ?_
    refine O.dec (fun e1 => ?_) (fun e1 => ?_)
    · refine stp ?_
      refine O.callT (SameVals_ok (hx.sl.keep hf05 fun _ _ => id) (hy.sl.keep hf05 fun _ _ => id) h2 h4) (fun r h6 hr => ?_)
      obtain ⟨rfl, rfl⟩ := hr
      refine stp ?_
      exact ⟨by simp [e1], hf05⟩
    · refine stp ?_
      exact ⟨by rw [decide_eq_false e1]; rfl, hf05⟩
end Go.Proofs.Ytmhnddkpiefkhaa.A

namespace Go.Proofs.Ytmhnddkpiefkhaa.A
open Go Go.Vm
set_option maxRecDepth 10000
set_option linter.unusedVariables false
theorem u8nat {n : Nat} (h : n < 256) : (UInt8.ofNat n).toNat = n := by
  rw [UInt8.toNat_ofNat']
  exact Nat.mod_eq_of_lt h
end Go.Proofs.Ytmhnddkpiefkhaa.A

namespace Go.Proofs.Ytmhnddkpiefkhaa.A
open Go Go.Vm
set_option maxRecDepth 10000
set_option linter.unusedVariables false
theorem fits_bytes {h : Heap} {m : Nat} {te : TypeId} {c : List Value} {len : Nat} (hu : Try.prog.underlying te = some (.int .u8)) (hs : Try.prog.cellsOf te = 1) (hl : c.length = len * Try.prog.cellsOf te) (hall : ∀ i, i < len → Fits Try.prog h (m + 1) te ((c.drop (i * Try.prog.cellsOf te)).take (Try.prog.cellsOf te))) : ∃ bs : List UInt8, c = bcells bs ∧ bs.length = len := by
  rw [hs, Nat.mul_one] at hl
  induction c generalizing len with
  | nil => exact ⟨[], rfl, by simpa using hl⟩
  | cons v c ih =>
    cases len with
    | zero => simp at hl
    | succ len =>
      have h0 := hall 0 (by omega)
      rw [hs] at h0
      unfold Fits at h0
      rw [hu] at h0
      simp only [Nat.zero_mul, List.drop_zero, List.take_succ_cons, List.take_zero] at h0
      obtain ⟨x, hx, hwf⟩ := h0
      injection hx with hx _
      obtain ⟨bs, rfl, hb⟩ := ih (len := len) (by simpa using hl) fun i hi => by
        have := hall (i + 1) (by omega)
        rw [hs] at this ⊢
        simpa using this
      have hr : 0 ≤ x ∧ x ≤ 255 := by
        simp [Lit.wf, IntKind.min, IntKind.max, IntKind.signed, IntKind.bits] at hwf
        omega
      refine ⟨UInt8.ofNat x.toNat :: bs, ?_, by simp [hb]⟩
      rw [hx]
      show Value.int .u8 x :: bcells bs = Value.int .u8 ((UInt8.ofNat x.toNat).toNat : Nat) :: bcells bs
      rw [u8nat (by omega)]
      congr 2
      omega
end Go.Proofs.Ytmhnddkpiefkhaa.A

namespace Go.Proofs.Ytmhnddkpiefkhaa.A
open Go Go.Vm
set_option maxRecDepth 10000
set_option linter.unusedVariables false
theorem fits_flat32 {h : Heap} {m : Nat} {t te : TypeId} {c : List Value} (ht : Try.prog.underlying t = some (.array 32 te)) (hu : Try.prog.underlying te = some (.int .u8)) (hs : Try.prog.cellsOf te = 1) (hs32 : Try.prog.cellsOf t = 32) (hv : Fits Try.prog h (m + 2) t c) : ∃ bs : List UInt8, c = bcells bs ∧ bs.length = 32 := by
  unfold Fits at hv
  rw [ht] at hv
  exact fits_bytes hu hs (by rw [hv.1, hs32, hs]) hv.2
theorem fits_header {h : Heap} {m : Nat} {t ts ti th tb : TypeId} {c : List Value} (f0 : fieldAt Try.prog t 0 = some (0, ts)) (f1 : fieldAt Try.prog t 1 = some (1, ti)) (f2 : fieldAt Try.prog t 2 = some (2, ti)) (f3 : fieldAt Try.prog t 3 = some (3, th)) (f4 : fieldAt Try.prog t 4 = some (35, th)) (f5 : fieldAt Try.prog t 5 = some (67, th)) (f6 : fieldAt Try.prog t 6 = some (99, th))
    (us : Try.prog.underlying ts = some .string) (ui : Try.prog.underlying ti = some (.int .i64)) (uh : Try.prog.underlying th = some (.array 32 tb)) (ub : Try.prog.underlying tb = some (.int .u8)) (c0 : Try.prog.cellsOf ts = 1) (c1 : Try.prog.cellsOf ti = 1) (c3 : Try.prog.cellsOf th = 32) (cb : Try.prog.cellsOf tb = 1) (ct : Try.prog.cellsOf t = 131)
    (hv : Fits Try.prog h (m + 3) t c) : ∃ x : Hd, x.ok ∧ (-9223372036854775808 ≤ x.height ∧ x.height ≤ 9223372036854775807) ∧ (-9223372036854775808 ≤ x.time ∧ x.time ≤ 9223372036854775807) ∧ c = x.cells := by
  have hl := hv.len f0
  rw [ct] at hl
  obtain ⟨s, g0, _⟩ := (hv.field f0).str us
  obtain ⟨a, g1, w1⟩ := (hv.field f1).int ui
  obtain ⟨b, g2, w2⟩ := (hv.field f2).int ui
  obtain ⟨l3, g3, n3⟩ := fits_flat32 uh ub cb c3 (hv.field f3)
  obtain ⟨l4, g4, n4⟩ := fits_flat32 uh ub cb c3 (hv.field f4)
  obtain ⟨l5, g5, n5⟩ := fits_flat32 uh ub cb c3 (hv.field f5)
  obtain ⟨l6, g6, n6⟩ := fits_flat32 uh ub cb c3 (hv.field f6)
  rw [c0] at g0
  rw [c1] at g1 g2
  rw [c3] at g3 g4 g5 g6
  refine ⟨⟨s.data.toList, a, b, l3, l4, l5, l6⟩, ⟨n3, n4, n5, n6⟩, wf_i64 w1, wf_i64 w2, ?_⟩
  rw [← List.drop_zero (l := c), vsplit c 0 1, g0, vsplit c (0 + 1) 1, g1, vsplit c (0 + 1 + 1) 1, g2, vsplit c (0 + 1 + 1 + 1) 32, g3, vsplit c (0 + 1 + 1 + 1 + 32) 32, g4, vsplit c (0 + 1 + 1 + 1 + 32 + 32) 32, g5, vsplit c (0 + 1 + 1 + 1 + 32 + 32 + 32) 32, g6,
    show c.drop (0 + 1 + 1 + 1 + 32 + 32 + 32 + 32) = [] from List.drop_eq_nil_of_le (by omega), List.append_nil]
  rfl
end Go.Proofs.Ytmhnddkpiefkhaa.A

namespace Go.Proofs.Ytmhnddkpiefkhaa.A
open Go Go.Vm
set_option maxRecDepth 10000
set_option linter.unusedVariables false
theorem four {l : List UInt8} (h : l.length = 4) : ∃ a b c d, l = [a, b, c, d] := by
  match l, h with
  | [a, b, c, d], _ => exact ⟨a, b, c, d, rfl⟩
end Go.Proofs.Ytmhnddkpiefkhaa.A

namespace Go.Proofs.Ytmhnddkpiefkhaa.A
open Go Go.Vm
set_option maxRecDepth 100000
set_option linter.unusedVariables false
theorem vals_cells_fit {h : Heap} {m : Nat} {te tk tb ti : TypeId} (f0 : fieldAt Try.prog te 0 = some (0, tk)) (f1 : fieldAt Try.prog te 1 = some (4, ti)) (uk : Try.prog.underlying tk = some (.array 4 tb)) (ub : Try.prog.underlying tb = some (.int .u8)) (ui : Try.prog.underlying ti = some (.int .i64))
    (ce : Try.prog.cellsOf te = 5) (ck : Try.prog.cellsOf tk = 4) (cb : Try.prog.cellsOf tb = 1) (ci : Try.prog.cellsOf ti = 1) : ∀ (len : Nat) (c : List Value), c.length = len * 5 → (∀ i, i < len → Fits Try.prog h (m + 3) te ((c.drop (i * 5)).take 5)) →
    ∃ l : List Val, c = vcells l ∧ l.length = len ∧ ∀ v ∈ l, -9223372036854775808 ≤ v.p ∧ v.p ≤ 9223372036854775807
  | 0, c, hl, _ => ⟨[], by rw [vcells_nil]; simpa using hl, rfl, fun v hv => by cases hv⟩
  | len + 1, c, hl, hall => by
    have h0 := hall 0 (by omega)
    rw [Nat.zero_mul, List.drop_zero] at h0
    have hk := h0.field f0
    obtain ⟨p, g1, w1⟩ := (h0.field f1).int ui
    rw [ck] at hk
    rw [ci] at g1
    rw [List.drop_zero] at hk
    have h4 : (c.take 5).take 4 = c.take 4 := by rw [List.take_take]; rfl
    rw [h4] at hk
    have hb : ∃ bs : List UInt8, c.take 4 = bcells bs ∧ bs.length = 4 := by
      unfold Fits at hk
      rw [uk] at hk
      exact fits_bytes ub cb (by rw [hk.1, ck, cb]) hk.2
    obtain ⟨bs, hb1, hb2⟩ := hb
    obtain ⟨a0, a1, a2, a3, rfl⟩ := four hb2
    obtain ⟨l, e1, e2, e3⟩ := vals_cells_fit f0 f1 uk ub ui ce ck cb ci len (c.drop 5) (by rw [List.length_drop]; omega) fun i hi => by
      have := hall (i + 1) (by omega)
      rw [List.drop_drop]
      rw [show (i + 1) * 5 = 5 + i * 5 from by omega] at this
      exact this
    refine ⟨⟨a0, a1, a2, a3, p⟩ :: l, ?_, by simp [e2], fun v hv => ?_⟩
    · rw [vcells_cons, ← e1]
      have e5 : c = c.take 5 ++ c.drop 5 := (List.take_append_drop 5 c).symm
      have e6 : c.take 5 = c.take 4 ++ ((c.take 5).drop 4).take 1 := by
        have h1 : ((c.take 5).drop 4).take 1 = (c.take 5).drop 4 := List.take_of_length_le (by rw [List.length_drop, List.length_take]; omega)
        rw [h1, ← h4, List.take_append_drop]
      conv => lhs; rw [e5, e6, hb1, g1]
      rfl
    · rcases List.mem_cons.1 hv with rfl | hv
      · exact wf_i64 w1
      · exact e3 v hv
end Go.Proofs.Ytmhnddkpiefkhaa.A

namespace Go.Proofs.Ytmhnddkpiefkhaa.A
open Go Go.Vm
set_option maxRecDepth 100000
set_option linter.unusedVariables false
theorem wf_u64 {x : Int} (h : (Lit.int .u64 x).wf = true) : 0 ≤ x ∧ x ≤ 18446744073709551615 := by
  simp [Lit.wf, IntKind.min, IntKind.max, IntKind.signed, IntKind.bits] at h
  omega
theorem votes_cells_fit {h : Heap} {m : Nat} {te ti tu : TypeId} (f0 : fieldAt Try.prog te 0 = some (0, ti)) (f1 : fieldAt Try.prog te 1 = some (1, tu)) (ui : Try.prog.underlying ti = some (.int .i64)) (uu : Try.prog.underlying tu = some (.int .u64))
    (ce : Try.prog.cellsOf te = 2) (ci : Try.prog.cellsOf ti = 1) (cu : Try.prog.cellsOf tu = 1) : ∀ (len : Nat) (c : List Value), c.length = len * 2 → (∀ i, i < len → Fits Try.prog h (m + 2) te ((c.drop (i * 2)).take 2)) →
    ∃ l : List Vote, c = tcells l ∧ l.length = len
  | 0, c, hl, _ => ⟨[], by rw [tcells_nil]; simpa using hl, rfl⟩
  | len + 1, c, hl, hall => by
    have h0 := hall 0 (by omega)
    rw [Nat.zero_mul, List.drop_zero] at h0
    obtain ⟨a, g0, w0⟩ := (h0.field f0).int ui
    obtain ⟨p, g1, w1⟩ := (h0.field f1).int uu
    rw [ci] at g0
    rw [cu] at g1
    obtain ⟨l, e1, e2⟩ := votes_cells_fit f0 f1 ui uu ce ci cu len (c.drop 2) (by rw [List.length_drop]; omega) fun i hi => by
      have := hall (i + 1) (by omega)
      rw [List.drop_drop]
      rw [show (i + 1) * 2 = 2 + i * 2 from by omega] at this
      exact this
    have hp := wf_u64 w1
    refine ⟨⟨a, p.toNat⟩ :: l, ?_, by simp [e2]⟩
    rw [tcells_cons, ← e1]
    match c, hl with
    | [], hl => simp at hl
    | [u], hl => simp at hl; omega
    | u :: w :: c, hl =>
      have g0 : [u] = [Value.int .i64 a] := g0
      have g1 : [w] = [Value.int .u64 p] := g1
      have g0 : u = Value.int .i64 a := by injection g0
      have g1 : w = Value.int .u64 p := by injection g1
      rw [g0, g1]
      show _ = [Value.int .i64 a, Value.int .u64 ((p.toNat : Nat) : Int)] ++ c
      rw [show ((p.toNat : Nat) : Int) = p from by omega]
      rfl
theorem fits_votes {h : Heap} {m : Nat} {t te ti tu : TypeId} {cs : List Value} (ht : Try.prog.underlying t = some (.slice te)) (f0 : fieldAt Try.prog te 0 = some (0, ti)) (f1 : fieldAt Try.prog te 1 = some (1, tu)) (ui : Try.prog.underlying ti = some (.int .i64)) (uu : Try.prog.underlying tu = some (.int .u64))
    (ce : Try.prog.cellsOf te = 2) (ci : Try.prog.cellsOf ti = 1) (cu : Try.prog.cellsOf tu = 1) (hv : Fits Try.prog h (m + 3) t cs) : ∃ (v : Value) (l : List Vote), cs = [v] ∧ Rd h 2 v (tcells l) l.length := by
  unfold Fits at hv
  rw [ht] at hv
  rcases hv with hv | ⟨b, len, cap, c, hv, hb, hlc, hcap, hro, hl, hall⟩
  · exact ⟨_, [], hv, Rd.nil⟩
  · rw [ce] at hl hall
    obtain ⟨l, rfl, e2⟩ := votes_cells_fit f0 f1 ui uu ce ci cu len c hl hall
    refine ⟨_, l, hv, ⟨_, _, by rw [e2], tcells_len l, fun hn => ⟨b, 0, none, rfl, hb, ?_⟩⟩⟩
    rw [cellsAt_of (c := tcells l) (by rw [hro (by omega)]; rfl) (by rw [tcells_len]; omega), List.drop_zero, List.take_of_length_le (by rw [tcells_len]; omega)]
theorem fits_vals1 {h : Heap} {m : Nat} {t te tk tb ti : TypeId} {cs : List Value} (ht : Try.prog.underlying t = some (.slice te)) (f0 : fieldAt Try.prog te 0 = some (0, tk)) (f1 : fieldAt Try.prog te 1 = some (4, ti)) (uk : Try.prog.underlying tk = some (.array 4 tb)) (ub : Try.prog.underlying tb = some (.int .u8)) (ui : Try.prog.underlying ti = some (.int .i64))
    (ce : Try.prog.cellsOf te = 5) (ck : Try.prog.cellsOf tk = 4) (cb : Try.prog.cellsOf tb = 1) (ci : Try.prog.cellsOf ti = 1) (hv : Fits Try.prog h (m + 4) t cs) : ∃ (v : Value) (l : List Val), cs = [v] ∧ Rd h 5 v (vcells l) l.length := by
  unfold Fits at hv
  rw [ht] at hv
  rcases hv with hv | ⟨b, len, cap, c, hv, hb, hlc, hcap, hro, hl, hall⟩
  · exact ⟨_, [], hv, Rd.nil⟩
  · rw [ce] at hl hall
    obtain ⟨l, rfl, e2, e3⟩ := vals_cells_fit f0 f1 uk ub ui ce ck cb ci len c hl hall
    refine ⟨_, l, hv, ⟨_, _, by rw [e2], vcells_len l, fun hn => ⟨b, 0, none, rfl, hb, ?_⟩⟩⟩
    rw [cellsAt_of (c := vcells l) (by rw [hro (by omega)]; rfl) (by rw [vcells_len]; omega), List.drop_zero, List.take_of_length_le (by rw [vcells_len]; omega)]
theorem fits_bkM {h : Heap} {n : Nat} {cs : List Value} (hv : Fits Try.prog h (n + 6) 36 cs) : ∃ (x : Bk) (sv sl : Value), cs = x.cells sv sl ∧ BkRd h x sv sl := by
  have b0 : fieldAt Try.prog 36 0 = some (0, 30) := by kernel_rfl
  have b1 : fieldAt Try.prog 36 1 = some (131, 33) := by kernel_rfl
  have b2 : fieldAt Try.prog 36 2 = some (165, 34) := by kernel_rfl
  have m0 : fieldAt Try.prog 33 0 = some (0, 3) := by kernel_rfl
  have m1 : fieldAt Try.prog 33 1 = some (1, 28) := by kernel_rfl
  have m2 : fieldAt Try.prog 33 2 = some (33, 31) := by kernel_rfl
  have v0 : fieldAt Try.prog 117 0 = some (0, 3) := by kernel_rfl
  have v1 : fieldAt Try.prog 117 1 = some (1, 115) := by kernel_rfl
  have l0 : fieldAt Try.prog 113 0 = some (0, 111) := by kernel_rfl
  have l1 : fieldAt Try.prog 113 1 = some (4, 3) := by kernel_rfl
  have uv : Try.prog.underlying 31 = some (.slice 117) := by kernel_rfl
  have ul : Try.prog.underlying 34 = some (.slice 113) := by kernel_rfl
  have uk : Try.prog.underlying 111 = some (.array 4 5) := by kernel_rfl
  have uu : Try.prog.underlying 115 = some (.int .u64) := by kernel_rfl
  have g0 : fieldAt Try.prog 30 0 = some (0, 9) := by kernel_rfl
  have g1 : fieldAt Try.prog 30 1 = some (1, 3) := by kernel_rfl
  have g2 : fieldAt Try.prog 30 2 = some (2, 3) := by kernel_rfl
  have g3 : fieldAt Try.prog 30 3 = some (3, 28) := by kernel_rfl
  have g4 : fieldAt Try.prog 30 4 = some (35, 28) := by kernel_rfl
  have g5 : fieldAt Try.prog 30 5 = some (67, 28) := by kernel_rfl
  have g6 : fieldAt Try.prog 30 6 = some (99, 28) := by kernel_rfl
  have u1 : Try.prog.underlying 9 = some .string := by kernel_rfl
  have u2 : Try.prog.underlying 3 = some (.int .i64) := by kernel_rfl
  have u3 : Try.prog.underlying 28 = some (.array 32 5) := by kernel_rfl
  have u4 : Try.prog.underlying 5 = some (.int .u8) := by kernel_rfl
  have c1 : Try.prog.cellsOf 9 = 1 := by kernel_rfl
  have c2 : Try.prog.cellsOf 3 = 1 := by kernel_rfl
  have c3 : Try.prog.cellsOf 28 = 32 := by kernel_rfl
  have c4 : Try.prog.cellsOf 5 = 1 := by kernel_rfl
  have c5 : Try.prog.cellsOf 30 = 131 := by kernel_rfl
  have c6 : Try.prog.cellsOf 33 = 34 := by kernel_rfl
  have c7 : Try.prog.cellsOf 36 = 166 := by kernel_rfl
  have c8 : Try.prog.cellsOf 117 = 2 := by kernel_rfl
  have c9 : Try.prog.cellsOf 113 = 5 := by kernel_rfl
  have d1 : Try.prog.cellsOf 111 = 4 := by kernel_rfl
  have d2 : Try.prog.cellsOf 115 = 1 := by kernel_rfl
  have d3 : Try.prog.cellsOf 31 = 1 := by kernel_rfl
  have d4 : Try.prog.cellsOf 34 = 1 := by kernel_rfl
  have hlen := hv.len b0
  rw [c7] at hlen
  obtain ⟨x, hx, _, _, hh⟩ := fits_header (m := n + 2) g0 g1 g2 g3 g4 g5 g6 u1 u2 u3 u4 c1 c2 c3 c4 c5 (hv.field b0)
  rw [c5] at hh
  have hc := hv.field b1
  rw [c6] at hc
  obtain ⟨ht, k0, _⟩ := (hc.field m0).int u2
  obtain ⟨hs, k1, k1l⟩ := fits_flat32 (m := n + 2) u3 u4 c4 c3 (hc.field m1)
  obtain ⟨sv, vs, k2, k2r⟩ := fits_votes (m := n + 1) uv v0 v1 u2 uu c8 c2 d2 (hc.field m2)
  obtain ⟨sl, ls, k3, k3r⟩ := fits_vals1 (m := n + 1) ul l0 l1 uk u4 u2 c9 d1 c4 c2 (hv.field b2)
  rw [c2] at k0
  rw [c3] at k1
  rw [d3] at k2
  rw [d4] at k3
  refine ⟨⟨x, ⟨ht, hs, vs⟩, ls⟩, sv, sl, ?_, ⟨hx, k1l, k2r, k3r⟩⟩
  have hcc : (cs.drop 131).take 34 = .int .i64 ht :: (bcells hs ++ [sv]) := by
    have hl2 : ((cs.drop 131).take 34).length = 34 := by rw [List.length_take, List.length_drop]; omega
    generalize (cs.drop 131).take 34 = c at *
    rw [← List.drop_zero (l := c), vsplit c 0 1, k0, vsplit c (0 + 1) 32, k1, vsplit c (0 + 1 + 32) 1, k2, show c.drop (0 + 1 + 32 + 1) = [] from List.drop_eq_nil_of_le (by omega), List.append_nil]
    rfl
  rw [← List.drop_zero (l := cs), vsplit cs 0 131, hh, vsplit cs (0 + 131) 34, hcc, vsplit cs (0 + 131 + 34) 1, k3, show cs.drop (0 + 131 + 34 + 1) = [] from List.drop_eq_nil_of_le (by omega), List.append_nil]
  simp only [Bk.cells, Hd.cells, List.cons_append, List.append_assoc, List.nil_append]
structure AC where
  kind : Int
  who : Int
  is : Bool
  b : Bk
  sv : Value
  sl : Value
abbrev AC.cells (a : AC) : List Value := .int .i64 a.kind :: .int .i64 a.who :: .bool a.is :: a.b.cells a.sv a.sl
def acells (l : List AC) : List Value := l.flatMap AC.cells
def zAC : AC := ⟨0, 0, false, zBk, .slice none 0 0, .slice none 0 0⟩
theorem acells_cons (a : AC) (l : List AC) : acells (a :: l) = a.cells ++ acells l := rfl
theorem AC.len {h : Heap} {a : AC} (hb : BkRd h a.b a.sv a.sl) : a.cells.length = 169 := by
  have h1 := hb.hd.prev
  have h2 := hb.hd.vals
  have h3 := hb.hd.next
  have h4 := hb.hd.app
  have h5 := hb.hash
  simp only [AC.cells, Bk.cells, List.length_cons, List.length_append, bcells_len, List.length_nil]
  omega
theorem acells_len {h : Heap} : ∀ {l : List AC}, (∀ a ∈ l, BkRd h a.b a.sv a.sl) → (acells l).length = l.length * 169
  | [], _ => rfl
  | a :: l, hl => by
    rw [acells_cons, List.length_append, acells_len fun b hb => hl b (by simp [hb]), AC.len (hl a (by simp)), List.length_cons]
    omega
theorem acells_at {h : Heap} : ∀ {l : List AC} {k : Nat}, (∀ a ∈ l, BkRd h a.b a.sv a.sl) → k < l.length → ((acells l).drop (k * 169)).take 169 = (l.getD k zAC).cells
  | a :: l, 0, hl, _ => by
    have := AC.len (hl a (by simp))
    rw [acells_cons, Nat.zero_mul, List.drop_zero, ← this, List.take_left]
    rfl
  | a :: l, k + 1, hl, hk => by
    have h1 := AC.len (hl a (by simp))
    have h2 := acells_at (l := l) (k := k) (fun b hb => hl b (by simp [hb])) (by simpa using hk)
    rw [acells_cons, show (k + 1) * 169 = a.cells.length + k * 169 from by omega, ← List.drop_drop, List.drop_left]
    exact h2
theorem act_mem {l : List AC} {k : Nat} (hk : k < l.length) : l.getD k zAC ∈ l := by
  simp [List.getD, hk]
theorem act_cells {h0 h : Heap} {b o n k : Nat} {l : List AC} (hl : ∀ a ∈ l, BkRd h0 a.b a.sv a.sl) (hc : cellsAt h b o (n * 169) = some (acells l)) (hn : l.length = n) (hk : k < n) : Cells h b (o + k * 169) 169 (l.getD k zAC).cells := ⟨by
  rw [cellsAt_sub hc (by omega), acells_at hl (by omega)]⟩
theorem act_block {h0 h : Heap} {b o n k : Nat} {l : List AC} (hl : ∀ a ∈ l, BkRd h0 a.b a.sv a.sl) (hc : cellsAt h b o (n * 169) = some (acells l)) (hn : l.length = n) (hk : k < n) : Cells h b (o + k * 169 + 3) 166 ((l.getD k zAC).b.cells (l.getD k zAC).sv (l.getD k zAC).sl) := ⟨by
  have h5 := (act_cells hl hc hn hk).eq
  have h6 := AC.len (hl _ (act_mem (l := l) (k := k) (by omega)))
  rw [cellsAt_sub (k := 3) (m := 166) h5 (by omega)]
  have : ((l.getD k zAC).b.cells (l.getD k zAC).sv (l.getD k zAC).sl).length = 166 := by
    have e : (l.getD k zAC).cells.length = ((l.getD k zAC).b.cells (l.getD k zAC).sv (l.getD k zAC).sl).length + 3 := rfl
    omega
  simp only [AC.cells, List.drop_succ_cons, List.drop_zero]
  rw [← this, List.take_length]⟩
theorem acts_cells_fit {h : Heap} {n : Nat} {te : TypeId} (f0 : fieldAt Try.prog te 0 = some (0, 3)) (f1 : fieldAt Try.prog te 1 = some (1, 3)) (f2 : fieldAt Try.prog te 2 = some (2, 4)) (f3 : fieldAt Try.prog te 3 = some (3, 36)) (ui : Try.prog.underlying 3 = some (.int .i64)) (ci : Try.prog.cellsOf 3 = 1) (ub : Try.prog.underlying 4 = some .bool) (cB : Try.prog.cellsOf 4 = 1) (cb : Try.prog.cellsOf 36 = 166) :
    ∀ (len : Nat) (c : List Value), c.length = len * 169 → (∀ i, i < len → Fits Try.prog h (n + 7) te ((c.drop (i * 169)).take 169)) → ∃ l : List AC, c = acells l ∧ l.length = len ∧ ∀ a ∈ l, BkRd h a.b a.sv a.sl
  | 0, c, hl, _ => ⟨[], by simpa [acells] using hl, rfl, by simp⟩
  | len + 1, c, hl, hall => by
    have h0 := hall 0 (by omega)
    rw [Nat.zero_mul, List.drop_zero] at h0
    obtain ⟨a, g0, _⟩ := (h0.field f0).int ui
    obtain ⟨w, g1, _⟩ := (h0.field f1).int ui
    obtain ⟨x, sv, sl, g2, hb⟩ := fits_bkM (n := n) (h0.field f3)
    have g3 := h0.field f2
    unfold Fits at g3
    rw [ub] at g3
    obtain ⟨bb, g3⟩ := g3
    rw [cB] at g3
    rw [ci] at g0 g1
    rw [cb] at g2
    obtain ⟨l, e1, e2, e3⟩ := acts_cells_fit f0 f1 f2 f3 ui ci ub cB cb len (c.drop 169) (by rw [List.length_drop]; omega) fun i hi => by
      have := hall (i + 1) (by omega)
      rw [List.drop_drop]
      rw [show (i + 1) * 169 = 169 + i * 169 from by omega] at this
      exact this
    have hl2 : (c.take 169).length = 169 := by rw [List.length_take]; omega
    have he : c.take 169 = (⟨a, w, bb, x, sv, sl⟩ : AC).cells := by
      generalize c.take 169 = e at *
      rw [← List.drop_zero (l := e), vsplit e 0 1, g0, vsplit e (0 + 1) 1, g1, vsplit e (0 + 1 + 1) 1, g3, vsplit e (0 + 1 + 1 + 1) 166, g2, show e.drop (0 + 1 + 1 + 1 + 166) = [] from List.drop_eq_nil_of_le (by omega), List.append_nil]
      rfl
    refine ⟨⟨a, w, bb, x, sv, sl⟩ :: l, ?_, by simp [e2], fun b hb' => (List.mem_cons.1 hb').elim (fun e => by rw [e]; exact hb) (e3 b)⟩
    rw [acells_cons, ← e1, ← he, List.take_append_drop]
theorem fits_acts {h : Heap} {n : Nat} {t te : TypeId} {cs : List Value} (ht : Try.prog.underlying t = some (.slice te)) (f0 : fieldAt Try.prog te 0 = some (0, 3)) (f1 : fieldAt Try.prog te 1 = some (1, 3)) (f2 : fieldAt Try.prog te 2 = some (2, 4)) (f3 : fieldAt Try.prog te 3 = some (3, 36)) (ui : Try.prog.underlying 3 = some (.int .i64)) (ci : Try.prog.cellsOf 3 = 1) (ub : Try.prog.underlying 4 = some .bool) (cB : Try.prog.cellsOf 4 = 1) (cb : Try.prog.cellsOf 36 = 166) (ce : Try.prog.cellsOf te = 169) (hv : Fits Try.prog h (n + 8) t cs) :
    ∃ (v : Value) (l : List AC), cs = [v] ∧ Rd h 169 v (acells l) l.length ∧ ∀ a ∈ l, BkRd h a.b a.sv a.sl := by
  unfold Fits at hv
  rw [ht] at hv
  rcases hv with hv | ⟨b, len, cap, c, hv, hb, hlc, hcap, hro, hl, hall⟩
  · exact ⟨_, [], hv, Rd.nil, by simp⟩
  · rw [ce] at hl hall
    obtain ⟨l, rfl, e2, e3⟩ := acts_cells_fit (n := n) f0 f1 f2 f3 ui ci ub cB cb len c hl hall
    have hal := acells_len e3
    refine ⟨_, l, hv, ⟨_, _, by rw [e2], hal, fun hn => ⟨b, 0, none, rfl, hb, ?_⟩⟩, e3⟩
    rw [cellsAt_of (c := acells l) (by rw [hro (by omega)]; rfl) (by omega), List.drop_zero, List.take_of_length_le (by omega)]
end Go.Proofs.Ytmhnddkpiefkhaa.A

namespace Go.Proofs.Ytmhnddkpiefkhaa.A
open Go Go.Vm
set_option maxRecDepth 10000
set_option linter.unusedVariables false
theorem kkcells_at : ∀ {l : List KK} {k : Nat}, k < l.length → ((kkcells l).drop (k * 3)).take 3 = (l.getD k ⟨0, false, false⟩).cells
  | e :: l, 0, _ => rfl
  | e :: l, k + 1, h => by
    have := kkcells_at (l := l) (k := k) (by simpa using h)
    show (((KK.cells e) ++ kkcells l).drop ((k + 1) * 3)).take 3 = _
    rw [show (k + 1) * 3 = (KK.cells e).length + k * 3 from by simp; omega, ← List.drop_drop, List.drop_left]
    exact this
theorem kk_cells {h : Heap} {b o n k : Nat} {l : List KK} (hc : cellsAt h b o (n * 3) = some (kkcells l)) (hn : l.length = n) (hk : k < n) : Cells h b (o + k * 3) 3 (l.getD k ⟨0, false, false⟩).cells := ⟨by
  rw [cellsAt_sub hc (by omega), kkcells_at (by omega)]⟩
theorem kk_cell {h : Heap} {b o n k i : Nat} {l : List KK} {v : Value} (hc : cellsAt h b o (n * 3) = some (kkcells l)) (hn : l.length = n) (hk : k < n) (hi : i < 3) (hv : ((l.getD k ⟨0, false, false⟩).cells.drop i).take 1 = [v]) : Cell h b (o + k * 3 + i) v := ⟨by
  have h1 := (kk_cells hc hn hk).eq
  rw [cellsAt_sub h1 (by omega)]
  exact congrArg some hv⟩
def hasK (l : List KK) (k : Int) : Option KK := l.find? fun e => decide (e.k = k)
def actOK (a : AC) : Prop := a.b.vals.length ≤ 70 ∧ a.b.c.votes.length ≤ 70 ∧ a.b.h.chain.length ≤ 60
theorem act_take {l : List AC} {k : Nat} (hk : k < l.length) : (∀ a ∈ l.take (k + 1), actOK a) ↔ (∀ a ∈ l.take k, actOK a) ∧ actOK (l.getD k zAC) := by
  have g : l.getD k zAC = l[k] := by simp [List.getD, hk]
  rw [List.take_succ_eq_append_getElem hk, g]
  constructor
  · exact fun h => ⟨fun a ha => h a (List.mem_append.2 (.inl ha)), h _ (List.mem_append.2 (.inr (List.mem_singleton.2 rfl)))⟩
  · rintro ⟨h1, h2⟩ a ha
    rcases List.mem_append.1 ha with ha | ha
    · exact h1 a ha
    · rw [List.mem_singleton.1 ha]; exact h2
set_option maxHeartbeats 4000000 in
theorem long_ok {h : Heap} {v : Value} {l : List AC} (hv : Rd h 169 v (acells l) l.length) (hl : ∀ a ∈ l, BkRd h a.b a.sv a.sl) :
    Runs Try.prog T0 (.fn fn_zsQ) [v] h (fun r h' => (∃ b : Bool, r = .bool b ∧ (b = false → l.length ≤ 40 ∧ ∀ a ∈ l, actOK a)) ∧ Fr (fun _ => False) h h') (fun _ _ => False) := by
  obtain ⟨a, cap, rfl, hlen, hc⟩ := hv
  refine zsQ_runs ?_
  refine stp ?_
  refine loop1 zsQ_l0_M 3 (fun q v3 h' => ∃ k : Nat, k ≤ l.length ∧ k ≤ 41 ∧ q = 41 - k ∧ v3 = .int .i64 k ∧ (∀ a ∈ l.take k, actOK a) ∧ Fr (fun _ => False) h h') ?_ 41 ⟨0, by omega, by omega, rfl, rfl, by simp, Fr.refl⟩
  rintro m v3 h' x2 x4 x5 x6 x7 x8 x9 x10 x11 x12 x13 x14 x15 x16 x17 x18 x19 ⟨k, hk, hk2, rfl, rfl, hall, hf⟩
  refine stp ?_
  refine O.dec (fun e1 => ?_) (fun e1 => ?_)
  · have hlt : k < l.length := by omega
    refine stp ?_
    refine C.if (fun e2 => ?_) (fun e2 => ?_)
    · obtain ⟨b, o, sp, rfl, hb, hcc⟩ := hc (by omega)
      have hcc' : cellsAt h' b o (l.length * 169) = some (acells l) := by rw [cellsAt_keep hf hb id]; exact hcc
      haveI := act_block hl hcc' rfl hlt
      have hm := hl _ (act_mem hlt)
      have hat := act_take hlt
      generalize l.getD k zAC = A at *
      refine stp ?_
      refine O.call' (LongBlock_ok (hm.keep hf fun _ _ => id)) (fun r h1 hr => ?_)
      obtain ⟨⟨b', rfl, hlong⟩, hf1⟩ := hr
      have F1 := hf.trans' hf1
      cases b' with
      | true =>
        refine stp ?_
        exact ⟨⟨true, rfl, fun e => by cases e⟩, F1⟩
      | false =>
        refine stp ?_
        exact loop1a 3 (41 - (k + 1)) (by omega) ⟨k + 1, by omega, by omega, rfl, rfl, hat.2 ⟨hall, hlong rfl⟩, F1⟩
    · refine stp ?_
      exact ⟨⟨_, rfl, fun e => by have := of_decide_eq_false e; omega⟩, hf⟩
  · refine stp ?_
    have hkl : k = l.length := by omega
    exact ⟨⟨_, rfl, fun e => ⟨by have := of_decide_eq_false e; omega, fun a ha => hall a (by rw [List.take_of_length_le (by omega)]; exact ha)⟩⟩, hf⟩
end Go.Proofs.Ytmhnddkpiefkhaa.A

namespace Go.Proofs.Ytmhnddkpiefkhaa.A
open Go Go.Vm
set_option maxRecDepth 10000
set_option linter.unusedVariables false
structure InvS (room : Int) (l : List SE) : Prop where
  le : (l.length : Int) ≤ room
  pos : ∀ y ∈ l, 1 ≤ y.k
  nd : (l.map SE.k).Nodup
theorem hasK_some {B : List KK} (hn : (B.map KK.k).Nodup) {e : KK} (he : e ∈ B) : hasK B e.k = some e := by
  induction B with
  | nil => simp at he
  | cons a B ih =>
    simp only [List.map_cons, List.nodup_cons] at hn
    unfold hasK
    rw [List.find?_cons]
    by_cases h : a.k = e.k
    · have : a = e := by
        rcases List.mem_cons.1 he with h1 | h1
        · exact h1.symm
        · exact absurd (List.mem_map.2 ⟨e, h1, h.symm⟩) hn.1
      simp [this]
    · have h1 : e ∈ B := by
        rcases List.mem_cons.1 he with h1 | h1
        · exact absurd (by rw [h1]) h
        · exact h1
      simp only [h, decide_false]
      exact ih hn.2 h1
theorem hasK_none {B : List KK} {k : Int} (h : ∀ e ∈ B, e.k ≠ k) : hasK B k = none := by
  unfold hasK
  exact List.find?_eq_none.2 fun e he => by simpa using h e he
theorem kk_map (l : List SE) : (l.map SE.kk).map KK.k = l.map SE.k := by rw [List.map_map]; rfl
structure Shows (l : List SE) (A : List KK) : Prop where
  nd : (A.map KK.k).Nodup
  mem : ∀ a, a ∈ A ↔ ∃ y ∈ l, y.kk = a
  len : A.length = l.length
theorem Shows.of {l L : List SE} (hn : (l.map SE.k).Nodup) (hp : L.Perm l) : Shows l (L.map SE.kk) :=
  ⟨by rw [kk_map]; exact ((hp.map SE.k).nodup_iff).2 hn, fun a => ⟨fun h => by
    obtain ⟨y, hy, e⟩ := List.mem_map.1 h
    exact ⟨y, hp.mem_iff.1 hy, e⟩, fun ⟨y, hy, e⟩ => List.mem_map.2 ⟨y, hp.mem_iff.2 hy, e⟩⟩, by rw [List.length_map, hp.length_eq]⟩
theorem Shows.some {l : List SE} {A : List KK} (h : Shows l A) {y : SE} (hy : y ∈ l) : hasK A y.k = some y.kk := hasK_some h.nd ((h.mem _).2 ⟨y, hy, rfl⟩)
theorem Shows.none {l : List SE} {A : List KK} (h : Shows l A) {k : Int} (hk : ∀ y ∈ l, y.k ≠ k) : hasK A k = none := hasK_none fun e he => by
  obtain ⟨y, hy, rfl⟩ := (h.mem e).1 he
  exact hk y hy
theorem filter_less {l : List SE} {y : SE} (hy : y ∈ l) : (l.filter fun z => !decide (z.k = y.k)).length < l.length := by
  induction l with
  | nil => simp at hy
  | cons a l ih =>
    rw [List.filter_cons]
    rcases List.mem_cons.1 hy with h | h
    · subst h
      have := List.length_filter_le (fun z : SE => !decide (z.k = y.k)) l
      simp
      omega
    · have := ih h
      split
      · simp only [List.length_cons]
        omega
      · simp only [List.length_cons]
        omega
theorem put_inv {room : Int} {l l' : List SE} {x : Bk} {gone e : Int} (h : PutRel room l x gone e l') (hi : InvS room l) : InvS room l' := by
  rcases h with ⟨_, _, _, rfl⟩ | ⟨hin, ⟨_, _, _, rfl⟩ | ⟨hne, ⟨_, _, _, _, rfl⟩ | ⟨n, hx, _, _, _, ⟨hlt, _, rfl⟩ | ⟨hfull, y, hy, hyp, hmin, _, rfl⟩⟩⟩⟩
  · exact hi
  · exact hi
  · exact hi
  · have hnk : n.k = x.h.height := by show n.x.h.height = _; rw [hx]
    refine ⟨by simp; omega, fun z hz => ?_, ?_⟩
    · rcases List.mem_append.1 hz with hz | hz
      · exact hi.pos z hz
      · rw [List.mem_singleton.1 hz, hnk]; exact hin.1
    · rw [List.map_append, List.nodup_append]
      refine ⟨hi.nd, by simp, fun a ha b hb => ?_⟩
      obtain ⟨z, hz, rfl⟩ := List.mem_map.1 ha
      rw [List.map_singleton, List.mem_singleton] at hb
      rw [hb, hnk]
      exact hne z hz
  · have hnk : n.k = x.h.height := by show n.x.h.height = _; rw [hx]
    have h1 := filter_less hy
    refine ⟨by have := hi.le; simp; omega, fun z hz => ?_, ?_⟩
    · rcases List.mem_append.1 hz with hz | hz
      · exact hi.pos z (List.mem_filter.1 hz).1
      · rw [List.mem_singleton.1 hz, hnk]; exact hin.1
    · rw [List.map_append, List.nodup_append]
      refine ⟨hi.nd.sublist ((List.filter_sublist).map _), by simp, fun a ha b hb => ?_⟩
      obtain ⟨z, hz, rfl⟩ := List.mem_map.1 ha
      rw [List.map_singleton, List.mem_singleton] at hb
      rw [hb, hnk]
      exact hne z (List.mem_filter.1 hz).1
theorem turn_inv {room k : Int} {l : List SE} {f : SE → SE} (hf : ∀ z, (f z).x = z.x) (hi : InvS room l) : InvS room (turnS k f l) := by
  have hk : ∀ z, (if z.k = k then f z else z).k = z.k := fun z => by
    split
    · show (f z).x.h.height = _; rw [hf]
    · rfl
  refine ⟨by unfold turnS; rw [List.length_map]; exact hi.le, fun y hy => ?_, ?_⟩
  · obtain ⟨z, hz, rfl⟩ := List.mem_map.1 hy
    have h1 := hk z
    have h2 := hi.pos z hz
    show 1 ≤ (if z.k = k then f z else z).k
    rw [h1]; exact h2
  · have : (turnS k f l).map SE.k = l.map SE.k := by
      unfold turnS
      rw [List.map_map]
      exact List.map_congr_left fun z _ => hk z
    rw [this]; exact hi.nd
theorem only_inv {room k : Int} {l : List SE} (hi : InvS room l) : InvS room (onlyS k l) :=
  ⟨by have := hi.le; have := List.length_filter_le (fun z : SE => decide (z.k = k)) l; unfold onlyS; omega, fun y hy => hi.pos y (List.mem_filter.1 hy).1, hi.nd.sublist ((List.filter_sublist).map _)⟩
end Go.Proofs.Ytmhnddkpiefkhaa.A

namespace Go.Proofs.Ytmhnddkpiefkhaa.A
open Go Go.Vm
set_option maxRecDepth 10000
set_option linter.unusedVariables false
section
variable {P : Program} {ts : List Value} {h : Heap} {x y : Operand} {t t' ty : TypeId} {A : Bool} {l : List Value} {tl : List LK}
instance (priority := high) xnotT [e : Ev ts x (.bool true)] : XOp P ts h (.raw (so (.unOp .not t x) ty)) (.bool false) h := (XOp.notB (A := true) : XOp P ts h (.raw (so (.unOp .not t x) ty)) (.bool (!true)) h)
instance (priority := high) xnotF [e : Ev ts x (.bool false)] : XOp P ts h (.raw (so (.unOp .not t x) ty)) (.bool true) h := (XOp.notB (A := false) : XOp P ts h (.raw (so (.unOp .not t x) ty)) (.bool (!false)) h)
instance (priority := high) xneqF [i : IsBoolT P t] [e : Ev ts x (.bool A)] [e' : Ev ts y (.bool A)] : XOp P ts h (.bin .neq (so (.binOp .neq t x y t') ty) x y) (.bool false) h := by
  have := (XOp.neqB : XOp P ts h (.bin .neq (so (.binOp .neq t x y t') ty) x y) (.bool (!(A == A))) h)
  rw [beq_self_eq_true] at this
  exact this
instance (priority := high) xneqS [i : TLeaves P t tl] [e : Ev ts x (.agg ⟨l⟩)] [e' : Ev ts y (.agg ⟨l⟩)] [g : GrL l] [k : KL tl l] : XOp P ts h (.bin .neq (so (.binOp .neq t x y t') ty) x y) (.bool false) h := by
  have := (XOp.neqAgg : XOp P ts h (.bin .neq (so (.binOp .neq t x y t') ty) x y) (.bool (!same l l)) h)
  rw [same_self] at this
  exact this
theorem xlss0 {p q : Int} {O : Oper} (hp : ¬ p < q) [e1 : Ev ts x (.int .i64 p)] [e2 : Ev ts y (.int .i64 q)] : XOp P ts h (.bin .lss O x y) (.bool false) h := by
  have := (XOp.lssI : XOp P ts h (.bin .lss O x y) (.bool (decide (p < q))) h)
  rw [decide_eq_false hp] at this
  exact this
theorem xgtr0 {p q : Int} {O : Oper} (hp : ¬ q < p) [e1 : Ev ts x (.int .i64 p)] [e2 : Ev ts y (.int .i64 q)] : XOp P ts h (.bin .gtr O x y) (.bool false) h := by
  have := (XOp.gtrI : XOp P ts h (.bin .gtr O x y) (.bool (decide (q < p))) h)
  rw [decide_eq_false hp] at this
  exact this
theorem xeql0 {p q : Int} {O : Oper} (hp : p ≠ q) [e1 : Ev ts x (.int .i64 p)] [e2 : Ev ts y (.int .i64 q)] : XOp P ts h (.bin .eql O x y) (.bool false) h := by
  have := (XOp.eqlI : XOp P ts h (.bin .eql O x y) (.bool (decide (p = q))) h)
  rw [decide_eq_false hp] at this
  exact this
theorem xeql1 {p q : Int} {O : Oper} (hp : p = q) [e1 : Ev ts x (.int .i64 p)] [e2 : Ev ts y (.int .i64 q)] : XOp P ts h (.bin .eql O x y) (.bool true) h := by
  have := (XOp.eqlI : XOp P ts h (.bin .eql O x y) (.bool (decide (p = q))) h)
  rw [decide_eq_true hp] at this
  exact this
end
theorem act_cell {h0 h : Heap} {b o n k i : Nat} {l : List AC} {v : Value} (hl : ∀ a ∈ l, BkRd h0 a.b a.sv a.sl) (hc : cellsAt h b o (n * 169) = some (acells l)) (hn : l.length = n) (hk : k < n) (hi : i < 169) (hv : ((l.getD k zAC).cells.drop i).take 1 = [v]) : Cell h b (o + k * 169 + i) v := ⟨by
  have h1 := (act_cells hl hc hn hk).eq
  rw [cellsAt_sub h1 (by omega)]
  exact congrArg some hv⟩
end Go.Proofs.Ytmhnddkpiefkhaa.A

namespace Go.Proofs.Ytmhnddkpiefkhaa.A
open Go Go.Vm
set_option maxRecDepth 10000
set_option linter.unusedVariables false
structure BkNew (lo : Nat) (h : Heap) (x : Bk) (sw sm : Value) : Prop where
  hd : x.h.ok
  hash : x.c.hash.length = 32
  sv : Own h 2 sw (tcells x.c.votes) x.c.votes.length
  sl : Own h 5 sm (vcells x.vals) x.vals.length
  nv : ∀ i, ownedBy sw i → lo ≤ i
  nl : ∀ i, ownedBy sm i → lo ≤ i
  ne : ∀ i, ownedBy sm i → ¬ ownedBy sw i
theorem BkNew.rd {lo : Nat} {h : Heap} {x : Bk} {sw sm : Value} (hb : BkNew lo h x sw sm) : BkRd h x sw sm := ⟨hb.hd, hb.hash, hb.sv.rd, hb.sl.rd⟩
theorem BkNew.keep {lo : Nat} {S : Nat → Prop} {h h' : Heap} {x : Bk} {sw sm : Value} (hb : BkNew lo h x sw sm) (hf : Fr S h h') (hs : ∀ i, lo ≤ i → ¬ S i) : BkNew lo h' x sw sm :=
  ⟨hb.hd, hb.hash, hb.sv.keep hf fun i hi => hs i (hb.nv i hi), hb.sl.keep hf fun i hi => hs i (hb.nl i hi), hb.nv, hb.nl, hb.ne⟩
theorem bk_len {x : Bk} {sv sl : Value} (hd : x.h.ok) (hh : x.c.hash.length = 32) : (x.cells sv sl).length = 166 := by
  have q1 := hd.prev
  have q2 := hd.vals
  have q3 := hd.next
  have q4 := hd.app
  simp only [Bk.cells, List.length_cons, List.length_append, bcells_len, List.length_nil]
  omega
set_option maxHeartbeats 4000000 in
theorem Get_ok {h : Heap} {p m c : Nat} {room k : Int} {l : List SE} (hs : StAt h p m c room l) :
    Runs Try.prog T0 (.fn fn_zjbQ) [.pointer (some ⟨p, 0, none⟩), .int .i64 k] h
      (fun r h' => ((∃ y ∈ l, y.k = k ∧ ∃ sw sm, r = .tuple ⟨[.agg ⟨y.x.cells sw sm⟩, .bool true]⟩ ∧ BkNew (h.n + 1) h' y.x sw sm) ∨ (∀ y ∈ l, y.k ≠ k) ∧ r = .tuple ⟨[.agg ⟨zBc⟩, .bool false]⟩) ∧ Fr (fun _ => False) h h') (fun _ _ => False) := by
  refine zjbQ_runs ?_
  refine stp ?_
  have F0 : Fr (fun _ => False) h (h.push (.cells zBc 0)) := Fr.refl.push
  have g0 : (h.push (.cells zBc 0)).get h.n = .cells zBc 0 := HGet.new.eq
  have n0 : (h.push (.cells zBc 0)).n = h.n + 1 := rfl
  generalize h.push (.cells zBc 0) = h0 at *
  have hs0 := hs.keep F0 fun _ _ => id
  haveI : HGet h0 p _ := ⟨hs0.gp⟩
  haveI : HGet h0 m _ := ⟨hs0.gm⟩
  haveI : HGet h0 h.n _ := ⟨g0⟩
  refine O.call' (snone_ok hs0) (fun r h0 hr => ?_)
  obtain ⟨rfl, rfl⟩ := hr
  obtain ⟨pv, b, hb1, hb2, hlk⟩ := lookup_any (k := k) hs0.ok (.pointer none)
  refine stp ?_
  cases b with
  | false =>
    obtain ⟨hno, rfl⟩ := hb2 rfl
    refine stp ?_
    exact ⟨.inr ⟨fun y hy => hno _ (List.mem_map.2 ⟨y, hy, rfl⟩), rfl⟩, F0.set fun e => absurd e (by omega)⟩
  | true =>
    obtain ⟨e, he, hk, rfl⟩ := hb1 rfl
    obtain ⟨y, hy, rfl⟩ := List.mem_map.1 he
    have hkey : y.k = k := hk
    have ha := hs0.ats y hy
    have e2 : y.ent.v = .pointer (some ⟨y.b, 0, none⟩) := rfl
    rw [e2]
    haveI := l32 ha.hd.prev
    haveI := l32 ha.hd.vals
    haveI := l32 ha.hd.next
    haveI := l32 ha.hd.app
    haveI := l32 ha.hash
    haveI : HGet h0 y.b _ := ⟨ha.get⟩
    refine stp ?_
    refine O.call' (sown_ok (x := y.x) (sv := y.sv) (sl := y.sl) ⟨ha.hd, ha.hash, ha.sv.rd, ha.sl.rd⟩ (by have := ha.lv; omega) (by have := ha.ll; omega)) (fun r h1 hr => ?_)
    obtain ⟨sw, sm, rfl, o1, o2, m1, m2, m3, f1⟩ := hr
    haveI : HGet h1 h.n _ := f1.keep ⟨g0⟩ (by omega) id
    obtain ⟨a3, c3, rfl, _, _⟩ := id o1.rd
    obtain ⟨a4, c4, rfl, _, _⟩ := id o2.rd
    refine stp ?_
    have fS : ∀ {A : AObj}, Fr (fun i => i = h.n) h1 (h1.set h.n A) := fun {A} => Fr.refl.set fun _ => rfl
    exact ⟨.inl ⟨y, hy, hkey, _, _, rfl, ha.hd, ha.hash, o1.keep fS fun i hi e => by have := m1 i hi; omega, o2.keep fS fun i hi e => by have := m2 i hi; omega, fun i hi => by have := m1 i hi; omega, fun i hi => by have := m2 i hi; omega, m3⟩, (F0.trans' f1).set fun e => absurd e (by omega)⟩
def BelowR (l : List SE) (k : Int) (o : Option SE) : Prop := match o with
  | none => ∀ y ∈ l, y.v = true → ¬ y.k < k
  | some y => y ∈ l ∧ y.v = true ∧ y.k < k ∧ ∀ z ∈ l, z.v = true → z.k < k → z.k ≤ y.k
set_option maxHeartbeats 8000000 in
theorem Below_ok {h : Heap} {p m c : Nat} {room k : Int} {l : List SE} (hs : StAt h p m c room l) (hlen : l.length < 100000) :
    Runs Try.prog T0 (.fn fn_zgbQ) [.pointer (some ⟨p, 0, none⟩), .int .i64 k] h
      (fun r h' => ((∃ y, BelowR l k (some y) ∧ ∃ sw sm, r = .tuple ⟨[.agg ⟨y.x.cells sw sm⟩, .bool true]⟩ ∧ BkNew (h.n + 1) h' y.x sw sm) ∨ BelowR l k none ∧ r = .tuple ⟨[.agg ⟨zBc⟩, .bool false]⟩) ∧ Fr (fun _ => False) h h') (fun _ _ => False) := by
  refine zgbQ_runs ?_
  refine stp ?_
  have F0 : Fr (fun _ => False) h (h.push (.cells zBc 0)) := Fr.refl.push
  have g0 : (h.push (.cells zBc 0)).get h.n = .cells zBc 0 := HGet.new.eq
  have n0 : (h.push (.cells zBc 0)).n = h.n + 1 := rfl
  generalize h.push (.cells zBc 0) = h0 at *
  have hs0 := hs.keep F0 fun _ _ => id
  refine O.call' (snone_ok hs0) (fun r h0 hr => ?_)
  obtain ⟨rfl, rfl⟩ := hr
  refine stp ?_
  refine O.call' (rising_ok hs0.gp hs0.pl hs0.gm hs0.ml hs0.ok (by simpa using hlen)) (fun r h1 hr => ?_)
  obtain ⟨R, hR, hsort, ho, hnew, f1⟩ := hr
  have hs1 := hs0.keep f1 fun _ _ => id
  have g1 : h1.get h.n = .cells zBc 0 := by rw [f1.get _ (by omega) id]; exact g0
  have n1 := f1.n
  obtain ⟨a, cap, rfl, hl1, hc⟩ := id ho.rd
  have hRl : R.length = l.length := by have := hR.length_eq; simpa using this
  refine stp ?_
  have hmine : ∀ i, Mine p m l i → i ≠ h.n := fun i hi e => by have := hs.mlt hi; omega
  refine loop2 zgbQ_l0_M 5 15 (fun q v5 v15 hx => ∃ i : Nat, i ≤ R.length ∧ q = R.length - i ∧ v15 = .int .i64 i ∧ Fr (fun j => j = h.n) h1 hx ∧
      (v5 = .bool false ∧ hx.get h.n = .cells zBc 0 ∧ (∀ z ∈ l, z.v = true → z.k < k → z.k ∉ R.take i) ∨
       ∃ y ∈ l, y.v = true ∧ y.k < k ∧ (∀ z ∈ l, z.v = true → z.k < k → z.k ∈ R.take i → z.k ≤ y.k) ∧ v5 = .bool true ∧ ∃ sw sm, hx.get h.n = .cells (y.x.cells sw sm) 0 ∧ BkNew (h.n + 1) hx y.x sw sm)) ?_ R.length
    ⟨0, by omega, rfl, rfl, Fr.refl, .inl ⟨rfl, g1, by simp⟩⟩
  rintro m v5 v15 h' x7 x8 x16 x17 x18 x19 x20 x21 x22 x23 x24 x25 x26 x27 x28 x29 x30 x31 x32 x33 x34 x35 x36 x37 x38 x39 ⟨i, hi, rfl, rfl, hF, hcase⟩
  have nF := hF.n
  have hsx := hs1.keep hF hmine
  refine stp ?_
  refine C.if (fun hlt => ?_) (fun hge => ?_)
  · have hlt : i < R.length := by omega
    obtain ⟨b, o, sp, rfl, hb, hcc⟩ := hc (by omega)
    have hbn : b ≠ h.n := fun e => by have := hnew b rfl; omega
    haveI : Cell h' b (o + i) (.int .i64 (R.getD i 0)) := ncell_at (n := R.length) (by rw [cellsAt_keep hF hb hbn]; exact hcc) rfl hlt
    have hki : R.getD i 0 ∈ R := by
      rw [List.getD_eq_getElem?_getD, List.getElem?_eq_getElem hlt]
      exact List.getElem_mem hlt
    obtain ⟨e, he, hek⟩ := List.mem_map.1 (hR.mem_iff.1 hki)
    obtain ⟨y, hy, rfl⟩ := List.mem_map.1 he
    have hyk : y.k = R.getD i 0 := hek
    have htk : R.take (i + 1) = R.take i ++ [y.k] := by
      have : R[i] = y.k := by rw [hyk, List.getD_eq_getElem?_getD, List.getElem?_eq_getElem hlt]; rfl
      rw [List.take_succ_eq_append_getElem hlt, this]
    have hup : ∀ z ∈ R.take i, z ≤ y.k := fun z hz => by
      rw [← List.take_append_drop (i + 1) R, htk, List.append_assoc, List.pairwise_append] at hsort
      exact hsort.2.2 z hz y.k (by simp)
    have ha := hsx.ats y hy
    haveI := l32 ha.hd.prev
    haveI := l32 ha.hd.vals
    haveI := l32 ha.hd.next
    haveI := l32 ha.hd.app
    haveI := l32 ha.hash
    haveI : HGet h' p _ := ⟨hsx.gp⟩
    haveI : HGet h' m _ := ⟨hsx.gm⟩
    haveI : HGet h' y.b _ := ⟨ha.get⟩
    refine stp ?_
    rw [← hyk]
    refine O.how (v := .pointer (some ⟨y.b, 0, none⟩)) (XOp.lookupYes1 (l := l.map SE.ent) (c := c) (e := y.ent) he hsx.ok rfl) ?_
    refine stp ?_
    -- one that does not count
    have skip : ¬ (y.v = true ∧ y.k < k) → ∀ {v5 : Value} {hx : Heap}, Fr (fun j => j = h.n) h1 hx →
        (v5 = .bool false ∧ hx.get h.n = .cells zBc 0 ∧ (∀ z ∈ l, z.v = true → z.k < k → z.k ∉ R.take i) ∨
       ∃ y ∈ l, y.v = true ∧ y.k < k ∧ (∀ z ∈ l, z.v = true → z.k < k → z.k ∈ R.take i → z.k ≤ y.k) ∧ v5 = .bool true ∧ ∃ sw sm, hx.get h.n = .cells (y.x.cells sw sm) 0 ∧ BkNew (h.n + 1) hx y.x sw sm) →
        (v5 = .bool false ∧ hx.get h.n = .cells zBc 0 ∧ (∀ z ∈ l, z.v = true → z.k < k → z.k ∉ R.take (i + 1)) ∨
       ∃ y ∈ l, y.v = true ∧ y.k < k ∧ (∀ z ∈ l, z.v = true → z.k < k → z.k ∈ R.take (i + 1) → z.k ≤ y.k) ∧ v5 = .bool true ∧ ∃ sw sm, hx.get h.n = .cells (y.x.cells sw sm) 0 ∧ BkNew (h.n + 1) hx y.x sw sm) := fun hno v5 hx hfx hcs => by
      have same : ∀ z ∈ l, z.v = true → z.k < k → z.k ∈ R.take (i + 1) → z.k ∈ R.take i := fun z hz h1 h2 h3 => by
        rw [htk] at h3
        rcases List.mem_append.1 h3 with h3 | h3
        · exact h3
        · have : z = y := key_inj hs hz hy (List.mem_singleton.1 h3)
          rw [this] at h1 h2
          exact absurd ⟨h1, h2⟩ hno
      rcases hcs with ⟨h1, h2, h3⟩ | ⟨y', h1, h2, h3, h4, h5⟩
      · exact .inl ⟨h1, h2, fun z hz h4 h5 h6 => h3 z hz h4 h5 (same z hz h4 h5 h6)⟩
      · exact .inr ⟨y', h1, h2, h3, fun z hz h6 h7 h8 => h4 z hz h6 h7 (same z hz h6 h7 h8), h5⟩
    refine O.dec (fun hk1 => ?_) (fun hk1 => ?_)
    · refine stp ?_
      refine C.ifB (fun hv1 => ?_) (fun hv1 => ?_)
      · have gx : ∃ cs, h'.get h.n = .cells cs 0 ∧ cs.length = 166 := by
          rcases hcase with ⟨_, h2, _⟩ | ⟨y', _, _, _, _, _, sw, sm, h2, h3⟩
          · exact ⟨_, h2, rfl⟩
          · exact ⟨_, h2, bk_len h3.hd h3.hash⟩
        obtain ⟨cs, gx, hcs⟩ := gx
        refine stp ?_
        refine O.call' (sown_ok (x := y.x) (sv := y.sv) (sl := y.sl) ⟨ha.hd, ha.hash, ha.sv.rd, ha.sl.rd⟩ (by have := ha.lv; omega) (by have := ha.ll; omega)) (fun r h3 hr => ?_)
        obtain ⟨sw, sm, rfl, o1, o2, m1, m2, m3, f3⟩ := hr
        haveI : HGet h3 h.n _ := f3.keep ⟨gx⟩ (by omega) id
        obtain ⟨a3, c3, rfl, _, _⟩ := id o1.rd
        obtain ⟨a4, c4, rfl, _, _⟩ := id o2.rd
        have hxs := bk_len (sv := .slice a3 y.x.c.votes.length c3) (sl := .slice a4 y.x.vals.length c4) ha.hd ha.hash
        have hov : over cs 0 (y.x.cells (.slice a3 y.x.c.votes.length c3) (.slice a4 y.x.vals.length c4)) = y.x.cells (.slice a3 y.x.c.votes.length c3) (.slice a4 y.x.vals.length c4) := by
          have := over_whole cs (y.x.cells (.slice a3 y.x.c.votes.length c3) (.slice a4 y.x.vals.length c4)) [] (by omega)
          simpa using this
        refine O.by0 (mkStoreN (c := cs) (xs := y.x.cells (.slice a3 y.x.c.votes.length c3) (.slice a4 y.x.vals.length c4)) (r := h.n) (es := 0) (by omega) One.eq (by omega)) rfl ?_
        rw [hov]
        refine stp ?_
        have fS : ∀ {A : AObj}, Fr (fun i => i = h.n) h3 (h3.set h.n A) := fun {A} => Fr.refl.set fun _ => rfl
        exact loop2a 5 15 (R.length - (i + 1)) (by omega) ⟨i + 1, by omega, rfl, rfl, (hF.trans' (f3.mono fun _ _ e => e.elim)).trans' fS, .inr ⟨y, hy, hv1, hk1, fun z hz h5 h6 h7 => by
          rw [htk] at h7
          rcases List.mem_append.1 h7 with h7 | h7
          · exact hup _ h7
          · rw [List.mem_singleton.1 h7]; exact Int.le_refl _, rfl, _, _, by rw [Heap.get_set, if_pos rfl], ha.hd, ha.hash, o1.keep fS fun i hi e => by have := m1 i hi; omega, o2.keep fS fun i hi e => by have := m2 i hi; omega, fun i hi => by have := m1 i hi; omega, fun i hi => by have := m2 i hi; omega, m3⟩⟩
      · refine stp ?_
        exact loop2a 5 15 (R.length - (i + 1)) (by omega) ⟨i + 1, by omega, rfl, rfl, hF, skip (fun e => by rw [hv1] at e; exact absurd e.1 (by decide)) hF hcase⟩
    · refine stp ?_
      exact loop2a 5 15 (R.length - (i + 1)) (by omega) ⟨i + 1, by omega, rfl, rfl, hF, skip (fun e => hk1 e.2) hF hcase⟩
  · obtain rfl : i = R.length := by omega
    rw [List.take_length] at hcase
    have hRm : ∀ y ∈ l, y.k ∈ R := fun y hy => hR.mem_iff.2 (List.mem_map.2 ⟨y.ent, List.mem_map.2 ⟨y, hy, rfl⟩, rfl⟩)
    have Fe : Fr (fun _ => False) h h' := (F0.trans' f1).trans hF fun i hi e => by omega
    rcases hcase with ⟨rfl, h2, h3⟩ | ⟨y, hy, h2, h3, h4, rfl, sw, sm, h5, h6⟩
    · haveI : HGet h' h.n _ := ⟨h2⟩
      refine stp ?_
      exact ⟨.inr ⟨fun y hy hv hk => h3 y hy hv hk (hRm y hy), rfl⟩, Fe.set fun e => absurd e (by omega)⟩
    · haveI : HGet h' h.n _ := ⟨h5⟩
      haveI := l32 h6.hd.prev
      haveI := l32 h6.hd.vals
      haveI := l32 h6.hd.next
      haveI := l32 h6.hd.app
      haveI := l32 h6.hash
      obtain ⟨a3, c3, rfl, _, _⟩ := id h6.sv.rd
      obtain ⟨a4, c4, rfl, _, _⟩ := id h6.sl.rd
      refine stp ?_
      exact ⟨.inl ⟨y, ⟨hy, h2, h3, fun z hz q1 q2 => h4 z hz q1 q2 (hRm z hz)⟩, _, _, rfl, h6.keep (Fr.refl.set (S := fun i => i = h.n) fun _ => rfl) fun i hi e => by omega⟩, Fe.set fun e => absurd e (by omega)⟩
end Go.Proofs.Ytmhnddkpiefkhaa.A

namespace Go.Proofs.Ytmhnddkpiefkhaa.A
open Go Go.Vm
set_option maxRecDepth 10000
set_option linter.unusedVariables false
structure PB where
  x : Bk
  sv : Value
  sl : Value
abbrev PB.cells (e : PB) : List Value := e.x.cells e.sv e.sl
abbrev zPB : PB := ⟨zBk, .slice none 0 0, .slice none 0 0⟩
def pbcells (l : List PB) : List Value := l.flatMap fun e => e.x.cells e.sv e.sl
structure PB.At (h : Heap) (e : PB) : Prop where
  rd : BkRd h e.x e.sv e.sl
  lv : e.x.c.votes.length ≤ 70
  ll : e.x.vals.length ≤ 70
theorem PB.len {h : Heap} {e : PB} (he : e.At h) : (e.x.cells e.sv e.sl).length = 166 := bk_len he.rd.hd he.rd.hash
theorem pbcells_append (l m : List PB) : pbcells (l ++ m) = pbcells l ++ pbcells m := by simp [pbcells]
theorem pbcells_at {h : Heap} : ∀ {l : List PB} {k : Nat}, (∀ e ∈ l, e.At h) → k < l.length → ((pbcells l).drop (k * 166)).take 166 = (l.getD k zPB).cells
  | e :: l, 0, hl, _ => by
    have := PB.len (hl e (by simp))
    show (((e.x.cells e.sv e.sl) ++ pbcells l).drop (0 * 166)).take 166 = _
    rw [Nat.zero_mul, List.drop_zero, ← this, List.take_left]
    rfl
  | e :: l, k + 1, hl, hk => by
    have h1 := PB.len (hl e (by simp))
    have h2 := pbcells_at (l := l) (k := k) (fun b hb => hl b (by simp [hb])) (by simpa using hk)
    show (((e.x.cells e.sv e.sl) ++ pbcells l).drop ((k + 1) * 166)).take 166 = _
    rw [show (k + 1) * 166 = (e.x.cells e.sv e.sl).length + k * 166 from by omega, ← List.drop_drop, List.drop_left]
    exact h2
theorem pb_cells {h0 h : Heap} {b o n k : Nat} {l : List PB} (hl : ∀ e ∈ l, e.At h0) (hc : cellsAt h b o (n * 166) = some (pbcells l)) (hn : l.length = n) (hk : k < n) : Cells h b (o + k * 166) 166 (l.getD k zPB).cells := ⟨by
  rw [cellsAt_sub hc (by omega), pbcells_at hl (by omega)]⟩
theorem pb_height {h0 h : Heap} {b o n k : Nat} {l : List PB} (hl : ∀ e ∈ l, e.At h0) (hc : cellsAt h b o (n * 166) = some (pbcells l)) (hn : l.length = n) (hk : k < n) : Cell h b (o + k * 166 + 1) (.int .i64 (l.getD k zPB).x.h.height) := ⟨by
  have h1 := (pb_cells hl hc hn hk).eq
  rw [cellsAt_sub h1 (by omega)]
  rfl⟩
theorem pb_one {h : Heap} {e : PB} (he : e.At h) : (e.x.cells e.sv e.sl).all Value.oneCell' = true := by
  obtain ⟨a1, c1, e1, _, _⟩ := id he.rd.sv
  obtain ⟨a2, c2, e2, _, _⟩ := id he.rd.sl
  have ob : ∀ l : List UInt8, (bcells l).all Value.oneCell' = true := fun l => by
    induction l with
    | nil => rfl
    | cons a l ih => exact ih
  simp only [Bk.cells, List.all_cons, List.all_append, ob, e1, e2, List.all_nil]
  rfl
def lastS (l : List PB) (y : Bk) : Bool := match l.reverse.find? (fun e => decide (e.x.h.height = y.h.height)) with
  | some e => sameB e.x y
  | none => false
theorem lastS_snoc (l : List PB) (e : PB) (y : Bk) : lastS (l ++ [e]) y = if e.x.h.height = y.h.height then sameB e.x y else lastS l y := by
  unfold lastS
  rw [List.reverse_append, List.reverse_singleton, List.singleton_append, List.find?_cons]
  by_cases h : e.x.h.height = y.h.height
  · simp [h]
  · simp [h]
theorem lastS_take {l : List PB} {k : Nat} (hk : k < l.length) (y : Bk) : lastS (l.take (k + 1)) y = if (l.getD k zPB).x.h.height = y.h.height then sameB (l.getD k zPB).x y else lastS (l.take k) y := by
  have g : l.getD k zPB = l[k] := by simp [List.getD, hk]
  rw [List.take_succ_eq_append_getElem hk, lastS_snoc, g]
set_option maxHeartbeats 8000000 in
theorem last_ok {h : Heap} {v : Value} {l : List PB} {y : Bk} {sw sm : Value} (hv : Rd h 166 v (pbcells l) l.length) (hl : ∀ e ∈ l, e.At h) (hlen : l.length < 1000000) (hy : BkRd h y sw sm) (h1 : y.c.votes.length ≤ 70) (h2 : y.vals.length ≤ 70) :
    Runs Try.prog T0 (.fn fn_zrQ) [v, .agg ⟨y.cells sw sm⟩] h (fun r h' => r = .bool (lastS l y) ∧ Fr (fun _ => False) h h') (fun _ _ => False) := by
  have hx := hy.hd
  haveI := l32 hx.prev
  haveI := l32 hx.vals
  haveI := l32 hx.next
  haveI := l32 hx.app
  haveI := l32 hy.hash
  obtain ⟨a1, c1, rfl, _, _⟩ := id hy.sv
  obtain ⟨a2, c2, rfl, _, _⟩ := id hy.sl
  obtain ⟨a, cap, rfl, hlv, hc⟩ := id hv
  refine zrQ_runs ?_
  refine stp ?_
  generalize hX : Value.slice a1 y.c.votes.length c1 = xv at *
  generalize hX' : Value.slice a2 y.vals.length c2 = xl at *
  have gA : (h.push (.cells (y.cells xv xl) 0)).get h.n = .cells (y.cells xv xl) 0 := HGet.new.eq
  have F0 : Fr (fun _ => False) h (h.push (.cells (y.cells xv xl) 0)) := Fr.refl.push
  have n0 : (h.push (.cells (y.cells xv xl) 0)).n = h.n + 1 := rfl
  generalize h.push (.cells (y.cells xv xl) 0) = h0 at *
  haveI : HGet h0 h.n _ := ⟨gA⟩
  refine loop1 zrQ_l0_M 5 (fun q v5 hx => ∃ k : Nat, k ≤ l.length ∧ q = k ∧ v5 = .int .i64 ((k : Int) - 1) ∧ lastS l y = lastS (l.take k) y ∧ hx = h0) ?_ l.length ⟨l.length, Nat.le_refl _, rfl, rfl, by rw [List.take_length], rfl⟩
  rintro m v5 h' x4 x9 x10 x11 x12 x13 x14 x15 x16 x17 x18 x19 x20 x21 x22 x23 x24 x25 x26 x27 x28 ⟨k, hk, rfl, rfl, he, rfl⟩
  refine stp ?_
  refine C.if (fun hge => ?_) (fun hlt => ?_)
  · obtain ⟨j, rfl⟩ : ∃ j, m = j + 1 := ⟨m - 1, by omega⟩
    have ej : ((j + 1 : Nat) : Int) - 1 = (j : Int) := by omega
    have hjl : j < l.length := by omega
    obtain ⟨b, o, sp, rfl, hb, hcc⟩ := hc (by omega)
    have hcc' := (cellsAt_keep F0 hb id).trans hcc
    rw [lastS_take hjl] at he
    have cH := pb_height hl hcc' rfl hjl
    have cC := pb_cells hl hcc' rfl hjl
    have hmem : l.getD j zPB ∈ l := by
      rw [List.getD_eq_getElem?_getD, List.getElem?_eq_getElem hjl]
      exact List.getElem_mem hjl
    have hat := hl _ hmem
    generalize l.getD j zPB = E at *
    haveI := cH
    haveI : Cells h' b (o + j * 166) 166 (E.x.cells E.sv E.sl) := cC
    rw [ej]
    refine stp ?_
    refine C.if (fun e1 => ?_) (fun e1 => ?_)
    · rw [if_pos e1] at he
      refine stp ?_
      refine D.callX (SameBlock_ok (hat.rd.keep F0 fun _ _ => id) (hy.keep F0 fun _ _ => id) (by have := hat.lv; omega) (by have := hat.ll; omega) (by omega) (by omega)) (fun r h3 hr => rfl) (fun r h3 hr => ?_) (fun _ _ hx => hx.elim)
      obtain ⟨rfl, f3⟩ := hr
      refine stp ?_
      rw [he]
      exact ⟨rfl, F0.trans' f3⟩
    · rw [if_neg e1] at he
      refine stp ?_
      exact loop1a 5 j (by omega) ⟨j, by omega, rfl, rfl, he, rfl⟩
  · obtain rfl : m = 0 := by omega
    refine stp ?_
    rw [he]
    exact ⟨rfl, F0⟩
theorem sameB_self (x : Bk) : sameB x x = true := by
  unfold sameB
  rw [same_self]
  simp
def LastOK (ps : List PB) (l : List SE) : Prop := ∀ y ∈ l, lastS ps y.x = true
theorem put_last {room : Int} {l l' : List SE} {x : PB} {gone e : Int} {ps : List PB} (h : PutRel room l x.x gone e l') (hp : LastOK ps l) : (e = 0 → LastOK (ps ++ [x]) l') ∧ (e ≠ 0 → l' = l) := by
  have new : ∀ {L : List SE} {n : SE}, (∀ z ∈ L, z ∈ l) → (∀ y ∈ l, y.k ≠ x.x.h.height) → n.x = x.x → LastOK (ps ++ [x]) (L ++ [n]) := fun {L n} hL hne hn y hy => by
    rw [lastS_snoc]
    rcases List.mem_append.1 hy with h1 | h1
    · rw [if_neg (fun q => hne y (hL y h1) q.symm)]
      exact hp y (hL y h1)
    · rw [List.mem_singleton.1 h1, hn, if_pos rfl]
      exact sameB_self _
  rcases h with ⟨_, _, he, hl⟩ | ⟨hin, ⟨_, _, he, hl⟩ | ⟨hne, ⟨_, _, _, he, hl⟩ | ⟨n, hx, _, _, he, ⟨hlt, _, hl⟩ | ⟨hfull, y, hy, hyp, hmin, _, hl⟩⟩⟩⟩
  · exact ⟨fun q => absurd q (by omega), fun _ => hl⟩
  · exact ⟨fun q => absurd q (by omega), fun _ => hl⟩
  · exact ⟨fun q => absurd q (by omega), fun _ => hl⟩
  · exact ⟨fun _ => by rw [hl]; exact new (fun z hz => hz) hne hx, fun q => absurd he q⟩
  · exact ⟨fun _ => by rw [hl]; exact new (fun z hz => (List.mem_filter.1 hz).1) hne hx, fun q => absurd he q⟩
theorem turn_last {k : Int} {l : List SE} {f : SE → SE} {ps : List PB} (hf : ∀ z, (f z).x = z.x) (hp : LastOK ps l) : LastOK ps (turnS k f l) := fun y hy => by
  obtain ⟨z, hz, rfl⟩ := List.mem_map.1 hy
  show lastS ps (if z.k = k then f z else z).x = true
  split
  · rw [hf]; exact hp z hz
  · exact hp z hz
theorem only_last {k : Int} {l : List SE} {ps : List PB} (hp : LastOK ps l) : LastOK ps (onlyS k l) := fun y hy => hp y (List.mem_filter.1 hy).1
theorem last_some {ps : List PB} {y : Bk} (h : lastS ps y = true) : ps ≠ [] := fun e => by rw [e] at h; exact absurd h (by unfold lastS; simp)
def WantS (A : List KK) (k : Int) (w : Int) : Prop := (w = 0 ∨ ∃ a ∈ A, a.v = true ∧ a.k < k ∧ w = a.k) ∧ 0 ≤ w ∧ ∀ a ∈ A, a.v = true → a.k < k → a.k ≤ w
theorem want_step {A : List KK} {i : Nat} {k w : Int} (hi : i < A.length) (hw : WantS (A.take i) k w) (hp : 1 ≤ (A.getD i ⟨0, false, false⟩).k) :
    ((A.getD i ⟨0, false, false⟩).v = true ∧ (A.getD i ⟨0, false, false⟩).k < k → WantS (A.take (i + 1)) k (if (A.getD i ⟨0, false, false⟩).k > w then (A.getD i ⟨0, false, false⟩).k else w)) ∧
    (¬ ((A.getD i ⟨0, false, false⟩).v = true ∧ (A.getD i ⟨0, false, false⟩).k < k) → WantS (A.take (i + 1)) k w) := by
  have g : A.getD i ⟨0, false, false⟩ = A[i] := by simp [List.getD, hi]
  rw [List.take_succ_eq_append_getElem hi, g] at *
  generalize A[i] = E at *
  obtain ⟨h1, h2, h3⟩ := hw
  refine ⟨fun ⟨q1, q2⟩ => ?_, fun q => ⟨?_, h2, fun a ha b1 b2 => ?_⟩⟩
  · by_cases hgt : E.k > w
    · rw [if_pos hgt]
      refine ⟨.inr ⟨E, by simp, q1, q2, rfl⟩, by omega, fun a ha b1 b2 => ?_⟩
      rcases List.mem_append.1 ha with ha | ha
      · have := h3 a ha b1 b2; omega
      · rw [List.mem_singleton.1 ha]; exact Int.le_refl _
    · rw [if_neg hgt]
      refine ⟨h1.imp id fun ⟨a, ha, hb⟩ => ⟨a, List.mem_append.2 (.inl ha), hb⟩, h2, fun a ha b1 b2 => ?_⟩
      rcases List.mem_append.1 ha with ha | ha
      · exact h3 a ha b1 b2
      · rw [List.mem_singleton.1 ha]; omega
  · exact h1.imp id fun ⟨a, ha, hb⟩ => ⟨a, List.mem_append.2 (.inl ha), hb⟩
  · rcases List.mem_append.1 ha with ha | ha
    · exact h3 a ha b1 b2
    · rw [List.mem_singleton.1 ha] at b1 b2
      exact absurd ⟨b1, b2⟩ q
theorem want_none {l : List SE} {A : List KK} {k w : Int} (hA : Shows l A) (hw : WantS A k w) (hb : BelowR l k none) : w = 0 := by
  rcases hw.1 with h | ⟨a, ha, h1, h2, _⟩
  · exact h
  · obtain ⟨z, hz, rfl⟩ := (hA.mem a).1 ha
    exact absurd h2 (hb z hz h1)
theorem want_some {room : Int} {l : List SE} {A : List KK} {k w : Int} {y : SE} (hi : InvS room l) (hA : Shows l A) (hw : WantS A k w) (hb : BelowR l k (some y)) : w = y.k ∧ 0 < w := by
  obtain ⟨hy, hv, hk, hmax⟩ := hb
  have h1 := hw.2.2 y.kk ((hA.mem _).2 ⟨y, hy, rfl⟩) hv hk
  have h1 : y.k ≤ w := h1
  have h2 := hi.pos y hy
  rcases hw.1 with h | ⟨a, ha, q1, q2, q3⟩
  · omega
  · obtain ⟨z, hz, rfl⟩ := (hA.mem a).1 ha
    have h4 : z.k ≤ y.k := hmax z hz q1 q2
    have q3 : w = z.k := q3
    omega
end Go.Proofs.Ytmhnddkpiefkhaa.A

set_option maxRecDepth 100000
set_option linter.unusedVariables false
namespace Go.Proofs.Ytmhnddkpiefkhaa.A
open Go Go.Vm
abbrev fn_znQ : FuncId := 5
def znQ_l0 : ACode :=
 (.seq (.seq (.region [
 o1 38 (.mov (tm 11)),
 o1 39 (.mov (tm 1)),
 o1 40 (.lenSl (tm 39)),
 o1 41 (.bin .lss (so (.binOp .lss 3 (tm 38) (tm 40) 3) 4) (tm 38) (tm 40))]) (.cond (tm 41)
 .skip
 (.exit 0))) (.seq (.block 1 (.seq (.region [
 o1 44 (.mov (tm 1)),
 o1 45 (.mov (tm 11)),
 o1 46 (.indexSl 169 (tm 44) (tm 45)),
 o1 47 (.fieldAddr 0 (tm 46)),
 o1 48 (.load none (tm 47))]) (.block 2 (.seq (.region [
 o1 50 (.bin .eql (so (.binOp .eql 3 (tm 48) k0 3) 4) (tm 48) k0),
 o1 49 (.mov (tm 50))]) (.cond (tm 49)
 (.seq (.region [
 o1 52 (.mov (tm 8)),
 o1 53 (.mov (tm 1)),
 o1 54 (.mov (tm 11)),
 o1 55 (.indexSl 169 (tm 53) (tm 54)),
 o1 56 (.fieldAddr 3 (tm 55)),
 o1 57 (.load (some 166) (tm 56)),
 o1 58 (.callV (.func 21) [(tm 52), (tm 57)]),
 o1 51 (.mov (tm 58)),
 o1 59 (.extract 0 (tm 51)),
 o1 60 (.extract 1 (tm 51)),
 o1 12 (.mov (tm 59)),
 o1 13 (.mov (tm 60))]) (.seq (.region [
 o1 61 (.mov (tm 13)),
 o1 62 (.bin .eql (so (.binOp .eql 24 (tm 61) k0 24) 4) (tm 61) k0)]) (.cond (tm 62)
 (.region [
 o1 63 (.mov (tm 10)),
 o1 64 (.mov (tm 1)),
 o1 65 (.mov (tm 11)),
 o1 66 (.indexSl 169 (tm 64) (tm 65)),
 o1 67 (.fieldAddr 3 (tm 66)),
 o1 68 (.load (some 166) (tm 67)),
 o1 69 (.buildSlice 36 ((.string ⟨⟨[]⟩⟩) :: ((.int .i64 0) :: ((.int .i64 0) :: (z32 ++ (z32 ++ (z32 ++ (z32 ++ ((.int .i64 0) :: (z32 ++ [(.slice none 0 0), (.slice none 0 0)]))))))))) 1 [(0, 166, (tm 68))]),
 o1 70 (.append 36 166 248 ((.string ⟨⟨[]⟩⟩) :: ((.int .i64 0) :: ((.int .i64 0) :: (z32 ++ (z32 ++ (z32 ++ (z32 ++ ((.int .i64 0) :: (z32 ++ [(.slice none 0 0), (.slice none 0 0)]))))))))) false (tm 63) (tm 69)),
 o1 10 (.mov (tm 70))])
 .skip)))
 (.seq (.region [
 o1 72 (.bin .eql (so (.binOp .eql 3 (tm 48) (.const (.int .i64 1)) 3) 4) (tm 48) (.const (.int .i64 1))),
 o1 71 (.mov (tm 72))]) (.cond (tm 71)
 (.regionD [
 o1 73 (.mov (tm 8)),
 o1 74 (.mov (tm 1)),
 o1 75 (.mov (tm 11)),
 o1 76 (.indexSl 169 (tm 74) (tm 75)),
 o1 77 (.fieldAddr 1 (tm 76)),
 o1 78 (.load none (tm 77)),
 o1 79 (.mov (tm 1)),
 o1 80 (.mov (tm 11)),
 o1 81 (.indexSl 169 (tm 79) (tm 80)),
 o1 82 (.fieldAddr 2 (tm 81)),
 o1 83 (.load none (tm 82)),
 o2 84 (.callV (.func 12) [(tm 73), (tm 78), (tm 83)])])
 (.seq (.region [
 o1 86 (.bin .eql (so (.binOp .eql 3 (tm 48) (.const (.int .i64 2)) 3) 4) (tm 48) (.const (.int .i64 2))),
 o1 85 (.mov (tm 86))]) (.cond (tm 85)
 (.region [
 o1 87 (.mov (tm 8)),
 o1 88 (.mov (tm 1)),
 o1 89 (.mov (tm 11)),
 o1 90 (.indexSl 169 (tm 88) (tm 89)),
 o1 91 (.fieldAddr 1 (tm 90)),
 o1 92 (.load none (tm 91)),
 o1 93 (.callV (.func 18) [(tm 87), (tm 92)])])
 (.seq (.region [
 o1 95 (.bin .eql (so (.binOp .eql 3 (tm 48) (.const (.int .i64 3)) 3) 4) (tm 48) (.const (.int .i64 3))),
 o1 94 (.mov (tm 95))]) (.cond (tm 94)
 (.region [
 o1 96 (.mov (tm 8)),
 o1 97 (.mov (tm 1)),
 o1 98 (.mov (tm 11)),
 o1 99 (.indexSl 169 (tm 97) (tm 98)),
 o1 100 (.fieldAddr 1 (tm 99)),
 o1 101 (.load none (tm 100)),
 o1 102 (.callV (.func 13) [(tm 96), (tm 101)])])
 .skip))))))))))) (.region [
 o1 42 (.mov (tm 11)),
 o1 43 (.bin .add (so (.binOp .add 3 (tm 42) (.const (.int .i64 1)) 3) 3) (tm 42) (.const (.int .i64 1))),
 o1 11 (.mov (tm 43))])))
def znQ_l1 : ACode :=
 (.seq (.seq (.region [
 o1 105 (.mov (tm 16)),
 o1 106 (.mov (tm 15)),
 o1 107 (.lenSl (tm 106)),
 o1 108 (.bin .lss (so (.binOp .lss 3 (tm 105) (tm 107) 3) 4) (tm 105) (tm 107))]) (.cond (tm 108)
 .skip
 (.exit 3))) (.seq (.block 4 (.seq (.seq (.region [
 o1 111 (.mov (tm 15)),
 o1 112 (.mov (tm 16)),
 o1 113 (.indexSl 3 (tm 111) (tm 112)),
 o1 114 (.fieldAddr 1 (tm 113)),
 o1 115 (.load none (tm 114)),
 o1 116 (.mov (tm 115)),
 o4 117 (.mov (tm 15)) 116,
 o4 118 (.mov (tm 16)) 116,
 o4 119 (.indexSl 3 (tm 117) (tm 118)) 116,
 o4 120 (.fieldAddr 0 (tm 119)) 116,
 o4 121 (.load none (tm 120)) 116,
 o4 122 (.mov (tm 2)) 116,
 o4 123 (.bin .lss (so (.binOp .lss 3 (tm 121) (tm 122) 3) 4) (tm 121) (tm 122)) 116,
 o1 124 (.pick (tm 116) (tm 123) (.const (.bool false)))]) (.cond (tm 124)
 (.region [
 o1 125 (.mov (tm 14)),
 o1 126 (.mov (tm 15)),
 o1 127 (.mov (tm 16)),
 o1 128 (.indexSl 3 (tm 126) (tm 127)),
 o1 129 (.fieldAddr 0 (tm 128)),
 o1 130 (.load none (tm 129)),
 o1 131 (.raw (so (.call ⟨.builtin .max, #[(tm 125), (tm 130)], #[3, 3]⟩) 3)),
 o1 14 (.mov (tm 131))])
 .skip)) (.seq (.region [
 o1 133 (.mov (tm 8)),
 o1 134 (.mov (tm 15)),
 o1 135 (.mov (tm 16)),
 o1 136 (.indexSl 3 (tm 134) (tm 135)),
 o1 137 (.fieldAddr 0 (tm 136)),
 o1 138 (.load none (tm 137)),
 o1 139 (.callV (.func 14) [(tm 133), (tm 138)]),
 o1 132 (.mov (tm 139)),
 o1 140 (.extract 0 (tm 132)),
 o1 141 (.extract 1 (tm 132)),
 o1 17 (.alloc 36 ((.string ⟨⟨[]⟩⟩) :: ((.int .i64 0) :: ((.int .i64 0) :: (z32 ++ (z32 ++ (z32 ++ (z32 ++ ((.int .i64 0) :: (z32 ++ [(.slice none 0 0), (.slice none 0 0)])))))))))),
 o3 (.store 166 (tm 17) (tm 140)),
 o1 18 (.mov (tm 141))]) (.seq (.region [
 o1 142 (.mov (tm 18)),
 o1 143 (.raw (so (.unOp .not 4 (tm 142)) 4)),
 o1 144 (.mov (tm 143)),
 o5 145 (.mov (tm 10)) 144,
 o5 146 (.lenSl (tm 145)) 144,
 o5 147 (.bin .eql (so (.binOp .eql 3 (tm 146) k0 3) 4) (tm 146) k0) 144,
 o1 148 (.pick (tm 144) (.const (.bool true)) (tm 147)),
 o1 149 (.mov (tm 148)),
 o5 150 (.mov (tm 10)) 149,
 o5 151 (.load (some 166) (tm 17)) 149,
 o5 152 (.callV (.func 23) [(tm 150), (tm 151)]) 149,
 o5 153 (.raw (so (.unOp .not 4 (tm 152)) 4)) 149,
 o1 154 (.pick (tm 149) (.const (.bool true)) (tm 153))]) (.cond (tm 154)
 (.seq (.region [
 o1 6 (.mov (.const (.bool false)))]) .ret)
 .skip))))) (.region [
 o1 109 (.mov (tm 16)),
 o1 110 (.bin .add (so (.binOp .add 3 (tm 109) (.const (.int .i64 1)) 3) 3) (tm 109) (.const (.int .i64 1))),
 o1 16 (.mov (tm 110))])))
def znQ_c : ACode :=
 (.seq (.region [
 o1 6 (.mov (.const (.bool false)))]) (.seq (.region [
 o1 21 (.callV (.func 3) []),
 o1 7 (.mov (tm 21))]) (.seq (.seq (.region [
 o1 22 (.mov (tm 1)),
 o1 23 (.callV (.func 19) [(tm 22)])]) (.cond (tm 23)
 (.seq (.region [
 o1 24 (.mov (tm 7)),
 o1 6 (.mov (tm 24))]) .ret)
 .skip)) (.seq (.region [
 o1 26 (.mov (tm 0)),
 o1 27 (.callV (.func 20) [(tm 26), (.const (.int .i64 12))]),
 o1 28 (.bin .add (so (.binOp .add 3 (.const (.int .i64 1)) (tm 27) 3) 3) (.const (.int .i64 1)) (tm 27)),
 o1 29 (.callV (.func 9) [(tm 28)]),
 o1 25 (.mov (tm 29)),
 o1 30 (.extract 0 (tm 25)),
 o1 31 (.extract 1 (tm 25)),
 o1 8 (.mov (tm 30)),
 o1 9 (.mov (tm 31))]) (.seq (.seq (.region [
 o1 32 (.mov (tm 9)),
 o1 33 (.bin .neq (so (.binOp .neq 24 (tm 32) k0 24) 4) (tm 32) k0),
 o1 34 (.mov (tm 33)),
 o5 35 (.mov (tm 8)) 34,
 o5 36 (.eq .ptr false (so (.binOp .eql 22 (tm 35) (.const (.pointer none)) 22) 4) (tm 35) (.const (.pointer none))) 34,
 o1 37 (.pick (tm 34) (.const (.bool true)) (tm 36))]) (.cond (tm 37)
 (.seq (.region [
 o1 6 (.mov (.const (.bool false)))]) .ret)
 .skip)) (.seq (.region [
 o1 10 (.mov (.const (.slice none 0 0)))]) (.seq (.seq (.region [
 o1 11 (.mov k0)]) (.block 0 (.loop znQ_l0))) (.seq (.region [
 o1 14 (.mov k0)]) (.seq (.region [
 o1 103 (.mov (tm 8)),
 o1 104 (.callV (.func 17) [(tm 103)]),
 o1 15 (.mov (tm 104))]) (.seq (.seq (.region [
 o1 16 (.mov k0)]) (.block 3 (.loop znQ_l1))) (.seq (.region [
 o1 156 (.mov (tm 8)),
 o1 157 (.mov (tm 2)),
 o1 158 (.callV (.func 10) [(tm 156), (tm 157)]),
 o1 155 (.mov (tm 158)),
 o1 159 (.extract 0 (tm 155)),
 o1 160 (.extract 1 (tm 155)),
 o1 19 (.alloc 36 ((.string ⟨⟨[]⟩⟩) :: ((.int .i64 0) :: ((.int .i64 0) :: (z32 ++ (z32 ++ (z32 ++ (z32 ++ ((.int .i64 0) :: (z32 ++ [(.slice none 0 0), (.slice none 0 0)])))))))))),
 o3 (.store 166 (tm 19) (tm 159)),
 o1 20 (.mov (tm 160))]) (.seq (.region [
 o1 161 (.mov (tm 7)),
 o1 162 (.mov (tm 161)),
 o4 163 (.mov (tm 20)) 162,
 o4 164 (.mov (tm 14)) 162,
 o4 165 (.bin .gtr (so (.binOp .gtr 3 (tm 164) k0 3) 4) (tm 164) k0) 162,
 o4 166 (.bin .eql (so (.binOp .eql 4 (tm 163) (tm 165) 4) 4) (tm 163) (tm 165)) 162,
 o1 167 (.pick (tm 162) (tm 166) (.const (.bool false))),
 o1 168 (.mov (tm 167)),
 o4 169 (.mov (tm 20)) 168,
 o4 170 (.raw (so (.unOp .not 4 (tm 169)) 4)) 168,
 o4 171 (.mov (tm 170)) 168,
 o5 172 (.fieldAddr 0 (tm 19)) 171,
 o5 173 (.fieldAddr 1 (tm 172)) 171,
 o5 174 (.load none (tm 173)) 171,
 o5 175 (.mov (tm 14)) 171,
 o5 176 (.bin .eql (so (.binOp .eql 3 (tm 174) (tm 175) 3) 4) (tm 174) (tm 175)) 171,
 o5 177 (.mov (tm 176)) 171,
 o4 178 (.mov (tm 10)) 177,
 o4 179 (.load (some 166) (tm 19)) 177,
 o4 180 (.callV (.func 23) [(tm 178), (tm 179)]) 177,
 o5 181 (.pick (tm 177) (tm 180) (.const (.bool false))) 171,
 o4 182 (.pick (tm 171) (.const (.bool true)) (tm 181)) 168,
 o1 183 (.pick (tm 168) (tm 182) (.const (.bool false))),
 o1 6 (.mov (tm 183))]) .ret))))))))))))
def znQ : AFunc := ⟨184, [(6, none)], znQ_c, none⟩
theorem znQ_t0 : tableOf Try.prog 5 = some znQ := by kernel_rfl
theorem znQ_t : T0 5 = some znQ := withKept_t rfl (withTrue_t rfl znQ_t0)
theorem znQ_runs {v0 v1 v2 : Value} {h : Heap} {R : RP} {X : XP} (k : RunC Try.prog T0 znQ_c ⟨[v0, v1, v2, U, U, U, U, U, U, U, U, U, U, U, U, U, U, U, U, U, U, U, U, U, U, U, U, U, U, U, U, U, U, U, U, U, U, U, U, U, U, U, U, U, U, U, U, U, U, U, U, U, U, U, U, U, U, U, U, U, U, U, U, U, U, U, U, U, U, U, U, U, U, U, U, U, U, U, U, U, U, U, U, U, U, U, U, U, U, U, U, U, U, U, U, U, U, U, U, U, U, U, U, U, U, U, U, U, U, U, U, U, U, U, U, U, U, U, U, U, U, U, U, U, U, U, U, U, U, U, U, U, U, U, U, U, U, U, U, U, U, U, U, U, U, U, U, U, U, U, U, U, U, U, U, U, U, U, U, U, U, U, U, U, U, U, U, U, U, U, U, U, U, U, U, U, U, U, U, U, U, U, U, U], [], h, none⟩ (bodyQ Try.prog T0 [(6, none)] R X)) :
 Runs Try.prog T0 (.fn 5) [v0, v1, v2] h R X := Runs.fn znQ_t rfl k
abbrev znQ_l0_M : List Nat := [0, 0, 0, 0, 0, 0, 0, 0, 0, 0, 2, 2, 1, 1, 0, 0, 0, 0, 0, 0, 0, 0, 0, 0, 0, 0, 0, 0, 0, 0, 0, 0, 0, 0, 0, 0, 0, 0, 1, 1, 1, 1, 1, 1, 1, 1, 1, 1, 1, 1, 1, 1, 1, 1, 1, 1, 1, 1, 1, 1, 1, 1, 1, 1, 1, 1, 1, 1, 1, 1, 1, 1, 1, 1, 1, 1, 1, 1, 1, 1, 1, 1, 1, 1, 1, 1, 1, 1, 1, 1, 1, 1, 1, 1, 1, 1, 1, 1, 1, 1, 1, 1, 1, 0, 0, 0, 0, 0, 0, 0, 0, 0, 0, 0, 0, 0, 0, 0, 0, 0, 0, 0, 0, 0, 0, 0, 0, 0, 0, 0, 0, 0, 0, 0, 0, 0, 0, 0, 0, 0, 0, 0, 0, 0, 0, 0, 0, 0, 0, 0, 0, 0, 0, 0, 0, 0, 0, 0, 0, 0, 0, 0, 0, 0, 0, 0, 0, 0, 0, 0, 0, 0, 0, 0, 0, 0, 0, 0, 0, 0, 0, 0, 0, 0]
abbrev znQ_l1_M : List Nat := [0, 0, 0, 0, 0, 0, 1, 0, 0, 0, 0, 0, 0, 0, 2, 0, 2, 1, 1, 0, 0, 0, 0, 0, 0, 0, 0, 0, 0, 0, 0, 0, 0, 0, 0, 0, 0, 0, 0, 0, 0, 0, 0, 0, 0, 0, 0, 0, 0, 0, 0, 0, 0, 0, 0, 0, 0, 0, 0, 0, 0, 0, 0, 0, 0, 0, 0, 0, 0, 0, 0, 0, 0, 0, 0, 0, 0, 0, 0, 0, 0, 0, 0, 0, 0, 0, 0, 0, 0, 0, 0, 0, 0, 0, 0, 0, 0, 0, 0, 0, 0, 0, 0, 0, 0, 1, 1, 1, 1, 1, 1, 1, 1, 1, 1, 1, 1, 1, 1, 1, 1, 1, 1, 1, 1, 1, 1, 1, 1, 1, 1, 1, 1, 1, 1, 1, 1, 1, 1, 1, 1, 1, 1, 1, 1, 1, 1, 1, 1, 1, 1, 1, 1, 1, 1, 0, 0, 0, 0, 0, 0, 0, 0, 0, 0, 0, 0, 0, 0, 0, 0, 0, 0, 0, 0, 0, 0, 0, 0, 0, 0, 0, 0, 0]
end Go.Proofs.Ytmhnddkpiefkhaa.A

namespace Go.Proofs.Ytmhnddkpiefkhaa.A
open Go Go.Vm
set_option maxRecDepth 10000
set_option linter.unusedVariables false
set_option linter.unusedSimpArgs false
section
variable {P : Program} {ts : List Value} {h : Heap} {x y : Operand} {t t' ty : TypeId} {A : Bool}
instance (priority := high) xeqlT [i : IsBoolT P t] [e : Ev ts x (.bool A)] [e' : Ev ts y (.bool A)] : XOp P ts h (.bin .eql (so (.binOp .eql t x y t') ty) x y) (.bool true) h := by
  have := (XOp.eqlB : XOp P ts h (.bin .eql (so (.binOp .eql t x y t') ty) x y) (.bool (A == A)) h)
  rw [beq_self_eq_true] at this
  exact this
theorem xlss1 {p q : Int} {O : Oper} (hp : p < q) [e1 : Ev ts x (.int .i64 p)] [e2 : Ev ts y (.int .i64 q)] : XOp P ts h (.bin .lss O x y) (.bool true) h := by
  have := (XOp.lssI : XOp P ts h (.bin .lss O x y) (.bool (decide (p < q))) h)
  rw [decide_eq_true hp] at this
  exact this
theorem xgtr1 {p q : Int} {O : Oper} (hp : q < p) [e1 : Ev ts x (.int .i64 p)] [e2 : Ev ts y (.int .i64 q)] : XOp P ts h (.bin .gtr O x y) (.bool true) h := by
  have := (XOp.gtrI : XOp P ts h (.bin .gtr O x y) (.bool (decide (q < p))) h)
  rw [decide_eq_true hp] at this
  exact this
end
theorem PB.At.keep {h h' : Heap} {e : PB} (he : e.At h) (hf : Fr (fun _ => False) h h') : e.At h' := ⟨he.rd.keep hf fun _ _ => id, he.lv, he.ll⟩
theorem one_pb {h : Heap} {e : PB} {hh : Heap} (he : e.At hh) {es : Nat} : newCells (h.push (.cells (e.x.cells e.sv e.sl) es)) 166 zBc false (.slice (some ⟨h.n, 0, none⟩) 1 1) = some (1, e.x.cells e.sv e.sl) :=
  (Rd.mk (size := 166) (n := 1) (cap := 1) (sp := none) (o := 0) (b := h.n) (c := e.x.cells e.sv e.sl) (by simp) (by rw [cellsAt_of (c := e.x.cells e.sv e.sl) (by rw [Heap.get_push, if_pos rfl]; rfl) (by rw [PB.len he]; omega), List.drop_zero, List.take_of_length_le (by rw [PB.len he]; omega)])).new _
set_option maxHeartbeats 16000000 in
theorem StoreBelow_true {h : Heap} {n hh : Int} {w : Value} {l : List AC} (hv : Rd h 169 w (acells l) l.length) (hl : ∀ a ∈ l, BkRd h a.b a.sv a.sl) :
    Runs Try.prog T0 (.fn fn_znQ) [.int .i64 n, w, .int .i64 hh] h (fun r h' => r = .bool true) (fun _ _ => False) := by
  obtain ⟨aw, cw, rfl, hwl, hwc⟩ := id hv
  refine znQ_runs ?_
  refine stp ?_
  refine O.call' zoQ_known (fun r h hr => ?_)
  obtain ⟨rfl, rfl⟩ := hr
  refine stp ?_
  refine O.call' (long_ok hv hl) (fun r h1 hr => ?_)
  obtain ⟨⟨b, rfl, hlong⟩, f1⟩ := hr
  cases b with
  | true =>
    refine stp ?_
    rfl
  | false =>
  obtain ⟨hl40, hacts⟩ := hlong rfl
  refine stp ?_
  refine O.call' (Pick_ok (by decide)) (fun r h2 hr => ?_)
  obtain ⟨rfl, rfl⟩ := hr
  have hpk : 0 ≤ pickS n 12 ∧ pickS n 12 < 12 := by
    unfold pickS
    rw [if_neg (by decide)]
    exact ⟨Int.emod_nonneg _ (by decide), Int.emod_lt_of_pos _ (by decide)⟩
  generalize pickS n 12 = pk at *
  refine stp ?_
  refine O.call' SNew_ok (fun r h3 hr => ?_)
  obtain ⟨f3, hr⟩ := hr
  rcases hr with ⟨hbad, _⟩ | ⟨hroom, rfl, hs3⟩
  · omega
  have F3 := f1.trans' f3
  have hge : h.n ≤ h2.n := f1.n
  have hp0 : h.n ≤ h2.n + 1 := by omega
  generalize hP : h2.n + 1 = p at *
  generalize hM : h2.n = m at *
  generalize hR : 1 + pk = room at *
  refine stp ?_
  have hinv0 : InvS room [] := ⟨by simp; omega, by simp, by simp⟩
  have hmp : ∀ j, Mine p m [] j → h.n ≤ j := fun j hj => by
    rcases hj with h5 | h5 | ⟨_, h5, _⟩
    · omega
    · omega
    · exact absurd h5 (by simp)
  refine loop2 znQ_l0_M 10 11 (fun q v10 v11 hx => ∃ (i c : Nat) (L : List SE) (PS : List PB), i ≤ l.length ∧ q = l.length - i ∧ v11 = .int .i64 i ∧ StAt hx p m c room L ∧ InvS room L ∧ (∀ j, Mine p m L j → h.n ≤ j) ∧ Fr (fun _ => False) h hx ∧
      Own hx 166 v10 (pbcells PS) PS.length ∧ (∀ j, ownedBy v10 j → h.n ≤ j ∧ ¬ Mine p m L j) ∧ PS.length ≤ i ∧ (∀ e ∈ PS, e.At h) ∧ LastOK PS L) ?_ l.length ⟨0, 0, [], [], by omega, rfl, rfl, hs3, hinv0, hmp, F3, .none, fun j hj => hj.elim, by simp, by simp, fun y hy => absurd hy (by simp)⟩
  rintro m v10 v11 h' x12 x13 x38 x39 x40 x41 x42 x43 x44 x45 x46 x47 x48 x49 x50 x51 x52 x53 x54 x55 x56 x57 x58 x59 x60 x61 x62 x63 x64 x65 x66 x67 x68 x69 x70 x71 x72 x73 x74 x75 x76 x77 x78 x79 x80 x81 x82 x83 x84 x85 x86 x87 x88 x89 x90 x91 x92 x93 x94 x95 x96 x97 x98 x99 x100 x101 x102 ⟨i, c, L, PS, hi, rfl, rfl, hs, hinv, hown, hF, oP, nP, hPl, hPa, hPL⟩
  refine stp ?_
  refine C.if (fun hlt => ?_) (fun hge => ?_)
  case refine_2 =>
    have hLl : L.length < 100000 := by have := hinv.le; omega
    refine stp ?_
    refine O.call' (List_ok hs hLl) (fun r h4 hr => ?_)
    obtain ⟨L1, hL1, _, oA, nA, f4⟩ := hr
    have hA : Shows L (L1.map SE.kk) := Shows.of hinv.nd hL1
    have hAl : (L1.map SE.kk).length < 100000 := by rw [hA.len]; exact hLl
    generalize L1.map SE.kk = A at *
    have hs4 := hs.keep f4 fun _ _ => id
    have F4 := hF.trans' f4
    have oP4 := oP.keep f4 fun _ _ => id
    obtain ⟨aA, cA, rfl, hlA, hcA⟩ := id oA.rd
    obtain ⟨aP, cP, rfl, hlP, hcP⟩ := id oP4.rd
    have hlast := fun {hx : Heap} {y : Bk} {sw sm : Value} (f : Fr (fun _ => False) h4 hx) (hb : BkRd hx y sw sm) => last_ok (y := y) (sw := sw) (sm := sm) (oP4.keep f fun _ _ => id).rd (fun e he => ((hPa e he).keep F4).keep f) (by omega) hb
    refine stp ?_
    refine loop2 znQ_l1_M 14 16 (fun q v14 v16 hx => ∃ (k : Nat) (W : Int), k ≤ A.length ∧ q = A.length - k ∧ v14 = .int .i64 W ∧ v16 = .int .i64 k ∧ WantS (A.take k) hh W ∧ Fr (fun _ => False) h4 hx) ?_ A.length ⟨0, 0, by omega, rfl, rfl, rfl, ⟨.inl rfl, by omega, by simp⟩, Fr.refl⟩
    rintro m v14 v16 h' x6 x17 x18 x105 x106 x107 x108 x109 x110 x111 x112 x113 x114 x115 x116 x117 x118 x119 x120 x121 x122 x123 x124 x125 x126 x127 x128 x129 x130 x131 x132 x133 x134 x135 x136 x137 x138 x139 x140 x141 x142 x143 x144 x145 x146 x147 x148 x149 x150 x151 x152 x153 x154 ⟨k, W, hk, rfl, rfl, rfl, hW, hG⟩
    have hs5 := hs4.keep hG fun _ _ => id
    refine stp ?_
    refine C.if (fun hlt2 => ?_) (fun hge2 => ?_)
    · have hlt2 : k < A.length := by omega
      have oAx := (oA.keep hG fun _ _ => id).rd
      obtain ⟨_, _, e1, _, hcx⟩ := id oAx
      obtain ⟨bA, kA, sA, e2, hbA, hccA⟩ := hcx (by omega)
      injection e1 with e1 _ _
      rw [e2] at e1
      subst e1
      have hmemA : A.getD k ⟨0, false, false⟩ ∈ A := by
        rw [List.getD_eq_getElem?_getD, List.getElem?_eq_getElem hlt2]
        exact List.getElem_mem hlt2
      obtain ⟨y, hy, hyE⟩ := (hA.mem _).1 hmemA
      have hstep := want_step hlt2 hW (by rw [← hyE]; exact hinv.pos y hy)
      have d0 := kk_cell (i := 0) hccA rfl hlt2 (by omega) rfl
      have d1 := kk_cell (i := 1) hccA rfl hlt2 (by omega) rfl
      rw [Nat.add_zero] at d0
      rw [← hyE] at d0 d1 hstep
      have d0 : Cell h' bA (kA + k * 3) (.int .i64 y.k) := d0
      have d1 : Cell h' bA (kA + k * 3 + 1) (.bool y.v) := d1
      haveI := d0
      have hyk : y.kk.k = y.k := rfl
      have hyv : y.kk.v = y.v := rfl
      rw [hyk, hyv] at hstep
      have hgo := Get_ok (k := y.k) hs5
      have hyl := hPL y hy
      have hpne : PS.length ≠ 0 := fun e => last_some hyl (List.length_eq_zero_iff.1 e)
      haveI q0 : ∀ {ts : List Value} {h : Heap} {O : Oper} {x y : Operand} [Ev ts x (.int .i64 (PS.length : Nat))] [Ev ts y (.int .i64 0)], XOp Try.prog ts h (.bin .eql O x y) (.bool false) h := xeql0 (by omega)
      have hya := hs.ats y hy
      haveI := l32 hya.hd.prev
      haveI := l32 hya.hd.vals
      haveI := l32 hya.hd.next
      haveI := l32 hya.hd.app
      haveI := l32 hya.hash
      have key : ∀ {y' : SE}, y' ∈ L → y'.k = y.k → y' = y := fun h1 h2 => key_inj hs h1 hy h2
      have hthree : y.v = false ∨ y.v = true ∧ y.k < hh ∨ y.v = true ∧ ¬ y.k < hh := by
        cases y.v with
        | false => exact .inl rfl
        | true => exact .inr ((Classical.em (y.k < hh)).imp (fun e => ⟨rfl, e⟩) fun e => ⟨rfl, e⟩)
      rcases hthree with hq | ⟨hq, hq2⟩ | ⟨hq, hq2⟩
      case' inl =>
        have hW' := hstep.2 (fun e => by rw [hq] at e; exact absurd e.1 (by decide))
      case' inr.inl =>
        have hW' := hstep.1 ⟨hq, hq2⟩
        haveI q1 : ∀ {ts : List Value} {h : Heap} {O : Oper} {x1 y1 : Operand} [Ev ts x1 (.int .i64 y.k)] [Ev ts y1 (.int .i64 hh)], XOp Try.prog ts h (.bin .lss O x1 y1) (.bool true) h := xlss1 hq2
      case' inr.inr =>
        have hW' := hstep.2 (fun e => hq2 e.2)
        haveI q1 : ∀ {ts : List Value} {h : Heap} {O : Oper} {x1 y1 : Operand} [Ev ts x1 (.int .i64 y.k)] [Ev ts y1 (.int .i64 hh)], XOp Try.prog ts h (.bin .lss O x1 y1) (.bool false) h := xlss0 hq2
      all_goals
        rw [hq] at d1
        haveI := d1
        refine stp ?_
        refine O.call' hgo (fun r h7 hr => ?_)
        obtain ⟨hr, f7⟩ := hr
        rcases hr with ⟨y', hy', hk', sw, sm, rfl, hbn⟩ | ⟨hno, _⟩
        case inr => exact absurd rfl (hno y hy)
        have hyy := key hy' hk'
        rw [hyy] at hbn
        rw [hyy]
        obtain ⟨a3, c3, rfl, _, _⟩ := id hbn.sv.rd
        obtain ⟨a4, c4, rfl, _, _⟩ := id hbn.sl.rd
        refine stp ?_
        refine O.callT (Runs.mono (hlast (hG.trans' f7).push (hbn.rd.keep (Fr.refl.push (S := fun _ => False)) fun _ _ => id) hya.lv hya.ll) (fun r h' hh => (⟨by rw [hh.1, hyl], hh.2⟩ : r = .bool true ∧ Fr (fun _ => False) _ h')) (fun _ _ h => h)) (fun r h8 hr => ?_)
        obtain ⟨rfl, f8⟩ := hr
        refine stp ?_
        exact loop2a 14 16 (A.length - (k + 1)) (by omega) ⟨k + 1, _, by omega, rfl, rfl, rfl, hW', ((hG.trans' f7).push).trans' f8⟩
    · obtain rfl : k = A.length := by omega
      rw [List.take_length] at hW
      refine stp ?_
      refine O.call' (Below_ok hs5 hLl) (fun r h7 hr => ?_)
      obtain ⟨hr, f7⟩ := hr
      rcases hr with ⟨y, hb, sw, sm, rfl, hbn⟩ | ⟨hb, rfl⟩
      · obtain ⟨hw1, hw2⟩ := want_some hinv hA hW hb
        have hy := hb.1
        have hya := hs.ats y hy
        haveI := l32 hya.hd.prev
        haveI := l32 hya.hd.vals
        haveI := l32 hya.hd.next
        haveI := l32 hya.hd.app
        haveI := l32 hya.hash
        obtain ⟨a3, c3, rfl, _, _⟩ := id hbn.sv.rd
        obtain ⟨a4, c4, rfl, _, _⟩ := id hbn.sl.rd
        haveI q1 : ∀ {ts : List Value} {h : Heap} {O : Oper} {x y : Operand} [Ev ts x (.int .i64 W)] [Ev ts y (.int .i64 0)], XOp Try.prog ts h (.bin .gtr O x y) (.bool true) h := xgtr1 hw2
        haveI q2 : ∀ {ts : List Value} {h : Heap} {O : Oper} {x1 y1 : Operand} [Ev ts x1 (.int .i64 y.x.h.height)] [Ev ts y1 (.int .i64 W)], XOp Try.prog ts h (.bin .eql O x1 y1) (.bool true) h := xeql1 hw1.symm
        refine stp ?_
        refine O.callT (Runs.mono (hlast (hG.trans' f7).push (hbn.rd.keep (Fr.refl.push (S := fun _ => False)) fun _ _ => id) hya.lv hya.ll) (fun r h' hh => (⟨by rw [hh.1, hPL y hy], hh.2⟩ : r = .bool true ∧ Fr (fun _ => False) _ h')) (fun _ _ h => h)) (fun r h8 hr => ?_)
        obtain ⟨rfl, f8⟩ := hr
        refine stp ?_
        rfl
      · have hw := want_none hA hW hb
        haveI q1 : ∀ {ts : List Value} {h : Heap} {O : Oper} {x y : Operand} [Ev ts x (.int .i64 W)] [Ev ts y (.int .i64 0)], XOp Try.prog ts h (.bin .gtr O x y) (.bool false) h := xgtr0 (by omega)
        refine stp ?_
        rfl
  have hlt : i < l.length := by omega
  obtain ⟨b, o, sp, rfl, hb, hcc⟩ := hwc (by omega)
  have hLl : L.length < 100000 := by have := hinv.le; omega
  have hccF : ∀ {hx : Heap}, Fr (fun _ => False) h hx → cellsAt hx b o (l.length * 169) = some (acells l) := fun f => (cellsAt_keep f hb id).trans hcc
  have cAll : ∀ {hx : Heap}, Fr (fun _ => False) h hx → Cell hx b (o + i * 169 + 0) (.int .i64 (l.getD i zAC).kind) ∧ Cell hx b (o + i * 169 + 1) (.int .i64 (l.getD i zAC).who) ∧ Cell hx b (o + i * 169 + 2) (.bool (l.getD i zAC).is) ∧ Cells hx b (o + i * 169 + 3) 166 ((l.getD i zAC).b.cells (l.getD i zAC).sv (l.getD i zAC).sl) :=
    fun f => ⟨act_cell (i := 0) hl (hccF f) rfl hlt (by omega) rfl, act_cell (i := 1) hl (hccF f) rfl hlt (by omega) rfl, act_cell (i := 2) hl (hccF f) rfl hlt (by omega) rfl, act_block hl (hccF f) rfl hlt⟩
  simp only [Nat.add_zero] at cAll
  have hm := hl _ (act_mem hlt)
  have hao := hacts _ (act_mem hlt)
  have hblk : ∀ j, blockOf (l.getD i zAC).sv j ∨ blockOf (l.getD i zAC).sl j → j < h.n := fun j hj => hj.elim (Rd.block_lt hm.sv) (Rd.block_lt hm.sl)
  generalize l.getD i zAC = X at *
  obtain ⟨xk, xw, xi, xb, xsv, xsl⟩ := X
  have hm : BkRd h xb xsv xsl := hm
  have hao : actOK ⟨xk, xw, xi, xb, xsv, xsl⟩ := hao
  have hblk : ∀ j, blockOf xsv j ∨ blockOf xsl j → j < h.n := hblk
  haveI := l32 hm.hd.prev
  haveI := l32 hm.hd.vals
  haveI := l32 hm.hd.next
  haveI := l32 hm.hd.app
  haveI := l32 hm.hash
  obtain ⟨cK, cH, cI, cB⟩ := cAll hF
  haveI := cK
  haveI := cH
  haveI := cI
  haveI := cB
  have hmm : h.n ≤ m := hown m (.inr (.inl rfl))
  have hml := hs.ml
  have nF := hF.n
  have hlP : ∀ j, ownedBy v10 j → j < h'.n := fun j hj => oP.lt hj
  refine stp ?_
  refine C.if (fun hk0 => ?_) (fun hk0 => ?_)
  · refine stp ?_
    refine O.call' (Put_ok hs hLl (hm.keep hF fun _ _ => id) hao.2.1 hao.1 (fun j hj => by have := hblk j hj; omega)) (fun r h5 hr => ?_)
    obtain ⟨gone, e, L', c', rfl, hrel, hs5, f5, hmine⟩ := hr
    have hinv5 := put_inv hrel hinv
    have hPT : PB.At h ⟨xb, xsv, xsl⟩ := ⟨hm, hao.2.1, hao.1⟩
    obtain ⟨hlast1, hlast2⟩ := put_last (x := ⟨xb, xsv, xsl⟩) hrel hPL
    have oP5 := oP.keep f5 fun j hj e => (nP j hj).2 (.inr (.inl e))
    have F5 : Fr (fun _ => False) h h5 := hF.trans f5 fun j hj e => by omega
    have n5 := f5.n
    have hown5 : ∀ j, Mine p m L' j → h.n ≤ j := fun j hj => by
      rcases hmine j hj with h8 | h8
      · exact hown j h8
      · omega
    have nP5 : ∀ j, ownedBy v10 j → h.n ≤ j ∧ ¬ Mine p m L' j := fun j hj => ⟨(nP j hj).1, fun hM => by
      rcases hmine j hM with h8 | h8
      · exact (nP j hj).2 h8
      · have := hlP j hj
        omega⟩
    obtain ⟨dK, dH, dI, dB⟩ := cAll F5
    haveI := dB
    by_cases he : e = 0
    · haveI q2 : ∀ {ts : List Value} {h : Heap} {O : Oper} {x y : Operand} [Ev ts x (.int .i64 e)] [Ev ts y (.int .i64 0)], XOp Try.prog ts h (.bin .eql O x y) (.bool true) h := xeql1 he
      have hPT5 := hPT.keep F5
      obtain ⟨a1, c1, rfl, _, _⟩ := id hm.sv
      obtain ⟨a2, c2, rfl, _, _⟩ := id hm.sl
      refine stp ?_
      refine O.append (d := xb.cells _ _) (oP5.keep (S := fun _ => False) Fr.refl.push fun _ _ => id) (one_pb hPT) (PB.len hPT) (pb_one hPT) (by omega) (by omega) (by omega) (fun v6 h6 ho6 hf6 hn6 => ?_)
      have q6 := hf6.n
      simp only [Heap.n_push] at q6 hn6
      have F56 : Fr (ownedBy _) h5 h6 := (Fr.refl.push).trans' hf6
      refine stp ?_
      have hsP : ∀ j, Mine p m L' j → j < h5.n := fun j hj => hs5.mlt hj
      refine loop2a 10 11 (l.length - (i + 1)) (by omega) ⟨i + 1, c', L', PS ++ [⟨xb, .slice a1 xb.c.votes.length c1, .slice a2 xb.vals.length c2⟩], by omega, rfl, rfl, hs5.keep F56 fun j hj e => (nP5 j e).2 hj, hinv5, hown5, F5.trans F56 fun j hj e => by have := (nP5 j e).1; omega, ?_, fun j hj => ?_, by simp; omega, fun z hz => ?_, hlast1 he⟩
      · rw [pbcells_append, List.length_append]
        have e1 : pbcells [⟨xb, .slice a1 xb.c.votes.length c1, .slice a2 xb.vals.length c2⟩] = xb.cells (.slice a1 xb.c.votes.length c1) (.slice a2 xb.vals.length c2) := by simp [pbcells]
        rw [e1]
        exact ho6
      · rcases hn6 j hj with h7 | h7
        · exact nP5 j h7
        · exact ⟨by omega, fun hM => by have := hsP j hM; omega⟩
      · rcases List.mem_append.1 hz with hz | hz
        · exact hPa z hz
        · rw [List.mem_singleton.1 hz]; exact hPT
    · haveI q2 : ∀ {ts : List Value} {h : Heap} {O : Oper} {x y : Operand} [Ev ts x (.int .i64 e)] [Ev ts y (.int .i64 0)], XOp Try.prog ts h (.bin .eql O x y) (.bool false) h := xeql0 he
      have hLe := hlast2 he
      subst hLe
      refine stp ?_
      exact loop2a 10 11 (l.length - (i + 1)) (by omega) ⟨i + 1, c', _, PS, by omega, rfl, rfl, hs5, hinv5, hown5, F5, oP5, nP5, by omega, hPa, hPL⟩
  have Fb : ∀ {hx hy : Heap}, Fr (fun _ => False) h hx → Fr (fun i => ∃ y ∈ L, i = y.b) hx hy → Fr (fun _ => False) h hy := fun f1 f2 => f1.trans f2 fun j hj ⟨y, hy, e⟩ => by
    have := hown j (.inr (.inr ⟨y, hy, .inl e⟩))
    omega
  refine stp ?_
  refine C.if (fun hk1 => ?_) (fun hk1 => ?_)
  · refine stp ?_
    refine D.callX (Pin_ok hs) (fun r h5 hr => rfl) (fun r h5 hr => ?_) (fun _ _ hx => hx.elim)
    obtain ⟨e, rfl, _, hs5, f5, hmine⟩ := hr
    refine stp ?_
    exact loop2a 10 11 (l.length - (i + 1)) (by omega) ⟨i + 1, c, _, PS, by omega, rfl, rfl, hs5, turn_inv (fun _ => rfl) hinv, fun j hj => hown j (hmine j hj), Fb hF f5, oP.keep f5 fun j hj ⟨y, hy, e⟩ => (nP j hj).2 (.inr (.inr ⟨y, hy, .inl e⟩)), fun j hj => ⟨(nP j hj).1, fun hM => (nP j hj).2 (hmine j hM)⟩, by omega, hPa, turn_last (fun _ => rfl) hPL⟩
  refine stp ?_
  refine C.if (fun hk2 => ?_) (fun hk2 => ?_)
  · refine stp ?_
    refine O.call' (Verify_ok hs) (fun r h5 hr => ?_)
    obtain ⟨e, rfl, _, hs5, f5, hmine⟩ := hr
    refine stp ?_
    exact loop2a 10 11 (l.length - (i + 1)) (by omega) ⟨i + 1, c, _, PS, by omega, rfl, rfl, hs5, turn_inv (fun _ => rfl) hinv, fun j hj => hown j (hmine j hj), Fb hF f5, oP.keep f5 fun j hj ⟨y, hy, e⟩ => (nP j hj).2 (.inr (.inr ⟨y, hy, .inl e⟩)), fun j hj => ⟨(nP j hj).1, fun hM => (nP j hj).2 (hmine j hM)⟩, by omega, hPa, turn_last (fun _ => rfl) hPL⟩
  refine stp ?_
  refine C.if (fun hk3 => ?_) (fun hk3 => ?_)
  case refine_2 =>
    refine stp ?_
    exact loop2a 10 11 (l.length - (i + 1)) (by omega) ⟨i + 1, c, L, PS, by omega, rfl, rfl, hs, hinv, hown, hF, oP, nP, by omega, hPa, hPL⟩
  refine stp ?_
  refine O.call' (Clear_ok hs) (fun r h5 hr => ?_)
  obtain ⟨hs5, f5, hmine⟩ := hr
  refine stp ?_
  exact loop2a 10 11 (l.length - (i + 1)) (by omega) ⟨i + 1, c, _, PS, by omega, rfl, rfl, hs5, only_inv hinv, fun j hj => hown j (hmine j hj), hF.trans f5 fun j hj e => by omega, oP.keep f5 fun j hj e => (nP j hj).2 (.inr (.inl e)), fun j hj => ⟨(nP j hj).1, fun hM => (nP j hj).2 (hmine j hM)⟩, by omega, hPa, only_last hPL⟩
end Go.Proofs.Ytmhnddkpiefkhaa.A

namespace Go.Proofs.Ytmhnddkpiefkhaa.A
open Go Go.Vm
set_option maxRecDepth 100000
set_option linter.unusedVariables false
theorem fits_actsV {h : Heap} {t te : TypeId} {v : Value} (ht : Try.prog.underlying t = some (.slice te)) (f0 : fieldAt Try.prog te 0 = some (0, 3)) (f1 : fieldAt Try.prog te 1 = some (1, 3)) (f2 : fieldAt Try.prog te 2 = some (2, 4)) (f3 : fieldAt Try.prog te 3 = some (3, 36)) (ui : Try.prog.underlying 3 = some (.int .i64)) (ci : Try.prog.cellsOf 3 = 1) (ub : Try.prog.underlying 4 = some .bool) (cB : Try.prog.cellsOf 4 = 1) (cb : Try.prog.cellsOf 36 = 166) (ce : Try.prog.cellsOf te = 169) (hv : FitsV Try.prog h 8 t v) :
    ∃ l : List AC, Rd h 169 v (acells l) l.length ∧ ∀ a ∈ l, BkRd h a.b a.sv a.sl := by
  unfold FitsV at hv
  rw [ht] at hv
  obtain ⟨v', l, e, h1, h2⟩ := fits_acts (n := 0) ht f0 f1 f2 f3 ui ci ub cB cb ce hv
  injection e with e _
  subst e
  exact ⟨l, h1, h2⟩
theorem StoreBelow_run (h : Heap) (vs : List Value) (hf : FitsAll Try.prog h 8 [3, 49, 3] vs) : Runs Try.prog T0 (.fn fn_znQ) vs h (fun r _ => r = .bool true) (fun _ _ => False) := by
  obtain ⟨v1, _, rfl, h1, hf⟩ := hf.cons
  obtain ⟨v2, _, rfl, h2, hf⟩ := hf.cons
  obtain ⟨v3, _, rfl, h3, hf⟩ := hf.cons
  obtain rfl := hf.nil
  obtain ⟨n, rfl, _⟩ := FitsV.int (k := .i64) h1 (by kernel_rfl)
  obtain ⟨k, rfl, _⟩ := FitsV.int (k := .i64) h3 (by kernel_rfl)
  obtain ⟨l, hl, hl2⟩ := fits_actsV (te := 53) (by kernel_rfl) (by kernel_rfl) (by kernel_rfl) (by kernel_rfl) (by kernel_rfl) (by kernel_rfl) (by kernel_rfl) (by kernel_rfl) (by kernel_rfl) (by kernel_rfl) (by kernel_rfl) h2
  exact StoreBelow_true hl hl2
end Go.Proofs.Ytmhnddkpiefkhaa.A

namespace Go.Proofs.Ytmhnddkpiefkhaa.A
open Go Go.Vm
set_option maxRecDepth 100000
theorem ran_3 : allTrue (xcall Try.prog R.tab 1000 60 (.fn 3) [] Heap.init) = true := by kernel_rfl
theorem has_3 : (tableOf Try.prog 3).isSome = true := by kernel_rfl
theorem known : KnownAll Try.prog prims := ⟨⟨Option.isSome_iff_exists.1 has_3, fun w => known_calls (Checked.mixed Try.checked) R.tab_ok ran_3 w⟩, trivial⟩
theorem T0_ok : TableOK Try.prog T0 := withKept_ok (withTrue_ok known) fun k hk => by simp at hk
end Go.Proofs.Ytmhnddkpiefkhaa.A
