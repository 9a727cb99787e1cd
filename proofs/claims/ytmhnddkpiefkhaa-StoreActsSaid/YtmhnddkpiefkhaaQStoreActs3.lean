/- Contracts of functions, over the machine. -/
import Derived.Test.YtmhnddkpiefkhaaQStoreActs2
import Derived.Test.YtmhnddkpiefkhaaVK
import Derived.Test.YtmhnddkpiefkhaaVJ
set_option linter.unusedSimpArgs false
noncomputable section
namespace Go.Proofs.Ytmhnddkpiefkhaa.A
open Go Go.Vm
set_option maxRecDepth 10000
set_option linter.unusedVariables false
theorem Values_ok {h : Heap} {m : Nat} : Runs Try.prog T0 (.fn fn_zmbQ) [.map (some m)] h (fun r h' => r = .func (.func fn_znbQ) ⟨[]⟩ ⟨[.pointer (some ⟨h.n, 0, none⟩)]⟩ ∧ h'.n = h.n + 1 ∧ h'.get h.n = .cells [.map (some m)] 0 ∧ Fr (fun _ => False) h h') (fun _ _ => False) := by
  refine zmbQ_runs ?_
  refine stp ?_
  exact ⟨rfl, rfl, HGet.new.eq, Fr.refl.push⟩
set_option maxHeartbeats 4000000 in
theorem vals1_ok {h : Heap} {bx m c y : Nat} {l : List Ent} {I : List Ent → Heap → Prop} (hbx : h.get bx = .cells [.map (some m)] 0) (hb : bx < h.n) (hm : h.get m = .map (ents l) c) (ml : m < h.n) (ok : EntsOK l c)
    (h0 : ∀ hx, Fr (fun _ => False) h hx → I [] hx)
    (hk : ∀ d hx hx', I d hx → Fr (fun i => i = h.n) hx hx' → I d hx')
    (hr : ∀ d e hx, h.n < hx.n → I d hx → e ∈ l → d.length < l.length → Runs Try.prog T0 (.yield y) [e.v] hx (fun r h' => r = .bool true ∧ I (d ++ [e]) h' ∧ Fr (fun i => i ≠ h.n ∧ i ≠ m) hx h') (fun _ _ => False)) :
    Runs Try.prog T0 (.fn fn_znbQ) [.func (.yield y) ⟨[]⟩ ⟨[]⟩, .pointer (some ⟨bx, 0, none⟩)] h (fun _ h' => ∃ d : List Ent, d.Perm l ∧ I d h') (fun _ _ => False) := by
  haveI : HGet h bx _ := ⟨hbx⟩
  haveI : BLt bx h := ⟨hb⟩
  haveI : HGet h m _ := ⟨hm⟩
  haveI : BLt m h := ⟨ml⟩
  refine znbQ_runs ?_
  refine stp ?_
  refine loop0 znbQ_l0_M (fun k hx => ∃ d, TellE l d ∧ k = l.length - d.length ∧ hx.get h.n = .mapIter (some m) c (d.map Ent.t) c ∧ hx.get m = .map (ents l) c ∧ h.n < hx.n ∧ I d hx) ?_ l.length ⟨[], TellE.nil, rfl, HGet.new.eq, by rw [Heap.get_push, if_neg (by omega)]; exact hm, by simp, h0 _ Fr.refl.push⟩
  rintro m h' x4 x7 x8 x9 x10 x11 x12 x13 x14 ⟨d, ht, rfl, gi, gm, hn, hi⟩
  haveI : HGet h' h.n _ := ⟨gi⟩
  haveI : HGet h' m _ := ⟨gm⟩
  haveI : BLt h.n h' := ⟨hn⟩
  haveI : BNe m h.n := ⟨by omega⟩
  refine stp ?_
  refine O.nextMap (l := l) (c := c) (m := m) (seen := d.map Ent.t) ok (fun hend => ?_) (fun e he => ?_)
  · refine stp ?_
    exact ⟨d, ht.all ok.t hend, hi⟩
  · have hel := (List.mem_filter.1 he).1
    have ht2 := ht.next he
    have hlen := tell_len ht2
    rw [List.length_append, List.length_singleton] at hlen
    refine stp ?_
    refine O.how (XOp.entryMap (m := m) (c := c) (l := l) (seen := d.map Ent.t) (x := e) ok hel) ?_
    refine stp ?_
    refine O.yield (hr d e _ (by simpa using hn) (hk d _ _ hi (Fr.refl.set fun _ => rfl)) hel (by omega)) (fun r h3 hr => ?_)
    obtain ⟨rfl, hi3, hf3⟩ := hr
    refine stp ?_
    refine loop0a (l.length - (d.length + 1)) (by omega) ⟨d ++ [e], ht2, by simp, ?_, ?_, ?_, hi3⟩
    · rw [hf3.get _ (by simpa using hn) (fun q => q.1 rfl), Heap.get_set, if_pos rfl, List.map_append]
      rfl
    · rw [hf3.get _ (by simp; omega) (fun q => q.2 rfl), Heap.get_set, if_neg (by omega), gm]
    · have := hf3.n
      simp at this
      omega
structure SE where
  b : Nat
  t : Nat
  x : Bk
  sv : Value
  sl : Value
  v : Bool
  p : Bool
abbrev SE.k (e : SE) : Int := e.x.h.height
def SE.ent (e : SE) : Ent := ⟨e.x.h.height, .pointer (some ⟨e.b, 0, none⟩), e.t⟩
abbrev SE.cells (e : SE) : List Value := .string ⟨⟨e.x.h.chain⟩⟩ :: .int .i64 e.x.h.height :: .int .i64 e.x.h.time :: (bcells e.x.h.prev ++ (bcells e.x.h.vals ++ (bcells e.x.h.next ++ (bcells e.x.h.app ++ (.int .i64 e.x.c.height :: (bcells e.x.c.hash ++ [e.sv, e.sl, .bool e.v, .bool e.p]))))))
structure SE.At (h : Heap) (e : SE) : Prop where
  hd : e.x.h.ok
  hash : e.x.c.hash.length = 32
  get : h.get e.b = .cells e.cells 0
  lt : e.b < h.n
  sv : Own h 2 e.sv (tcells e.x.c.votes) e.x.c.votes.length
  sl : Own h 5 e.sl (vcells e.x.vals) e.x.vals.length
  lv : e.x.c.votes.length ≤ 70
  ll : e.x.vals.length ≤ 70
def SE.mine (e : SE) (i : Nat) : Prop := i = e.b ∨ ownedBy e.sv i ∨ ownedBy e.sl i
theorem SE.At.keep {S : Nat → Prop} {h h' : Heap} {e : SE} (he : e.At h) (hf : Fr S h h') (hs : ∀ i, e.mine i → ¬ S i) : e.At h' :=
  ⟨he.hd, he.hash, by rw [hf.get _ he.lt (hs _ (.inl rfl))]; exact he.get, hf.lt he.lt, he.sv.keep hf fun i hi => hs i (.inr (.inl hi)), he.sl.keep hf fun i hi => hs i (.inr (.inr hi)), he.lv, he.ll⟩
theorem SE.At.mlt {h : Heap} {e : SE} (he : e.At h) {i : Nat} (hi : e.mine i) : i < h.n := by
  rcases hi with rfl | hi | hi
  · exact he.lt
  · exact he.sv.lt hi
  · exact he.sl.lt hi
def pcells (l : List Nat) : List Value := l.map fun b => .pointer (some ⟨b, 0, none⟩)
theorem pcells_len (l : List Nat) : (pcells l).length = l.length := by simp [pcells]
theorem pcells_append (l m : List Nat) : pcells (l ++ m) = pcells l ++ pcells m := by simp [pcells]
theorem one_ptr {h : Heap} {b es : Nat} : newCells (h.push (.cells [.pointer (some ⟨b, 0, none⟩)] es)) 1 [.pointer none] false (.slice (some ⟨h.n, 0, none⟩) 1 1) = some (1, [.pointer (some ⟨b, 0, none⟩)]) :=
  (Rd.mk (size := 1) (n := 1) (cap := 1) (sp := none) (o := 0) (b := h.n) (c := [.pointer (some ⟨b, 0, none⟩)]) (by simp) (by rw [cellsAt_of (c := [.pointer (some ⟨b, 0, none⟩)]) (by rw [Heap.get_push, if_pos rfl]; rfl) (by simp)]; rfl)).new _
set_option maxHeartbeats 4000000 in
theorem lo_round {h : Heap} {lp p2 : Nat} {e : SE} {v : Value} {L : List Nat} {f0 f1 f3 f4 f5 f6 f7 f8 f9 f10 f11 f12 f13 f14 f15 f16 f17 f18 f19 : Value} (he : e.At h) (hlp : h.get lp = .loop .ready none [f0, f1, .pointer (some ⟨p2, 0, none⟩), f3, f4, f5, f6, f7, f8, f9, f10, f11, f12, f13, f14, f15, f16, f17, f18, f19] [9] zfcQ_ra0 zfcQ_rb0)
    (h2 : h.get p2 = .cells [v] 0) (ho : Own h 1 v (pcells L) L.length) (hL : L.length < 100000) (hv : ∀ i, ownedBy v i → i ≠ lp ∧ i ≠ p2) (ll : lp < h.n) (m2 : p2 < h.n) (n2 : p2 ≠ lp) (nb : e.b ≠ lp) :
    Runs Try.prog T0 (.yield lp) [.pointer (some ⟨e.b, 0, none⟩)] h (fun r g => r = .bool true ∧ g.get lp = .loop .ready none [f0, f1, .pointer (some ⟨p2, 0, none⟩), f3, f4, f5, f6, f7, f8, f9, f10, f11, f12, f13, f14, f15, f16, f17, f18, f19] [9] zfcQ_ra0 zfcQ_rb0 ∧
      (∃ v', g.get p2 = .cells [v'] 0 ∧ Own g 1 v' (pcells (if e.p then L else L ++ [e.b])) (if e.p then L else L ++ [e.b]).length ∧ (∀ i, ownedBy v' i → ownedBy v i ∨ h.n ≤ i)) ∧ Fr (fun i => i = lp ∨ i = p2 ∨ ownedBy v i) h g) (fun _ _ => False) := by
  haveI := l32 he.hd.prev
  haveI := l32 he.hd.vals
  haveI := l32 he.hd.next
  haveI := l32 he.hd.app
  haveI := l32 he.hash
  haveI : HGet h lp _ := ⟨hlp⟩
  haveI : HGet h p2 _ := ⟨h2⟩
  haveI : HGet h e.b _ := ⟨he.get⟩
  haveI : BLt e.b h := ⟨he.lt⟩
  haveI : BLt lp h := ⟨ll⟩
  haveI : BLt p2 h := ⟨m2⟩
  haveI : BNe p2 lp := ⟨n2⟩
  haveI : BNe e.b lp := ⟨nb⟩
  haveI : BNe lp p2 := ⟨fun e => n2 e.symm⟩
  refine Runs.round hlp put_one rfl zfcQ_na0 zfcQ_nb0 zfcQ_ca0 zfcQ_cb0 ?_
  refine stp ?_
  refine A.go ?_
  refine stp ?_
  refine C.ifB (fun e1 => ?_) (fun e1 => ?_)
  · refine stp ?_
    have e1' : e.p = false := by simpa using e1
    rw [e1']
    have hL1 : (L ++ [e.b]).length = L.length + 1 := by simp
    refine O.append ((ho.keep (Fr.refl.set (S := fun i => i = lp) fun _ => rfl) fun b hb e => (hv b hb).1 e).keep (S := fun _ => False) Fr.refl.push fun _ _ => id) one_ptr rfl rfl (by omega) (by omega) (by omega) (fun v6 h6 ho6 hf6 hn6 => ?_)
    have q6 := hf6.n
    simp only [Heap.n_set, Heap.n_push] at q6 hn6
    haveI := hf6.keep (b := lp) inferInstance (by simp; omega) (fun e => (hv lp e).1 rfl)
    haveI := hf6.keep (b := p2) (o := .cells [v] 0) inferInstance (by simp; omega) (fun e => (hv p2 e).2 rfl)
    haveI : BLt lp h6 := ⟨by omega⟩
    haveI : BLt p2 h6 := ⟨by omega⟩
    have F6 : Fr (fun i => i = lp ∨ ownedBy v i) h h6 := ((Fr.refl.set (S := fun i => i = lp ∨ ownedBy v i) fun _ => .inl rfl).push).trans' (hf6.mono fun _ _ e => .inr e)
    obtain ⟨a6, c6, rfl, _, _⟩ := id ho6.rd
    refine stp ?_
    refine A.on ?_
    have fS : ∀ {A B : AObj}, Fr (fun i => i = p2 ∨ i = lp) h6 ((h6.set p2 A).set lp B) := fun {A B} => (Fr.refl.set fun _ => .inl rfl).set fun _ => .inr rfl
    refine ⟨rfl, by rw [Heap.get_set, if_pos rfl], ⟨_, by rw [Heap.get_set, if_neg n2, Heap.get_set, if_pos rfl], ?_, fun i hi => ?_⟩, (F6.mono fun _ _ e => e.elim .inl fun e => .inr (.inr e)).trans' (fS.mono fun _ _ e => e.elim (fun e => .inr (.inl e)) .inl)⟩
    · simp only [Bool.false_eq_true, if_false]
      rw [pcells_append, hL1]
      exact ho6.keep fS fun b hb e => by
        rcases hn6 b hb with h7 | h7
        · have := hv b h7; omega
        · omega
    · rcases hn6 i hi with h7 | h7
      · exact .inl h7
      · exact .inr (by omega)
  · refine stp ?_
    have e1' : e.p = true := by simpa using e1
    rw [e1']
    refine A.on ?_
    have fS : ∀ {B C : AObj}, Fr (fun i => i = lp) h ((h.set lp B).set lp C) := fun {B C} => (Fr.refl.set (S := fun i => i = lp) fun _ => rfl).set fun _ => rfl
    rw [show (if true = true then L else L ++ [e.b]) = L from if_pos rfl]
    exact ⟨rfl, by rw [Heap.get_set, if_pos rfl], ⟨v, by rw [fS.get _ m2 n2]; exact h2, ho.keep fS fun b hb e => (hv b hb).1 e, fun i hi => .inl hi⟩, fS.mono fun _ _ e => .inl e⟩
end Go.Proofs.Ytmhnddkpiefkhaa.A

namespace Go.Proofs.Ytmhnddkpiefkhaa.A
open Go Go.Vm
set_option maxRecDepth 10000
set_option linter.unusedVariables false
structure StAt (h : Heap) (p m c : Nat) (room : Int) (l : List SE) : Prop where
  pl : p < h.n
  ml : m < h.n
  pm : p ≠ m
  gp : h.get p = .cells [.int .i64 room, .map (some m)] 0
  gm : h.get m = .map (ents (l.map SE.ent)) c
  ok : EntsOK (l.map SE.ent) c
  ats : ∀ e ∈ l, e.At h
  sp : ∀ e ∈ l, ∀ i, e.mine i → i ≠ p ∧ i ≠ m
  nd : (l.map SE.b).Nodup
  sv : ∀ e ∈ l, ∀ e' ∈ l, ¬ ownedBy e.sv e'.b ∧ ¬ ownedBy e.sl e'.b
def Mine (p m : Nat) (l : List SE) (i : Nat) : Prop := i = p ∨ i = m ∨ ∃ e ∈ l, e.mine i
theorem StAt.keep {S : Nat → Prop} {h h' : Heap} {p m c : Nat} {room : Int} {l : List SE} (hs : StAt h p m c room l) (hf : Fr S h h') (hn : ∀ i, Mine p m l i → ¬ S i) : StAt h' p m c room l :=
  ⟨hf.lt hs.pl, hf.lt hs.ml, hs.pm, by rw [hf.get _ hs.pl (hn _ (.inl rfl))]; exact hs.gp, by rw [hf.get _ hs.ml (hn _ (.inr (.inl rfl)))]; exact hs.gm, hs.ok,
    fun e he => (hs.ats e he).keep hf fun i hi => hn i (.inr (.inr ⟨e, he, hi⟩)), hs.sp, hs.nd, hs.sv⟩
theorem StAt.mlt {h : Heap} {p m c : Nat} {room : Int} {l : List SE} (hs : StAt h p m c room l) {i : Nat} (hi : Mine p m l i) : i < h.n := by
  rcases hi with rfl | rfl | ⟨e, he, hi⟩
  · exact hs.pl
  · exact hs.ml
  · exact (hs.ats e he).mlt hi
theorem inj_of_nodup {α β : Type} {f : α → β} {l : List α} (h : (l.map f).Nodup) {a b : α} (ha : a ∈ l) (hb : b ∈ l) (e : f a = f b) : a = b := by
  induction l with
  | nil => simp at ha
  | cons x l ih =>
    simp only [List.map_cons, List.nodup_cons] at h
    rcases List.mem_cons.1 ha with h1 | h1 <;> rcases List.mem_cons.1 hb with h2 | h2
    · rw [h1, h2]
    · subst h1; exact absurd (List.mem_map.2 ⟨b, h2, e.symm⟩) h.1
    · subst h2; exact absurd (List.mem_map.2 ⟨a, h1, e⟩) h.1
    · exact ih h.2 h1 h2
theorem perm_back {l D : List SE} {d : List Ent} {c : Nat} (ok : EntsOK (l.map SE.ent) c) (hd : D.map SE.ent = d) (hm : ∀ e ∈ D, e ∈ l) (hp : d.Perm (l.map SE.ent)) : D.Perm l := by
  have ht : (l.map SE.t).Nodup := by have := ok.t; rw [List.map_map] at this; exact this
  have hdn : (D.map SE.t).Nodup := by
    have : (d.map Ent.t).Nodup := ((hp.map Ent.t).nodup_iff).2 ok.t
    rw [← hd, List.map_map] at this
    exact this
  refine perm_of_same (nodup_of_map _ hdn) (nodup_of_map _ ht) fun e => ⟨hm e, fun he => ?_⟩
  have h1 : e.ent ∈ d := hp.mem_iff.2 (List.mem_map.2 ⟨e, he, rfl⟩)
  rw [← hd] at h1
  obtain ⟨e', he', hee⟩ := List.mem_map.1 h1
  have : e' = e := inj_of_nodup ht (hm e' he') he (by have := congrArg Ent.t hee; exact this)
  rwa [this] at he'
noncomputable abbrev lrec (p m bx p2 : Nat) : AObj := .loop .ready none [.pointer (some ⟨p, 0, none⟩), undef, .pointer (some ⟨p2, 0, none⟩), undef, .pointer (some ⟨p, 0, none⟩), .pointer (some ⟨p, 0, none⟩), .pointer (some ⟨p, 1, none⟩), .map (some m), .func (.func fn_znbQ) ⟨[]⟩ ⟨[.pointer (some ⟨bx, 0, none⟩)]⟩, undef, undef, undef, undef, undef, undef, undef, undef, undef, undef, undef] [9] zfcQ_ra0 zfcQ_rb0
def looseL (l : List SE) : List SE := l.filter fun e => !e.p
theorem loose_snoc (D : List SE) (e : SE) : (looseL (D ++ [e])).map SE.b = if e.p then (looseL D).map SE.b else (looseL D).map SE.b ++ [e.b] := by
  unfold looseL
  rw [List.filter_append, List.map_append]
  cases h : e.p <;> simp [h]
set_option maxHeartbeats 8000000 in
theorem loose_ok {h : Heap} {p m c : Nat} {room : Int} {l : List SE} (hs : StAt h p m c room l) (hlen : l.length < 100000) :
    Runs Try.prog T0 (.fn fn_zfcQ) [.pointer (some ⟨p, 0, none⟩)] h
      (fun r h' => ∃ d : List SE, d.Perm (looseL l) ∧ Own h' 1 r (pcells (d.map SE.b)) (d.map SE.b).length ∧ (∀ i, ownedBy r i → h.n ≤ i) ∧ Fr (fun _ => False) h h') (fun _ _ => False) := by
  haveI : HGet h p _ := ⟨hs.gp⟩
  haveI : BLt p h := ⟨hs.pl⟩
  have hml := hs.ml
  have hpl := hs.pl
  refine zfcQ_runs ?_
  refine stp ?_
  have F0 : Fr (fun _ => False) h (h.push (.cells [.slice none 0 0] 0)) := Fr.refl.push
  have n0 : (h.push (.cells [.slice none 0 0] 0)).n = h.n + 1 := rfl
  have g2 : (h.push (.cells [.slice none 0 0] 0)).get h.n = .cells [.slice none 0 0] 0 := by rw [Heap.get_push, if_pos rfl]
  generalize h.push (.cells [.slice none 0 0] 0) = h0 at *
  refine O.call' Values_ok (fun r ha hr => ?_)
  obtain ⟨rfl, na, gx, fa⟩ := hr
  have Fa := F0.trans' fa
  refine stp ?_
  have FL : Fr (fun _ => False) ha ((ha.push (.defs false)).push (lrec p m h0.n h.n)) := Fr.refl.push.push
  have F1 := Fa.trans' FL
  have nl : ((ha.push (.defs false)).push (lrec p m h0.n h.n)).n = ha.n + 2 := rfl
  have hd : (ha.push (.defs false)).n = ha.n + 1 := rfl
  have gq : ((ha.push (.defs false)).push (lrec p m h0.n h.n)).get (ha.n + 1) = lrec p m h0.n h.n := HGet.new.eq
  have FQ : Fr (fun i => i = ha.n + 1 ∨ i = h.n) (ha.push (.defs false)) ((ha.push (.defs false)).push (lrec p m h0.n h.n)) := Fr.refl.push
  refine range_on (J := fun hx => (∃ (d : List SE) (v : Value), d.Perm l ∧ hx.get h.n = .cells [v] 0 ∧ Own hx 1 v (pcells ((looseL d).map SE.b)) ((looseL d).map SE.b).length ∧ ∀ i, ownedBy v i → ha.n + 2 < i) ∧ Fr (fun i => i = ha.n + 1 ∨ i = h.n) (ha.push (.defs false)) hx) ?_ (fun hx hJ => ?_)
  · show Runs _ _ _ _ ((ha.push (.defs false)).push (lrec p m h0.n h.n)) _ _
    generalize (ha.push (.defs false)).push (lrec p m h0.n h.n) = hl at *
    refine Runs.mono (vals1_ok (c := c) (l := l.map SE.ent) (I := fun d hx => hx.get (ha.n + 1) = lrec p m h0.n h.n ∧ (∃ (D : List SE) (v : Value), D.map SE.ent = d ∧ (∀ e ∈ D, e ∈ l) ∧ hx.get h.n = .cells [v] 0 ∧ Own hx 1 v (pcells ((looseL D).map SE.b)) ((looseL D).map SE.b).length ∧ ∀ i, ownedBy v i → ha.n + 2 < i) ∧ ha.n + 1 < hx.n ∧ Fr (fun i => i = ha.n + 1 ∨ i = h.n) (ha.push (.defs false)) hx) (by rw [FL.get _ (by omega) id]; exact gx) (FL.lt (by omega)) (by rw [F1.get _ hml id]; exact hs.gm) (F1.lt hml) hs.ok ?_ ?_ ?_) (fun _ h' hh => ?_) (fun _ _ h => h)
    · intro hx hf
      refine ⟨by rw [hf.get _ (by omega) id]; exact gq, ⟨[], _, rfl, by simp, ?_, .none, fun i hi => hi.elim⟩, hf.lt (by omega), ?_⟩
      · rw [hf.get _ (by omega) id, FL.get _ (by omega) id, fa.get _ (by omega) id]
        exact g2
      · exact FQ.trans' (hf.mono fun _ _ e => e.elim)
    · rintro d hx hx' ⟨i1, ⟨D, v, j1, j2, i2, i3, i4⟩, i5, i6⟩ hf
      have i7 := i6.n
      exact ⟨by rw [hf.get _ i5 (by omega)]; exact i1, ⟨D, v, j1, j2, by rw [hf.get _ (by omega) (by omega)]; exact i2, i3.keep hf fun i hi e => by have := i4 i hi; omega, i4⟩, hf.lt i5, i6.trans hf fun i hi e => by omega⟩
    · rintro d e hx hn ⟨i1, ⟨D, v, j1, j2, i2, i3, i4⟩, i5, i6⟩ he hdl
      have i7 := i6.n
      obtain ⟨s, hsl, rfl⟩ := List.mem_map.1 he
      have FD : Fr (fun i => i = ha.n + 1 ∨ i = h.n) ha hx := Fr.trans' (Fr.refl.push (o := .defs false)) i6
      have FX : Fr (fun _ => False) h hx := Fa.trans FD fun i hi e => by omega
      have hat := hs.ats s hsl
      have hbl := hat.lt
      have hDl : D.length < l.length := by rw [← j1] at hdl; simpa using hdl
      have hLl : ((looseL D).map SE.b).length ≤ D.length := by rw [List.length_map]; exact List.length_filter_le _ _
      refine Runs.mono (lo_round (e := s) (hat.keep FX fun _ _ => id) i1 i2 i3 (by omega) (fun i hi => ?_) i5 (by omega) (by omega) (by omega)) (fun r h' hh => ?_) (fun _ _ h => h)
      · have := i4 i hi
        omega
      · obtain ⟨rfl, k1, ⟨v', k2, k3, k4⟩, k5⟩ := hh
        have k6 : Fr (fun i => i = ha.n + 1 ∨ i = h.n) (ha.push (.defs false)) h' := i6.trans k5 fun i hi e => by
          rcases e with e | e | e
          · exact .inl e
          · exact .inr e
          · have := i4 i e
            omega
        refine ⟨rfl, ⟨k1, ⟨D ++ [s], v', by rw [List.map_append, j1]; rfl, fun x hx => ?_, k2, by rw [loose_snoc]; exact k3, fun i hi => ?_⟩, k5.lt i5, k6⟩, k5.mono fun i hi e => ?_⟩
        · rcases List.mem_append.1 hx with hx | hx
          · exact j2 x hx
          · simp only [List.mem_singleton] at hx
            subst hx
            exact hsl
        · rcases k4 i hi with h7 | h7
          · exact i4 i h7
          · omega
        · rcases e with e | e | e
          · omega
          · omega
          · have := i4 i e
            omega
    · obtain ⟨d, hd2, i1, ⟨D, v, j1, j2, i2, i3, i4⟩, i5, i6⟩ := hh
      exact ⟨i1, ⟨D, v, perm_back hs.ok j1 j2 hd2, i2, i3, i4⟩, i6⟩
  · obtain ⟨⟨d, v, hperm, q4, ho, hnew⟩, hf⟩ := hJ
    have gdf : hx.get ha.n = .defs false := by rw [hf.get _ (by omega) (by omega)]; exact HGet.new.eq
    have FD : Fr (fun i => i = ha.n + 1 ∨ i = h.n) ha hx := Fr.trans' (Fr.refl.push (o := .defs false)) hf
    have hfx : Fr (fun _ => False) h hx := Fa.trans FD fun i hi e => by omega
    have hxn := hf.n
    haveI : HGet hx h.n _ := ⟨q4⟩
    haveI : HGet hx ha.n _ := ⟨gdf⟩
    haveI : BLt h.n hx := ⟨by omega⟩
    haveI : BNe h.n (ha.n + 1) := ⟨by omega⟩
    haveI : BNe ha.n (ha.n + 1) := ⟨by omega⟩
    haveI : BNe ha.n h.n := ⟨by omega⟩
    haveI : BNe h.n ha.n := ⟨by omega⟩
    obtain ⟨a3, c3, rfl, _, _⟩ := id ho.rd
    refine stp ?_
    refine B.retC ?_
    have fS : ∀ {A B C D : AObj}, Fr (fun i => i = ha.n + 1 ∨ i = h.n ∨ i = ha.n) hx ((((hx.set (ha.n + 1) A).set (ha.n + 1) B).set h.n C).set ha.n D) := fun {A B C D} => (((Fr.refl.set fun _ => .inl rfl).set fun _ => .inl rfl).set fun _ => .inr (.inl rfl)).set fun _ => .inr (.inr rfl)
    exact ⟨looseL d, hperm.filter _, ho.keep fS fun b hb e => by have := hnew b hb; omega, fun i hi => by have := hnew i hi; omega, hfx.trans fS fun i hi e => by omega⟩
end Go.Proofs.Ytmhnddkpiefkhaa.A

namespace Go.Proofs.Ytmhnddkpiefkhaa.A
open Go Go.Vm
set_option maxRecDepth 10000
set_option linter.unusedVariables false
def cmpI (a b : Int) : Int := if a < b then -1 else if b < a then 1 else 0
def orI (a b : Int) : Int := if a = 0 then b else a
def rankS (e : SE) : Int := if e.v then 1 else 0
def ordS (a b : SE) : Int := orI (cmpI (rankS a) (rankS b)) (cmpI a.k b.k)
theorem isNaN_ok {h : Heap} {a : Int} : Runs Try.prog T0 (.fn fn_zcQ) [.int .i64 a] h (fun r h' => r = .bool false ∧ h' = h) (fun _ _ => False) := by
  refine zcQ_runs ?_
  refine stp ?_
  exact ⟨by simp, rfl⟩
theorem Compare_ok {h : Heap} {a b : Int} : Runs Try.prog T0 (.fn fn_zaQ) [.int .i64 a, .int .i64 b] h (fun r h' => r = .int .i64 (cmpI a b) ∧ h' = h) (fun _ _ => False) := by
  refine zaQ_runs ?_
  refine stp ?_
  refine O.call' isNaN_ok (fun r h1 hr => ?_)
  obtain ⟨rfl, rfl⟩ := hr
  refine stp ?_
  refine O.call' isNaN_ok (fun r h1 hr => ?_)
  obtain ⟨rfl, rfl⟩ := hr
  refine stp ?_
  unfold cmpI
  refine C.if (fun h1 => ?_) (fun h1 => ?_)
  · refine stp ?_
    rw [if_pos h1]
    exact ⟨rfl, rfl⟩
  · refine stp ?_
    rw [if_neg h1]
    refine C.if (fun h2 => ?_) (fun h2 => ?_)
    · refine stp ?_
      rw [if_pos h2]
      exact ⟨rfl, rfl⟩
    · refine stp ?_
      rw [if_neg h2]
      exact ⟨rfl, rfl⟩
theorem Or_ok {h : Heap} {q : Nat} {a b : Int} (hq : h.get q = .cells [.int .i64 a, .int .i64 b] 0) (ql : q < h.n) : Runs Try.prog T0 (.fn fn_zbQ) [.slice (some ⟨q, 0, none⟩) 2 2] h (fun r h' => r = .int .i64 (orI a b) ∧ h' = h) (fun _ _ => False) := by
  haveI : HGet h q _ := ⟨hq⟩
  refine zbQ_runs ?_
  refine stp ?_
  refine loop1 zbQ_l0_M 8 (fun m v8 hx => hx = h ∧ (m = 2 ∧ v8 = .int .i64 0 ∨ m = 1 ∧ v8 = .int .i64 1 ∧ a = 0 ∨ m = 0 ∧ v8 = .int .i64 2 ∧ a = 0 ∧ b = 0)) ?_ 2 ⟨rfl, .inl ⟨rfl, rfl⟩⟩
  rintro m v8 h' x2 x5 x9 x10 x11 x12 x13 x14 x15 x16 ⟨rfl, ⟨rfl, rfl⟩ | ⟨rfl, rfl, ha⟩ | ⟨rfl, rfl, ha, hb⟩⟩
  · refine stp ?_
    refine C.ifN (fun e1 => ?_) (fun e1 => ?_)
    · refine stp ?_
      unfold orI
      rw [if_neg e1]
      exact ⟨rfl, rfl⟩
    · refine stp ?_
      exact loop1a 8 1 (by omega) ⟨rfl, .inr (.inl ⟨rfl, rfl, e1⟩)⟩
  · refine stp ?_
    refine C.ifN (fun e1 => ?_) (fun e1 => ?_)
    · refine stp ?_
      unfold orI
      rw [if_pos ha]
      exact ⟨rfl, rfl⟩
    · refine stp ?_
      exact loop1a 8 0 (by omega) ⟨rfl, .inr (.inr ⟨rfl, rfl, ha, e1⟩)⟩
  · refine stp ?_
    unfold orI
    rw [if_pos ha, hb]
    exact ⟨rfl, rfl⟩
theorem rank_ok {h : Heap} {e : SE} (he : e.At h) : Runs Try.prog T0 (.fn fn_zocQ) [.pointer (some ⟨e.b, 0, none⟩)] h (fun r h' => r = .int .i64 (rankS e) ∧ h' = h) (fun _ _ => False) := by
  haveI := l32 he.hd.prev
  haveI := l32 he.hd.vals
  haveI := l32 he.hd.next
  haveI := l32 he.hd.app
  haveI := l32 he.hash
  haveI : HGet h e.b _ := ⟨he.get⟩
  refine zocQ_runs ?_
  refine stp ?_
  unfold rankS
  refine C.ifB (fun e1 => ?_) (fun e1 => ?_)
  · refine stp ?_
    rw [if_pos e1]
    exact ⟨rfl, rfl⟩
  · refine stp ?_
    rw [if_neg (by rw [e1]; decide)]
    exact ⟨rfl, rfl⟩
set_option maxHeartbeats 4000000 in
theorem order_ok {h : Heap} {a b : SE} (ha : a.At h) (hb : b.At h) : Runs Try.prog T0 (.fn fn_zncQ) [.pointer (some ⟨a.b, 0, none⟩), .pointer (some ⟨b.b, 0, none⟩)] h (fun r h' => r = .int .i64 (ordS a b) ∧ Fr (fun _ => False) h h') (fun _ _ => False) := by
  haveI := l32 ha.hd.prev
  haveI := l32 ha.hd.vals
  haveI := l32 ha.hd.next
  haveI := l32 ha.hd.app
  haveI := l32 ha.hash
  haveI := l32 hb.hd.prev
  haveI := l32 hb.hd.vals
  haveI := l32 hb.hd.next
  haveI := l32 hb.hd.app
  haveI := l32 hb.hash
  haveI : HGet h a.b _ := ⟨ha.get⟩
  haveI : HGet h b.b _ := ⟨hb.get⟩
  refine zncQ_runs ?_
  refine stp ?_
  refine D.callX (R := fun r h' => r = .int .i64 (rankS a) ∧ h' = h) (X := fun _ _ => False) (rank_ok ha) (fun r h1 hr => ?_) (fun r h1 hr => ?_) (fun _ _ hx => hx.elim)
  · obtain ⟨rfl, rfl⟩ := hr
    exact StabL.ok
  obtain ⟨rfl, rfl⟩ := hr
  refine stp ?_
  refine D.callX (R := fun r h' => r = .int .i64 (rankS b) ∧ h' = _) (X := fun _ _ => False) (rank_ok hb) (fun r h1 hr => ?_) (fun r h1 hr => ?_) (fun _ _ hx => hx.elim)
  · obtain ⟨rfl, rfl⟩ := hr
    exact StabL.ok
  obtain ⟨rfl, rfl⟩ := hr
  refine stp ?_
  refine D.callX (R := fun r h' => r = .int .i64 (cmpI (rankS a) (rankS b)) ∧ h' = _) (X := fun _ _ => False) Compare_ok (fun r h1 hr => ?_) (fun r h1 hr => ?_) (fun _ _ hx => hx.elim)
  · obtain ⟨rfl, rfl⟩ := hr
    exact StabL.ok
  obtain ⟨rfl, rfl⟩ := hr
  refine stp ?_
  refine D.callX (R := fun r h' => r = .int .i64 (cmpI a.k b.k) ∧ h' = _) (X := fun _ _ => False) Compare_ok (fun r h1 hr => rfl) (fun r h1 hr => ?_) (fun _ _ hx => hx.elim)
  obtain ⟨rfl, rfl⟩ := hr
  refine stp ?_
  refine D.callX (X := fun _ _ => False) (Or_ok (a := cmpI (rankS a) (rankS b)) (b := cmpI a.k b.k) HGet.new.eq (by simp)) (fun r h1 hr => rfl) (fun r h1 hr => ?_) (fun _ _ hx => hx.elim)
  obtain ⟨rfl, rfl⟩ := hr
  refine stp ?_
  exact ⟨rfl, Fr.refl.push⟩
end Go.Proofs.Ytmhnddkpiefkhaa.A

namespace Go.Proofs.Ytmhnddkpiefkhaa.A
open Go Go.Vm
set_option maxRecDepth 10000
set_option linter.unusedVariables false
instance : Inhabited SE := ⟨⟨0, 0, zBk, .slice none 0 0, .slice none 0 0, false, false⟩⟩
theorem at_map {α β : Type} [Inhabited α] [Inhabited β] (f : α → β) {l : List α} {i : Nat} (hi : i < l.length) : at' (l.map f) i = f (at' l i) := by
  simp only [at', List.getD_eq_getElem?_getD, List.getElem?_map, List.getElem?_eq_getElem hi, Option.map_some, Option.getD_some]
theorem pget {l : List Nat} {j : List Value} {i : Nat} (hi : i < l.length) : CGet (pcells l ++ j) i (.pointer (some ⟨at' l i, 0, none⟩)) := by
  refine ⟨?_, by rw [List.length_append, pcells_len]; omega⟩
  induction l generalizing i with
  | nil => simp at hi
  | cons a l ih =>
    cases i with
    | zero => rfl
    | succ i => exact ih (by simpa using hi)
def KeyLt (a b : SE) : Prop := rankS a < rankS b ∨ rankS a = rankS b ∧ a.k < b.k
theorem cmpI_cases (x y : Int) : cmpI x y = -1 ∧ x < y ∨ cmpI x y = 1 ∧ y < x ∨ cmpI x y = 0 ∧ x = y := by
  unfold cmpI
  split
  · exact .inl ⟨rfl, by assumption⟩
  · split
    · exact .inr (.inl ⟨rfl, by assumption⟩)
    · exact .inr (.inr ⟨rfl, by omega⟩)
theorem ord_lt (a b : SE) : ordS a b < 0 ↔ KeyLt a b := by
  unfold ordS orI KeyLt
  generalize rankS a = x
  generalize rankS b = y
  generalize a.k = u
  generalize b.k = v
  rcases cmpI_cases x y with ⟨h1, h2⟩ | ⟨h1, h2⟩ | ⟨h1, h2⟩
  · rw [h1, if_neg (by decide)]
    omega
  · rw [h1, if_neg (by decide)]
    omega
  · rw [h1, if_pos rfl]
    rcases cmpI_cases u v with ⟨h3, h4⟩ | ⟨h3, h4⟩ | ⟨h3, h4⟩ <;> rw [h3] <;> omega
set_option maxHeartbeats 4000000 in
theorem MinFunc_ok {h : Heap} {v : Value} {d : List SE} (ho : Own h 1 v (pcells (d.map SE.b)) (d.map SE.b).length) (hd : ∀ e ∈ d, e.At h) (h0 : 0 < d.length) (hl : d.length < 100000) :
    Runs Try.prog T0 (.fn fn_zsbQ) [v, .func (.func fn_zncQ) ⟨[]⟩ ⟨[]⟩] h (fun r h' => ∃ e ∈ d, r = .pointer (some ⟨e.b, 0, none⟩) ∧ (∀ x ∈ d, ¬ KeyLt x e) ∧ Fr (fun _ => False) h h') (fun _ _ => False) := by
  generalize hn : (d.map SE.b).length = n at *
  generalize hc : pcells (d.map SE.b) = cc at *
  have hnl : n = d.length := by rw [← hn]; simp
  refine zsbQ_runs ?_
  cases ho with
  | none => omega
  | lit _ _ => omega
  | grown hq hn0 hle hl3 hl2 hgq =>
    rename_i q kk cap j
    subst hc
    haveI : HGet h q _ := ⟨hgq⟩
    haveI := pget (l := d.map SE.b) (j := j) (i := 0) (by omega)
    refine stp ?_
    refine C.if (fun e => absurd e (by omega)) (fun _ => ?_)
    refine stp ?_
    refine loop2 zsbQ_l0_M 5 6 (fun m v5 v6 hx => ∃ (i : Nat) (e : SE), 1 ≤ i ∧ i ≤ n ∧ m = n - i ∧ v5 = .pointer (some ⟨e.b, 0, none⟩) ∧ v6 = .int .i64 i ∧ e ∈ d ∧ (∀ x ∈ d.take i, ¬ KeyLt x e) ∧ Fr (fun _ => False) h hx) ?_ (n - 1) ⟨1, at' d 0, by omega, by omega, rfl, by rw [at_map SE.b (by omega)], rfl, at_mem (by omega), ?_, Fr.refl⟩
    · rintro m v5 v6 h' x14 x15 x16 x17 x18 x19 x20 x21 x22 x23 x24 x25 x26 x27 x28 x29 x30 x31 ⟨i, e, hi1, hin, rfl, rfl, rfl, he, hmin, hf⟩
      haveI : HGet h' q _ := hf.keep ⟨hgq⟩ hq id
      refine stp ?_
      refine C.if (fun hlt => ?_) (fun hge => ?_)
      · have hlt : i < n := by omega
        haveI := pget (l := d.map SE.b) (j := j) (i := i) (by omega)
        have hai : at' (d.map SE.b) i = (at' d i).b := at_map SE.b (by omega)
        have hmem : at' d i ∈ d := at_mem (by omega)
        have htake : d.take (i + 1) = d.take i ++ [at' d i] := by
          rw [List.take_add_one, at', List.getD_eq_getElem?_getD, List.getElem?_eq_getElem (show i < d.length by omega)]
          rfl
        refine stp ?_
        rw [hai]
        refine O.call' (order_ok ((hd _ hmem).keep hf fun _ _ => id) ((hd e he).keep hf fun _ _ => id)) (fun r h3 hr => ?_)
        obtain ⟨rfl, hf3⟩ := hr
        have hF3 := hf.trans' hf3
        haveI : HGet h3 q _ := hF3.keep ⟨hgq⟩ hq id
        refine stp ?_
        refine C.if (fun hlo => ?_) (fun hlo => ?_)
        · have hk := (ord_lt _ _).1 hlo
          refine stp ?_
          rw [hai]
          refine loop2a 5 6 (n - (i + 1)) (by omega) ⟨i + 1, at' d i, by omega, by omega, rfl, rfl, rfl, hmem, fun x hx => ?_, hF3⟩
          rw [htake] at hx
          rcases List.mem_append.1 hx with hx | hx
          · have := hmin x hx
            intro hxa
            refine this ?_
            unfold KeyLt at *
            omega
          · simp only [List.mem_singleton] at hx
            subst hx
            unfold KeyLt
            omega
        · have hk := fun e1 => hlo ((ord_lt _ _).2 e1)
          refine stp ?_
          refine loop2a 5 6 (n - (i + 1)) (by omega) ⟨i + 1, e, by omega, by omega, rfl, rfl, rfl, he, fun x hx => ?_, hF3⟩
          rw [htake] at hx
          rcases List.mem_append.1 hx with hx | hx
          · exact hmin x hx
          · simp only [List.mem_singleton] at hx
            subst hx
            exact hk
      · refine stp ?_
        obtain rfl : i = n := by omega
        rw [List.take_of_length_le (by omega)] at hmin
        exact ⟨e, he, rfl, hmin, hf⟩
    · intro x hx
      have h1 : d.take 1 = [at' d 0] := by
        cases d with
        | nil => simp at h0
        | cons a d => rfl
      rw [h1, List.mem_singleton] at hx
      subst hx
      unfold KeyLt
      omega
end Go.Proofs.Ytmhnddkpiefkhaa.A

namespace Go.Proofs.Ytmhnddkpiefkhaa.A
open Go Go.Vm
set_option maxRecDepth 10000
set_option linter.unusedVariables false
theorem CloneT_ok {h : Heap} {v : Value} {l : List Vote} (hr : Rd h 2 v (tcells l) l.length) (hs : l.length < 1048576) :
    Runs Try.prog T0 (.fn fn_zqbQ) [v] h
      (fun r h' => Own h' 2 r (tcells l) l.length ∧ Fr (fun _ => False) h h' ∧ ∀ i, ownedBy r i → h.n ≤ i) (fun _ _ => False) := by
  have hr0 := hr
  obtain ⟨a, cap, rfl, hlen, hc⟩ := hr
  refine zqbQ_runs ?_
  cases a with
  | none =>
    have hl : l = [] := by
      cases l with
      | nil => rfl
      | cons b l => obtain ⟨_, _, _, h1, _⟩ := hc (by simp); cases h1
    subst hl
    refine stp ?_
    exact ⟨.none, Fr.refl, fun i hi => hi.elim⟩
  | some a =>
    refine stp ?_
    refine appendLitC hr0 hs (by omega) (fun v' h' h1 h2 h3 => ?_)
    refine stp ?_
    exact ⟨h1, h2, h3⟩
end Go.Proofs.Ytmhnddkpiefkhaa.A

namespace Go.Proofs.Ytmhnddkpiefkhaa.A
open Go Go.Vm
set_option maxRecDepth 10000
set_option linter.unusedVariables false
set_option maxHeartbeats 4000000 in
theorem sown_ok {h : Heap} {x : Bk} {sv sl : Value} (hb : BkRd h x sv sl) (h1 : x.c.votes.length < 1048576) (h2 : x.vals.length < 1048576) :
    Runs Try.prog T0 (.fn fn_zpcQ) [.agg ⟨x.cells sv sl⟩] h
      (fun r h' => ∃ sw sm, r = .agg ⟨x.cells sw sm⟩ ∧ Own h' 2 sw (tcells x.c.votes) x.c.votes.length ∧ Own h' 5 sm (vcells x.vals) x.vals.length ∧ (∀ i, ownedBy sw i → h.n ≤ i) ∧ (∀ i, ownedBy sm i → h.n ≤ i) ∧ (∀ i, ownedBy sm i → ¬ ownedBy sw i) ∧ Fr (fun _ => False) h h') (fun _ _ => False) := by
  have hx := hb.hd
  have hch := hb.hash
  haveI := l32 hx.prev
  haveI := l32 hx.vals
  haveI := l32 hx.next
  haveI := l32 hx.app
  haveI := l32 hch
  obtain ⟨a1, c1, rfl, _, _⟩ := id hb.sv
  obtain ⟨a2, c2, rfl, _, _⟩ := id hb.sl
  refine zpcQ_runs ?_
  refine stp ?_
  have gA : HGet ((h.push (.cells (x.cells (.slice a1 x.c.votes.length c1) (.slice a2 x.vals.length c2)) 0)).push (.cells zBc 0)) h.n (.cells (x.cells (.slice a1 x.c.votes.length c1) (.slice a2 x.vals.length c2)) 0) := HGet.push (k := BLt.new) (g := HGet.new)
  have gB : HGet ((h.push (.cells (x.cells (.slice a1 x.c.votes.length c1) (.slice a2 x.vals.length c2)) 0)).push (.cells zBc 0)) (h.push (.cells (x.cells (.slice a1 x.c.votes.length c1) (.slice a2 x.vals.length c2)) 0)).n (.cells zBc 0) := HGet.new
  have f0 : Fr (fun _ => False) h ((h.push (.cells (x.cells (.slice a1 x.c.votes.length c1) (.slice a2 x.vals.length c2)) 0)).push (.cells zBc 0)) := Fr.refl.push.push
  have n0 : ((h.push (.cells (x.cells (.slice a1 x.c.votes.length c1) (.slice a2 x.vals.length c2)) 0)).push (.cells zBc 0)).n = h.n + 2 := rfl
  have nb : (h.push (.cells (x.cells (.slice a1 x.c.votes.length c1) (.slice a2 x.vals.length c2)) 0)).n = h.n + 1 := rfl
  generalize (h.push (.cells (x.cells (.slice a1 x.c.votes.length c1) (.slice a2 x.vals.length c2)) 0)).push (.cells zBc 0) = h0 at *
  generalize (h.push (.cells (x.cells (.slice a1 x.c.votes.length c1) (.slice a2 x.vals.length c2)) 0)).n = pb at *
  haveI := gA
  haveI : BLt h.n h0 := ⟨by omega⟩
  refine stp ?_
  refine D.callX (CloneV_ok (hb.keep f0 fun _ _ => id).sl h2) (fun r h3 hr => ?_) (fun r h3 hr => ?_) (fun _ _ hx => hx.elim)
  · obtain ⟨_, hf, _⟩ := hr
    haveI := hf.keep gA (by omega) id
    haveI : BLt h.n h3 := ⟨by have := hf.n; omega⟩
    exact StabL.ok
  obtain ⟨ho, hf3, hnew⟩ := hr
  have gA3 := hf3.keep gA (by omega) id
  have gB3 := hf3.keep gB (by omega) id
  have n3 := hf3.n
  have F3 := f0.trans' hf3
  haveI := gA3
  haveI : BLt h.n h3 := ⟨by omega⟩
  refine stp ?_
  refine D.callX (CloneT_ok (hb.keep F3 fun _ _ => id).sv h1) (fun r h4 hr => ?_) (fun r h4 hr => ?_) (fun _ _ hx => hx.elim)
  · obtain ⟨_, hf, _⟩ := hr
    haveI := hf.keep gA3 (by omega) id
    haveI : BLt h.n h4 := ⟨by have := hf.n; omega⟩
    exact StabL.ok
  obtain ⟨hov, hf4, hnv⟩ := hr
  have gA4 := hf4.keep gA3 (by omega) id
  have gB4 := hf4.keep gB3 (by omega) id
  have n4 := hf4.n
  have F4 := F3.trans' hf4
  have ho4 := ho.keep hf4 fun _ _ => id
  obtain ⟨a3, c3, rfl, _, _⟩ := id ho.rd
  obtain ⟨a4, c4, rfl, _, _⟩ := id hov.rd
  haveI := gA4
  haveI := gB4
  haveI : BLt h.n h4 := ⟨by omega⟩
  haveI : BLt pb h4 := ⟨by omega⟩
  haveI : BNe pb h.n := ⟨by omega⟩
  haveI : BNe h.n pb := ⟨by omega⟩
  refine stp ?_
  have f6 : ∀ {o1 o2 : AObj}, Fr (fun i => i = h.n ∨ i = pb) h4 ((h4.set h.n o1).set pb o2) := fun {o1 o2} => (Fr.refl.set fun _ => .inl rfl).set fun _ => .inr rfl
  refine ⟨_, _, rfl, hov.keep f6 fun b hb e => by have := hnv b hb; omega, ho4.keep f6 fun b hb e => by have := hnew b hb; omega, fun i hi => by have := hnv i hi; omega, fun i hi => by have := hnew i hi; omega, fun i hi e => by have := ho.lt hi; have := hnv i e; omega, F4.trans f6 fun i hi e => by omega⟩
theorem snone_ok {h : Heap} {p m c : Nat} {room : Int} {l : List SE} (hs : StAt h p m c room l) : Runs Try.prog T0 (.fn fn_zgcQ) [.pointer (some ⟨p, 0, none⟩)] h (fun r h' => r = .bool false ∧ h' = h) (fun _ _ => False) := by
  haveI : HGet h p _ := ⟨hs.gp⟩
  refine zgcQ_runs ?_
  refine stp ?_
  exact ⟨rfl, rfl⟩
theorem SNew_ok {h : Heap} {room : Int} : Runs Try.prog T0 (.fn fn_ztbQ) [.int .i64 room] h
    (fun r h' => Fr (fun _ => False) h h' ∧ ((room < 1 ∨ 4096 < room) ∧ r = .tuple ⟨[.pointer none, .int .i64 3]⟩ ∨ (1 ≤ room ∧ room ≤ 4096) ∧ r = .tuple ⟨[.pointer (some ⟨h.n + 1, 0, none⟩), .int .i64 0]⟩ ∧ StAt h' (h.n + 1) h.n 0 room [])) (fun _ _ => False) := by
  refine ztbQ_runs ?_
  refine stp ?_
  refine O.dec (fun h1 => ?_) (fun h1 => ?_)
  · refine stp ?_
    exact ⟨Fr.refl, .inl ⟨.inl h1, rfl⟩⟩
  · refine stp ?_
    refine C.if (fun h2 => ?_) (fun h2 => ?_)
    · refine stp ?_
      exact ⟨Fr.refl, .inl ⟨.inr h2, rfl⟩⟩
    · refine stp ?_
      refine ⟨Fr.refl.push.push, .inr ⟨⟨by omega, by omega⟩, rfl, ⟨by simp, by simp; omega, by omega, HGet.new.eq, ?_, EntsOK.nil, by simp, by simp, List.nodup_nil, by simp⟩⟩⟩
      rw [Heap.get_push, if_neg (by simp), Heap.get_push, if_pos rfl]
      rfl
end Go.Proofs.Ytmhnddkpiefkhaa.A

namespace Go.Proofs.Ytmhnddkpiefkhaa.A
open Go Go.Vm
set_option maxRecDepth 10000
set_option linter.unusedVariables false
theorem lookup_any {l : List Ent} {c : Nat} {k : Int} (hn : EntsOK l c) (zero : Value) : ∃ pv b, (b = true → ∃ e ∈ l, e.k = k ∧ pv = e.v) ∧ (b = false → (∀ e ∈ l, e.k ≠ k) ∧ pv = zero) ∧
    ∀ {P : Program} {ts : List Value} {h : Heap} {m x : Operand} {r : Nat} [Ev ts m (.map (some r))] [HGet h r (.map (ents l) c)] [Ev ts x (.int .i64 k)], XOp P ts h (.lookup (.int .i64) zero true m x) (.tuple ⟨[pv, .bool b]⟩) h := by
  by_cases h : ∃ e ∈ l, e.k = k
  · obtain ⟨e, he, hk⟩ := h
    exact ⟨e.v, true, fun _ => ⟨e, he, hk, rfl⟩, fun h => (by cases h), fun {P ts h m x r} _ _ _ => XOp.lookupYes he hn hk⟩
  · have h' : ∀ e ∈ l, e.k ≠ k := fun e he hk => h ⟨e, he, hk⟩
    exact ⟨zero, false, fun h => (by cases h), fun _ => ⟨h', rfl⟩, fun {P ts h m x r} _ _ _ => XOp.lookupNo h'⟩
theorem StAt.del {h : Heap} {p m c : Nat} {room : Int} {l : List SE} (hs : StAt h p m c room l) (q : SE → Bool) : StAt (h.set m (.map (ents ((l.filter q).map SE.ent)) c)) p m c room (l.filter q) := by
  have hf : Fr (fun i => i = m) h (h.set m (.map (ents ((l.filter q).map SE.ent)) c)) := Fr.refl.set fun _ => rfl
  have hm : ∀ e ∈ l.filter q, e ∈ l := fun e he => (List.mem_filter.1 he).1
  refine ⟨hf.lt hs.pl, hf.lt hs.ml, hs.pm, by rw [hf.get _ hs.pl hs.pm]; exact hs.gp, by rw [Heap.get_set, if_pos rfl], ⟨?_, ?_, fun e he => ?_⟩, fun e he => (hs.ats e (hm e he)).keep hf fun i hi => (hs.sp e (hm e he) i hi).2, fun e he => hs.sp e (hm e he), hs.nd.sublist ((List.filter_sublist).map _), fun e he e' he' => hs.sv e (hm e he) e' (hm e' he')⟩
  · exact hs.ok.k.sublist (((List.filter_sublist).map _).map _)
  · exact hs.ok.t.sublist (((List.filter_sublist).map _).map _)
  · obtain ⟨s, hs2, rfl⟩ := List.mem_map.1 he
    exact hs.ok.lt _ (List.mem_map.2 ⟨s, hm s hs2, rfl⟩)
theorem StAt.add {h : Heap} {p m c : Nat} {room : Int} {l : List SE} {n : SE} (hs : StAt h p m c room l) (hn : n.At h) (ht : n.t = c) (hk : ∀ y ∈ l, y.k ≠ n.k) (hm : ∀ i, n.mine i → ¬ Mine p m l i) (hb : ¬ ownedBy n.sv n.b ∧ ¬ ownedBy n.sl n.b) :
    StAt (h.set m (.map (ents (l.map SE.ent ++ [n.ent])) (c + 1))) p m (c + 1) room (l ++ [n]) := by
  have hf : Fr (fun i => i = m) h (h.set m (.map (ents (l.map SE.ent ++ [n.ent])) (c + 1))) := Fr.refl.set fun _ => rfl
  have e1 : (l ++ [n]).map SE.ent = l.map SE.ent ++ [n.ent] := by simp
  have e2 : n.ent = ⟨n.k, .pointer (some ⟨n.b, 0, none⟩), c⟩ := by rw [← ht]; rfl
  refine ⟨hf.lt hs.pl, hf.lt hs.ml, hs.pm, by rw [hf.get _ hs.pl hs.pm]; exact hs.gp, by rw [Heap.get_set, if_pos rfl, e1], ?_, fun e he => ?_, fun e he i hi => ?_, ?_, fun e he e' he' => ?_⟩
  · rw [e1, e2]
    exact hs.ok.add fun e he => by
      obtain ⟨s, hs2, rfl⟩ := List.mem_map.1 he
      exact hk s hs2
  · rcases List.mem_append.1 he with he | he
    · exact (hs.ats e he).keep hf fun i hi => (hs.sp e he i hi).2
    · simp only [List.mem_singleton] at he
      subst he
      exact hn.keep hf fun i hi e => hm i hi (.inr (.inl e))
  · rcases List.mem_append.1 he with he | he
    · exact hs.sp e he i hi
    · simp only [List.mem_singleton] at he
      subst he
      exact ⟨fun e => hm i hi (.inl e), fun e => hm i hi (.inr (.inl e))⟩
  · rw [List.map_append, List.nodup_append]
    refine ⟨hs.nd, by simp, fun a ha b hb e => ?_⟩
    obtain ⟨s, hs2, rfl⟩ := List.mem_map.1 ha
    simp only [List.map_cons, List.map_nil, List.mem_singleton] at hb
    subst hb
    exact hm n.b (.inl rfl) (.inr (.inr ⟨s, hs2, .inl e.symm⟩))
  · rcases List.mem_append.1 he with h1 | h1 <;> rcases List.mem_append.1 he' with h2 | h2
    · exact hs.sv e h1 e' h2
    · have h3 : e' = n := by simpa using h2
      rw [h3]
      exact ⟨fun q => hm n.b (.inl rfl) (.inr (.inr ⟨e, h1, .inr (.inl q)⟩)), fun q => hm n.b (.inl rfl) (.inr (.inr ⟨e, h1, .inr (.inr q)⟩))⟩
    · have h3 : e = n := by simpa using h1
      rw [h3]
      exact ⟨fun q => hm _ (.inr (.inl q)) (.inr (.inr ⟨e', h2, .inl rfl⟩)), fun q => hm _ (.inr (.inr q)) (.inr (.inr ⟨e', h2, .inl rfl⟩))⟩
    · have h3 : e = n := by simpa using h1
      have h4 : e' = n := by simpa using h2
      rw [h3, h4]
      exact hb
def PutRel (room : Int) (l : List SE) (x : Bk) (gone e : Int) (l' : List SE) : Prop :=
  (x.h.height < 1 ∨ 1073741824 < x.h.height) ∧ gone = 0 ∧ e = 13 ∧ l' = l ∨
  (1 ≤ x.h.height ∧ x.h.height ≤ 1073741824) ∧
    ((∃ y ∈ l, y.k = x.h.height) ∧ gone = 0 ∧ e = 8 ∧ l' = l ∨
     (∀ y ∈ l, y.k ≠ x.h.height) ∧
       (room ≤ l.length ∧ (∀ y ∈ l, y.p = true) ∧ gone = 0 ∧ e = 7 ∧ l' = l ∨
        ∃ n : SE, n.x = x ∧ n.v = false ∧ n.p = false ∧ e = 0 ∧
          (l.length < room ∧ gone = 0 ∧ l' = l ++ [n] ∨
           room ≤ l.length ∧ ∃ y ∈ l, y.p = false ∧ (∀ z ∈ l, z.p = false → ¬ KeyLt z y) ∧ gone = y.k ∧ l' = (l.filter fun z => !decide (z.k = y.k)) ++ [n])))
set_option maxHeartbeats 16000000 in
theorem Put_ok {h : Heap} {p m c : Nat} {room : Int} {l : List SE} {x : Bk} {sv sl : Value} (hs : StAt h p m c room l) (hl : l.length < 100000) (hb : BkRd h x sv sl) (hv : x.c.votes.length ≤ 70) (hw : x.vals.length ≤ 70) (hbm : ∀ i, blockOf sv i ∨ blockOf sl i → i ≠ m) :
    Runs Try.prog T0 (.fn fn_zbcQ) [.pointer (some ⟨p, 0, none⟩), .agg ⟨x.cells sv sl⟩] h
      (fun r h' => ∃ gone e l' c', r = .tuple ⟨[.int .i64 gone, .int .i64 e]⟩ ∧ PutRel room l x gone e l' ∧ StAt h' p m c' room l' ∧ Fr (fun i => i = m) h h' ∧ ∀ i, Mine p m l' i → Mine p m l i ∨ h.n ≤ i) (fun _ _ => False) := by
  have hx := hb.hd
  have hch := hb.hash
  haveI := l32 hx.prev
  haveI := l32 hx.vals
  haveI := l32 hx.next
  haveI := l32 hx.app
  haveI := l32 hch
  obtain ⟨a1, c1, rfl, _, _⟩ := id hb.sv
  obtain ⟨a2, c2, rfl, _, _⟩ := id hb.sl
  refine zbcQ_runs ?_
  refine stp ?_
  generalize hX : Value.slice a1 x.c.votes.length c1 = xv at *
  generalize hX' : Value.slice a2 x.vals.length c2 = xl at *
  have gA : (h.push (.cells (x.cells xv xl) 0)).get h.n = .cells (x.cells xv xl) 0 := HGet.new.eq
  have F0 : Fr (fun _ => False) h (h.push (.cells (x.cells xv xl) 0)) := Fr.refl.push
  have n0 : (h.push (.cells (x.cells xv xl) 0)).n = h.n + 1 := rfl
  generalize h.push (.cells (x.cells xv xl) 0) = h0 at *
  have hs0 := hs.keep F0 fun _ _ => id
  have hb0 := hb.keep F0 fun _ _ => id
  haveI : HGet h0 h.n _ := ⟨gA⟩
  haveI : HGet h0 p _ := ⟨hs0.gp⟩
  haveI : HGet h0 m _ := ⟨hs0.gm⟩
  refine O.call' (snone_ok hs0) (fun r h0 hr => ?_)
  obtain ⟨rfl, rfl⟩ := hr
  obtain ⟨pv, b, hb1, hb2, hlk⟩ := lookup_any (k := x.h.height) hs0.ok (.pointer none)
  refine stp ?_
  have hlt0 : h.n < h0.n := by omega
  have FM0 : Fr (fun i => i = m) h h0 := F0.mono fun _ _ e => e.elim
  refine O.dec (fun g1 => ?_) (fun g1 => ?_)
  · refine stp ?_
    exact ⟨0, 13, l, c, rfl, .inl ⟨.inl g1, rfl, rfl, rfl⟩, hs0, FM0, fun i hi => .inl hi⟩
  refine stp ?_
  refine C.if (fun g2 => ?_) (fun g2 => ?_)
  · refine stp ?_
    exact ⟨0, 13, l, c, rfl, .inl ⟨.inr g2, rfl, rfl, rfl⟩, hs0, FM0, fun i hi => .inl hi⟩
  have hin : 1 ≤ x.h.height ∧ x.h.height ≤ 1073741824 := ⟨by omega, by omega⟩
  cases b with
  | true =>
    obtain ⟨e, he, hk, _⟩ := hb1 rfl
    obtain ⟨y, hy, rfl⟩ := List.mem_map.1 he
    refine stp ?_
    exact ⟨0, 8, l, c, rfl, .inr ⟨hin, .inl ⟨⟨y, hy, hk⟩, rfl, rfl, rfl⟩⟩, hs0, FM0, fun i hi => .inl hi⟩
  | false =>
  obtain ⟨hno, rfl⟩ := hb2 rfl
  have hne : ∀ y ∈ l, y.k ≠ x.h.height := fun y hy => hno _ (List.mem_map.2 ⟨y, hy, rfl⟩)
  have elen : (ents (l.map SE.ent)).length = l.length := by simp [ents]
  refine stp ?_
  rw [elen]
  refine C.if (fun hfull => ?full) (fun hfree => ?free)
  case' full =>
    refine stp ?_
    refine O.call' (loose_ok hs0 hl) (fun r h1 hr => ?_)
    obtain ⟨d, hd, hod, hnd, f1⟩ := hr
    have hs1 := hs0.keep f1 fun _ _ => id
    have hdl : (d.map SE.b).length = d.length := by simp
    have hdm : ∀ e ∈ d, e ∈ l ∧ e.p = false := fun e he => by
      have := hd.mem_iff.1 he
      unfold looseL at this
      obtain ⟨q1, q2⟩ := List.mem_filter.1 this
      exact ⟨q1, by simpa using q2⟩
    have hmd : ∀ e ∈ l, e.p = false → e ∈ d := fun e he hp => hd.mem_iff.2 (List.mem_filter.2 ⟨he, by simp [hp]⟩)
    have hdlen : d.length < 100000 := by
      have h1 := hd.length_eq
      have h2 : (looseL l).length ≤ l.length := List.length_filter_le _ _
      omega
    obtain ⟨ad, cd, rfl, _, _⟩ := id hod.rd
    refine stp ?_
    refine C.if (fun hz => ?_) (fun hz => ?_)
    · refine stp ?_
      have hd0 : d = [] := List.length_eq_zero_iff.1 (by omega)
      subst hd0
      refine ⟨0, 7, l, c, rfl, .inr ⟨hin, .inr ⟨hne, .inl ⟨hfull, fun y hy => ?_, rfl, rfl, rfl⟩⟩⟩, hs1, FM0.trans' (f1.mono fun _ _ e => e.elim), fun i hi => .inl hi⟩
      cases hp : y.p with
      | true => rfl
      | false => exact absurd (hmd y hy hp) (by simp)
    refine stp ?_
    refine O.call' (MinFunc_ok hod (fun e he => hs1.ats e (hdm e he).1) (by omega) hdlen) (fun r h2 hr => ?_)
    obtain ⟨y, hyd, rfl, hmin, f2⟩ := hr
    have hs2 := hs1.keep f2 fun _ _ => id
    obtain ⟨hyl, hyp⟩ := hdm y hyd
    have hya := hs2.ats y hyl
    haveI := l32 hya.hd.prev
    haveI := l32 hya.hd.vals
    haveI := l32 hya.hd.next
    haveI := l32 hya.hd.app
    haveI := l32 hya.hash
    have F12 := f1.trans' f2
    haveI : HGet h2 y.b _ := ⟨hya.get⟩
    haveI : HGet h2 p _ := ⟨hs2.gp⟩
    haveI : HGet h2 m _ := ⟨hs2.gm⟩
    refine stp ?_
    refine O.by0 (XOp.deleteYes (l := l.map SE.ent) (c := c) (e := y.ent) (List.mem_map.2 ⟨y, hyl, rfl⟩) hs2.ok rfl).eq rfl ?_
    have e3 : (l.map SE.ent).filter (fun x => !decide (x.k = y.ent.k)) = (l.filter fun z => !decide (z.k = y.k)).map SE.ent := by rw [List.filter_map]; rfl
    rw [e3]
    have hs3 := hs2.del (fun z => !decide (z.k = y.k))
    have fm : Fr (fun i => i = m) h2 (h2.set m (.map (ents ((l.filter fun z => !decide (z.k = y.k)).map SE.ent)) c)) := Fr.refl.set fun _ => rfl
    have F3 : Fr (fun i => i = m) h (h2.set m (.map (ents ((l.filter fun z => !decide (z.k = y.k)).map SE.ent)) c)) := (FM0.trans' (F12.mono fun _ _ e => e.elim)).trans' fm
    have hb3 : BkRd (h2.set m (.map (ents ((l.filter fun z => !decide (z.k = y.k)).map SE.ent)) c)) x xv xl := ⟨hb.hd, hb.hash, hb.sv.keep F3 fun i hi e => hbm i (.inl hi) e, hb.sl.keep F3 fun i hi e => hbm i (.inr hi) e⟩
    have gX3 : (h2.set m (.map (ents ((l.filter fun z => !decide (z.k = y.k)).map SE.ent)) c)).get h.n = .cells (x.cells xv xl) 0 := by
      rw [fm.get _ (by have := F12.n; omega) (by have := hs.ml; omega), F12.get _ hlt0 id]; exact gA
    have hlt3 : h.n < (h2.set m (.map (ents ((l.filter fun z => !decide (z.k = y.k)).map SE.ent)) c)).n := by have := F12.n; simp; omega
    have hsub : ∀ z ∈ (l.filter fun z => !decide (z.k = y.k)), z ∈ l := fun z hz => (List.mem_filter.1 hz).1
    have hrel : ∀ n : SE, n.x = x → n.v = false → n.p = false → PutRel room l x y.x.h.height 0 ((l.filter fun z => !decide (z.k = y.k)) ++ [n]) := fun n q1 q2 q3 =>
      .inr ⟨hin, .inr ⟨hne, .inr ⟨n, q1, q2, q3, rfl, .inr ⟨hfull, y, hyl, hyp, fun z hz hzp => hmin z (hmd z hz hzp), rfl, rfl⟩⟩⟩⟩
    generalize (l.filter fun z => !decide (z.k = y.k)) = L at *
    generalize h2.set m (.map (ents (L.map SE.ent)) c) = hc at *
  case' free =>
    have hs3 := hs0
    have F3 := FM0
    have hb3 := hb0
    have gX3 := gA
    have hlt3 := hlt0
    have hsub : ∀ z ∈ l, z ∈ l := fun z hz => hz
    have hrel : ∀ n : SE, n.x = x → n.v = false → n.p = false → PutRel room l x 0 0 (l ++ [n]) := fun n q1 q2 q3 =>
      .inr ⟨hin, .inr ⟨hne, .inr ⟨n, q1, q2, q3, rfl, .inl ⟨by omega, rfl, rfl⟩⟩⟩⟩
  all_goals
    haveI : HGet _ h.n _ := ⟨gX3⟩
    haveI : HGet _ p _ := ⟨hs3.gp⟩
    haveI : HGet _ m _ := ⟨hs3.gm⟩
    haveI : BLt h.n _ := ⟨hlt3⟩
    haveI : BLt p _ := ⟨hs3.pl⟩
    refine stp ?_
    refine D.callX (sown_ok hb3 (by omega) (by omega)) (fun r h4 hr => ?_) (fun r h4 hr => ?_) (fun _ _ hx => hx.elim)
    · obtain ⟨_, _, _, _, _, _, _, _, f4⟩ := hr
      haveI : HGet h4 h.n _ := f4.keep ⟨gX3⟩ hlt3 id
      haveI : HGet h4 p _ := f4.keep ⟨hs3.gp⟩ hs3.pl id
      repeat refine stab_cons inferInstance ?_
      rfl
    obtain ⟨sw, sm, rfl, o1, o2, m1, m2, m3, f4⟩ := hr
    have hs4 := hs3.keep f4 fun _ _ => id
    obtain ⟨a3, c3, rfl, _, _⟩ := id o1.rd
    obtain ⟨a4, c4, rfl, _, _⟩ := id o2.rd
    haveI : HGet h4 h.n _ := f4.keep ⟨gX3⟩ hlt3 id
    haveI : HGet h4 p _ := ⟨hs4.gp⟩
    haveI : HGet h4 m _ := ⟨hs4.gm⟩
    haveI : BLt h.n h4 := ⟨f4.lt hlt3⟩
    haveI : BLt p h4 := ⟨hs4.pl⟩
    haveI : BLt m h4 := ⟨hs4.ml⟩
    refine stp ?_
    have gP4 := hs4.gp
    have gX4 := f4.get _ hlt3 id
    rw [gX3] at gX4
    refine D.one ?_ ?_
    · repeat refine stab_cons inferInstance ?_
      rfl
    refine stp ?_
    refine D.one0 (k := XOp.mapAdd ?_) rfl ?_
    · exact fun e he => by
        obtain ⟨s, hs2, rfl⟩ := List.mem_map.1 he
        exact hne s (hsub s hs2)
    refine stp ?_
    have q3 := F3.n
    have q4 := f4.n
    have ql : ∀ i, Mine p m _ i → _ := fun i => hs3.mlt (i := i)
    refine ⟨_, _, _, _, rfl, hrel ⟨h4.n, c, x, .slice a3 x.c.votes.length c3, .slice a4 x.vals.length c4, false, false⟩ rfl rfl rfl, (hs4.keep (Fr.refl.push (S := fun _ => False)) fun _ _ => id).add (n := ⟨h4.n, c, x, .slice a3 x.c.votes.length c3, .slice a4 x.vals.length c4, false, false⟩) ⟨hx, hch, HGet.new.eq, Nat.lt_succ_self h4.n, o1.keep (Fr.refl.push (S := fun _ => False)) fun _ _ => id, o2.keep (Fr.refl.push (S := fun _ => False)) fun _ _ => id, hv, hw⟩ rfl (fun y hy => hne y (hsub y hy)) (fun i hi hM => ?_) ⟨fun e => ?_, fun e => ?_⟩, ((F3.trans' (f4.mono fun _ _ e => e.elim)).push).set fun _ => rfl, fun i hi => ?_⟩
    · have h5 := ql i hM
      rcases hi with h6 | h6 | h6
      · have h6 : i = h4.n := h6
        omega
      · have := m1 i h6
        omega
      · have := m2 i h6
        omega
    · exact Nat.lt_irrefl _ (o1.lt e)
    · exact Nat.lt_irrefl _ (o2.lt e)
    · rcases hi with h6 | h6 | ⟨e, he, h6⟩
      · exact .inl (.inl h6)
      · exact .inl (.inr (.inl h6))
      · rcases List.mem_append.1 he with he | he
        · exact .inl (.inr (.inr ⟨e, hsub e he, h6⟩))
        · rw [List.mem_singleton.1 he] at h6
          rcases h6 with h6 | h6 | h6
          · have h6 : i = h4.n := h6
            exact .inr (by omega)
          · have := m1 i h6
            exact .inr (by omega)
          · have := m2 i h6
            exact .inr (by omega)
end Go.Proofs.Ytmhnddkpiefkhaa.A

namespace Go.Proofs.Ytmhnddkpiefkhaa.A
open Go Go.Vm
set_option maxRecDepth 10000
set_option linter.unusedVariables false
theorem key_inj {h : Heap} {p m c : Nat} {room : Int} {l : List SE} (hs : StAt h p m c room l) {a b : SE} (ha : a ∈ l) (hb : b ∈ l) (e : a.k = b.k) : a = b := by
  have ht : (l.map SE.k).Nodup := by have := hs.ok.k; rw [List.map_map] at this; exact this
  exact inj_of_nodup ht ha hb e
def turnS (k : Int) (f : SE → SE) (l : List SE) : List SE := l.map fun z => if z.k = k then f z else z
theorem StAt.turn {h h' : Heap} {p m c : Nat} {room : Int} {l : List SE} (hs : StAt h p m c room l) {y : SE} (hy : y ∈ l) {f : SE → SE} (hf : ∀ z, f z = ⟨z.b, z.t, z.x, z.sv, z.sl, (f z).v, (f z).p⟩) (hF : Fr (fun i => i = y.b) h h') (hg : h'.get y.b = .cells (f y).cells 0) :
    StAt h' p m c room (turnS y.k f l) := by
  have hb : ∀ z, (f z).b = z.b := fun z => by rw [hf]
  have hent : ∀ z, (f z).ent = z.ent := fun z => by rw [hf]; rfl
  have hmi : ∀ z i, (f z).mine i ↔ z.mine i := fun z i => by rw [hf]; exact Iff.rfl
  have e1 : (turnS y.k f l).map SE.ent = l.map SE.ent := by
    unfold turnS
    rw [List.map_map]
    refine List.map_congr_left fun z _ => ?_
    show (if z.k = y.k then f z else z).ent = z.ent
    split
    · exact hent z
    · rfl
  have e2 : (turnS y.k f l).map SE.b = l.map SE.b := by
    unfold turnS
    rw [List.map_map]
    refine List.map_congr_left fun z _ => ?_
    show (if z.k = y.k then f z else z).b = z.b
    split
    · exact hb z
    · rfl
  have hym := hs.sp y hy y.b (.inl rfl)
  refine ⟨hF.lt hs.pl, hF.lt hs.ml, hs.pm, by rw [hF.get _ hs.pl (fun e => hym.1 e.symm)]; exact hs.gp, by rw [hF.get _ hs.ml (fun e => hym.2 e.symm), e1]; exact hs.gm, by rw [e1]; exact hs.ok, fun e he => ?_, fun e he i hi => ?_, by rw [e2]; exact hs.nd, fun e he e' he' => ?_⟩
  · obtain ⟨z, hz, rfl⟩ := List.mem_map.1 he
    show (if z.k = y.k then f z else z).At h'
    by_cases hk : z.k = y.k
    · have hzy : z = y := key_inj hs hz hy hk
      subst hzy
      rw [if_pos rfl]
      have ha := hs.ats z hz
      have hsv := hs.sv z hz z hz
      have h1 : (f z).x = z.x := by rw [hf]
      have h2 : (f z).sv = z.sv := by rw [hf]
      have h3 : (f z).sl = z.sl := by rw [hf]
      refine ⟨by rw [h1]; exact ha.hd, by rw [h1]; exact ha.hash, by rw [hb]; exact hg, by rw [hb]; exact hF.lt ha.lt, ?_, ?_, by rw [h1]; exact ha.lv, by rw [h1]; exact ha.ll⟩
      · rw [h1, h2]; exact ha.sv.keep hF fun b hb e => hsv.1 (by rw [← e]; exact hb)
      · rw [h1, h3]; exact ha.sl.keep hF fun b hb e => hsv.2 (by rw [← e]; exact hb)
    · rw [if_neg hk]
      have hsv := hs.sv z hz y hy
      refine (hs.ats z hz).keep hF fun i hi e => ?_
      rcases hi with h1 | h1 | h1
      · exact hk (by rw [inj_of_nodup hs.nd hz hy (by rw [← h1, e])])
      · exact hsv.1 (by rw [← e]; exact h1)
      · exact hsv.2 (by rw [← e]; exact h1)
  · obtain ⟨z, hz, rfl⟩ := List.mem_map.1 he
    refine hs.sp z hz i ?_
    have hi : (if z.k = y.k then f z else z).mine i := hi
    split at hi
    · exact (hmi z i).1 hi
    · exact hi
  · obtain ⟨z, hz, rfl⟩ := List.mem_map.1 he
    obtain ⟨z', hz', rfl⟩ := List.mem_map.1 he'
    have q1 : (if z.k = y.k then f z else z).sv = z.sv := by
      split
      · rw [hf]
      · rfl
    have q2 : (if z.k = y.k then f z else z).sl = z.sl := by
      split
      · rw [hf]
      · rfl
    have q3 : (if z'.k = y.k then f z' else z').b = z'.b := by
      split
      · rw [hf]
      · rfl
    rw [q1, q2, q3]
    exact hs.sv z hz z' hz'
theorem mine_turn {p m : Nat} {l : List SE} {k : Int} {f : SE → SE} (hf : ∀ z, f z = ⟨z.b, z.t, z.x, z.sv, z.sl, (f z).v, (f z).p⟩) {i : Nat} (hi : Mine p m (turnS k f l) i) : Mine p m l i := by
  rcases hi with h1 | h1 | ⟨e, he, h1⟩
  · exact .inl h1
  · exact .inr (.inl h1)
  · obtain ⟨z, hz, rfl⟩ := List.mem_map.1 he
    refine .inr (.inr ⟨z, hz, ?_⟩)
    have h1 : (if z.k = k then f z else z).mine i := h1
    split at h1
    · rw [hf] at h1; exact h1
    · exact h1
set_option maxHeartbeats 2000000 in
theorem with_ok {h : Heap} {p m c : Nat} {room k : Int} {l : List SE} {fd : FuncId} {cs : List Value} {R : RP} (hs : StAt h p m c room l) (hd : ∀ y ∈ l, y.k = k → Runs Try.prog T0 (.fn fd) (.pointer (some ⟨y.b, 0, none⟩) :: cs) h R (fun _ _ => False)) :
    Runs Try.prog T0 (.fn fn_zicQ) [.pointer (some ⟨p, 0, none⟩), .int .i64 k, .func (.func fd) ⟨[]⟩ ⟨cs⟩] h
      (fun r h' => (∃ y ∈ l, y.k = k ∧ r = .int .i64 0 ∧ ∃ r', R r' h') ∨ (∀ y ∈ l, y.k ≠ k) ∧ r = .int .i64 10 ∧ h' = h) (fun _ _ => False) := by
  haveI : HGet h p _ := ⟨hs.gp⟩
  haveI : HGet h m _ := ⟨hs.gm⟩
  refine zicQ_runs ?_
  refine stp ?_
  refine O.call' (snone_ok hs) (fun r h0 hr => ?_)
  obtain ⟨rfl, rfl⟩ := hr
  obtain ⟨pv, b, hb1, hb2, hlk⟩ := lookup_any (k := k) hs.ok (.pointer none)
  refine stp ?_
  cases b with
  | true =>
    obtain ⟨e, he, hk, rfl⟩ := hb1 rfl
    obtain ⟨y, hy, rfl⟩ := List.mem_map.1 he
    have hkey : y.k = k := hk
    refine stp ?_
    refine O.call' (all := .pointer (some ⟨y.b, 0, none⟩) :: cs) (hd y hy hkey) (fun r h1 hr => ?_)
    refine stp ?_
    exact .inl ⟨y, hy, hkey, rfl, r, hr⟩
  | false =>
    obtain ⟨hno, rfl⟩ := hb2 rfl
    refine stp ?_
    exact .inr ⟨fun y hy => hno _ (List.mem_map.2 ⟨y, hy, rfl⟩), rfl, rfl⟩
def pinF (b : Bool) (z : SE) : SE := { z with p := b }
def verF (z : SE) : SE := { z with v := true }
def withE (l : List SE) (k : Int) (e : Int) : Prop := (∃ y ∈ l, y.k = k) ∧ e = 0 ∨ (∀ y ∈ l, y.k ≠ k) ∧ e = 10
theorem turn_no {l : List SE} {k : Int} {f : SE → SE} (hn : ∀ y ∈ l, y.k ≠ k) : turnS k f l = l := by
  unfold turnS
  refine (List.map_congr_left fun z hz => ?_).trans (List.map_id l)
  show (if z.k = k then f z else z) = z
  rw [if_neg (hn z hz)]
set_option maxHeartbeats 2000000 in
theorem Pin_ok {h : Heap} {p m c : Nat} {room k : Int} {is : Bool} {l : List SE} (hs : StAt h p m c room l) :
    Runs Try.prog T0 (.fn fn_zzbQ) [.pointer (some ⟨p, 0, none⟩), .int .i64 k, .bool is] h
      (fun r h' => ∃ e, r = .int .i64 e ∧ withE l k e ∧ StAt h' p m c room (turnS k (pinF is) l) ∧ Fr (fun i => ∃ y ∈ l, i = y.b) h h' ∧ ∀ i, Mine p m (turnS k (pinF is) l) i → Mine p m l i) (fun _ _ => False) := by
  refine zzbQ_runs ?_
  refine stp ?_
  have gb : (h.push (.cells [.bool is] 0)).get h.n = .cells [.bool is] 0 := HGet.new.eq
  have F0 : Fr (fun _ => False) h (h.push (.cells [.bool is] 0)) := Fr.refl.push
  have n0 : (h.push (.cells [.bool is] 0)).n = h.n + 1 := rfl
  generalize h.push (.cells [.bool is] 0) = h0 at *
  have hs0 := hs.keep F0 fun _ _ => id
  refine O.call' (with_ok hs0 (k := k) (fd := fn_zacQ) (cs := [.pointer (some ⟨h.n, 0, none⟩)]) (R := fun _ h' => ∃ y ∈ l, y.k = k ∧ h' = h0.set y.b (.cells (pinF is y).cells 0)) fun y hy hk => ?_) (fun r h1 hr => ?_)
  · have ha := hs0.ats y hy
    haveI := l32 ha.hd.prev
    haveI := l32 ha.hd.vals
    haveI := l32 ha.hd.next
    haveI := l32 ha.hd.app
    haveI := l32 ha.hash
    haveI : HGet h0 y.b _ := ⟨ha.get⟩
    haveI : HGet h0 h.n _ := ⟨gb⟩
    refine zacQ_runs ?_
    refine stp ?_
    exact ⟨y, hy, hk, rfl⟩
  · refine stp ?_
    rcases hr with ⟨y, hy, hk, rfl, _, y', hy', hk', rfl⟩ | ⟨hno, rfl, rfl⟩
    · refine stp ?_
      subst hk'
      have fS : Fr (fun i => i = y'.b) h0 (h0.set y'.b (.cells (pinF is y').cells 0)) := Fr.refl.set fun _ => rfl
      exact ⟨0, rfl, .inl ⟨⟨y', hy', rfl⟩, rfl⟩, hs0.turn hy' (fun _ => rfl) fS (by rw [Heap.get_set, if_pos rfl]), (F0.mono fun _ _ e => e.elim).trans' (fS.mono fun i _ e => ⟨y', hy', e⟩), fun i hi => mine_turn (fun _ => rfl) hi⟩
    · refine stp ?_
      rw [turn_no hno]
      exact ⟨10, rfl, .inr ⟨hno, rfl⟩, hs0, F0.mono fun _ _ e => e.elim, fun i hi => hi⟩
set_option maxHeartbeats 2000000 in
theorem Verify_ok {h : Heap} {p m c : Nat} {room k : Int} {l : List SE} (hs : StAt h p m c room l) :
    Runs Try.prog T0 (.fn fn_zdcQ) [.pointer (some ⟨p, 0, none⟩), .int .i64 k] h
      (fun r h' => ∃ e, r = .int .i64 e ∧ withE l k e ∧ StAt h' p m c room (turnS k verF l) ∧ Fr (fun i => ∃ y ∈ l, i = y.b) h h' ∧ ∀ i, Mine p m (turnS k verF l) i → Mine p m l i) (fun _ _ => False) := by
  refine zdcQ_runs ?_
  refine stp ?_
  refine O.call' (with_ok hs (k := k) (fd := fn_zecQ) (cs := []) (R := fun _ h' => ∃ y ∈ l, y.k = k ∧ h' = h.set y.b (.cells (verF y).cells 0)) fun y hy hk => ?_) (fun r h1 hr => ?_)
  · have ha := hs.ats y hy
    haveI := l32 ha.hd.prev
    haveI := l32 ha.hd.vals
    haveI := l32 ha.hd.next
    haveI := l32 ha.hd.app
    haveI := l32 ha.hash
    haveI : HGet h y.b _ := ⟨ha.get⟩
    refine zecQ_runs ?_
    refine stp ?_
    exact ⟨y, hy, hk, rfl⟩
  · rcases hr with ⟨y, hy, hk, rfl, _, y', hy', hk', rfl⟩ | ⟨hno, rfl, rfl⟩
    · refine stp ?_
      subst hk'
      have fS : Fr (fun i => i = y'.b) h (h.set y'.b (.cells (verF y').cells 0)) := Fr.refl.set fun _ => rfl
      exact ⟨0, rfl, .inl ⟨⟨y', hy', rfl⟩, rfl⟩, hs.turn hy' (fun _ => rfl) fS (by rw [Heap.get_set, if_pos rfl]), fS.mono fun i _ e => ⟨y', hy', e⟩, fun i hi => mine_turn (fun _ => rfl) hi⟩
    · refine stp ?_
      rw [turn_no hno]
      exact ⟨10, rfl, .inr ⟨hno, rfl⟩, hs, Fr.refl, fun i hi => hi⟩
end Go.Proofs.Ytmhnddkpiefkhaa.A

namespace Go.Proofs.Ytmhnddkpiefkhaa.A
open Go Go.Vm
set_option maxRecDepth 10000
set_option linter.unusedVariables false
def remE (l d : List Ent) (k : Int) : List Ent := l.filter fun e => !((d.map Ent.t).contains e.t && !decide (e.k = k))
theorem remE_next {l d : List Ent} {c : Nat} {k : Int} {e : Ent} (ok : EntsOK l c) (he : e ∈ l) (hk : e.k ≠ k) : (remE l d k).filter (fun x => !decide (x.k = e.k)) = remE l (d ++ [e]) k := by
  unfold remE
  rw [List.filter_filter]
  refine List.filter_congr fun x hx => ?_
  by_cases hxe : x = e
  · subst hxe
    simp [hk]
  · have h1 : x.k ≠ e.k := fun h => hxe (inj_of_nodup ok.k hx he h)
    have h2 : x.t ≠ e.t := fun h => hxe (inj_of_nodup ok.t hx he h)
    simp [h1, h2]
theorem remE_stay {l d : List Ent} {c : Nat} {k : Int} {e : Ent} (ok : EntsOK l c) (he : e ∈ l) (hk : e.k = k) : remE l d k = remE l (d ++ [e]) k := by
  unfold remE
  refine List.filter_congr fun x hx => ?_
  by_cases hxe : x = e
  · subst hxe
    simp [hk]
  · have h2 : x.t ≠ e.t := fun h => hxe (inj_of_nodup ok.t hx he h)
    simp [h2]
theorem remE_end {l d : List Ent} {k : Int} (h : leftE (remE l d k) (d.map Ent.t) = []) : remE l d k = l.filter fun e => decide (e.k = k) := by
  unfold remE
  refine List.filter_congr fun x hx => ?_
  by_cases hk : x.k = k
  · simp [hk]
  · by_cases ht : x.t ∈ d.map Ent.t
    · have ht2 : (d.map Ent.t).contains x.t = true := by simpa using ht
      rw [ht2]; simp [hk]
    · exfalso
      have h1 : x ∈ remE l d k := List.mem_filter.2 ⟨hx, by
        have : (d.map Ent.t).contains x.t = false := by simpa using ht
        rw [this]; rfl⟩
      have h2 := List.filter_eq_nil_iff.1 h x h1
      have h3 : (d.map Ent.t).contains x.t = false := by simpa using ht
      rw [h3] at h2
      exact h2 rfl
theorem clear1_ok {h : Heap} {b : Nat} {n k : Int} {v : Value} (hg : h.get b = .cells [.int .i64 k] 0) : Runs Try.prog T0 (.fn fn_zwbQ) [.int .i64 n, v, .pointer (some ⟨b, 0, none⟩)] h (fun r h' => r = .bool (!decide (n = k)) ∧ h' = h) (fun _ _ => False) := by
  haveI : HGet h b _ := ⟨hg⟩
  refine zwbQ_runs ?_
  refine stp ?_
  exact ⟨rfl, rfl⟩
set_option maxHeartbeats 4000000 in
theorem DeleteFunc_ok {h : Heap} {b m c : Nat} {k : Int} {l : List Ent} (hg : h.get b = .cells [.int .i64 k] 0) (bl : b < h.n) (hm : h.get m = .map (ents l) c) (ml : m < h.n) (hbm : b ≠ m) (ok : EntsOK l c) :
    Runs Try.prog T0 (.fn fn_zjbQ) [.map (some m), .func (.func fn_zwbQ) ⟨[]⟩ ⟨[.pointer (some ⟨b, 0, none⟩)]⟩] h
      (fun r h' => h'.get m = .map (ents (l.filter fun e => decide (e.k = k))) c ∧ Fr (fun i => i = m) h h') (fun _ _ => False) := by
  haveI : HGet h b _ := ⟨hg⟩
  haveI : BLt b h := ⟨bl⟩
  haveI : HGet h m _ := ⟨hm⟩
  haveI : BLt m h := ⟨ml⟩
  refine zjbQ_runs ?_
  refine stp ?_
  refine loop0 zjbQ_l0_M (fun q hx => ∃ d, TellE l d ∧ q = l.length - d.length ∧ hx.get h.n = .mapIter (some m) c (d.map Ent.t) c ∧ hx.get m = .map (ents (remE l d k)) c ∧ h.n < hx.n ∧ Fr (fun i => i = m) h hx) ?_ l.length
    ⟨[], TellE.nil, rfl, HGet.new.eq, by rw [Heap.get_push, if_neg (by omega), hm]; congr 2; exact (List.filter_eq_self.2 fun _ _ => rfl).symm, by simp, Fr.refl.push⟩
  rintro m h' x4 x5 x8 x9 x10 x11 x12 x13 x14 x15 x16 x17 x18 ⟨d, ht, rfl, gi, gm, hn, hF⟩
  have hbx : h'.get b = .cells [.int .i64 k] 0 := by rw [hF.get _ bl hbm]; exact hg
  have okr : EntsOK (remE l d k) c := ok.filter _
  haveI : HGet h' b _ := ⟨hbx⟩
  haveI : HGet h' h.n _ := ⟨gi⟩
  haveI : HGet h' m _ := ⟨gm⟩
  haveI : BLt h.n h' := ⟨hn⟩
  haveI : BLt b h' := ⟨by omega⟩
  haveI : BNe m h.n := ⟨by omega⟩
  haveI : BNe b h.n := ⟨by omega⟩
  refine stp ?_
  refine O.nextMap (l := remE l d k) (c := c) (m := m) (seen := d.map Ent.t) okr (fun hend => ?_) (fun e he => ?_)
  · refine stp ?_
    exact ⟨by rw [gm, remE_end hend], hF⟩
  · have her := (List.mem_filter.1 he).1
    have hel := (List.mem_filter.1 her).1
    have heL : e ∈ leftE l (d.map Ent.t) := List.mem_filter.2 ⟨hel, (List.mem_filter.1 he).2⟩
    have ht2 := ht.next heL
    have hlen := tell_len ht2
    rw [List.length_append, List.length_singleton] at hlen
    have hFs : Fr (fun i => i = m) h (h'.set h.n (.mapIter (some m) c (d.map Ent.t ++ [e.t]) c)) := hF.set fun hh => absurd hh (by omega)
    refine stp ?_
    refine O.how (XOp.entryMap (m := m) (c := c) (l := remE l d k) (seen := d.map Ent.t) (x := e) okr her) ?_
    refine stp ?_
    refine O.call' (clear1_ok (k := k) (by rw [Heap.get_set, if_neg (by omega)]; exact hbx)) (fun r h3 hr => ?_)
    obtain ⟨rfl, rfl⟩ := hr
    refine stp ?_
    refine C.ifN (fun hne => ?_) (fun hek => ?_)
    · refine stp ?_
      refine O.by0 (XOp.deleteYes (l := remE l d k) (c := c) (e := e) her okr rfl).eq rfl ?_
      refine stp ?_
      refine loop0a (l.length - (d.length + 1)) (by omega) ⟨d ++ [e], ht2, by simp, ?_, ?_, by simpa using hn, hFs.set fun _ => rfl⟩
      · rw [Heap.get_set, if_neg (by omega), Heap.get_set, if_pos rfl, List.map_append]
        rfl
      · rw [Heap.get_set, if_pos rfl, remE_next ok hel hne]
    · refine stp ?_
      refine loop0a (l.length - (d.length + 1)) (by omega) ⟨d ++ [e], ht2, by simp, ?_, ?_, by simpa using hn, hFs⟩
      · rw [Heap.get_set, if_pos rfl, List.map_append]
        rfl
      · rw [Heap.get_set, if_neg (by omega), gm, remE_stay ok hel hek]
theorem StAt.less {h h' : Heap} {p m c : Nat} {room : Int} {l : List SE} (hs : StAt h p m c room l) (q : SE → Bool) (hf : Fr (fun i => i = m) h h') (hg : h'.get m = .map (ents ((l.filter q).map SE.ent)) c) : StAt h' p m c room (l.filter q) := by
  have hm : ∀ e ∈ l.filter q, e ∈ l := fun e he => (List.mem_filter.1 he).1
  refine ⟨hf.lt hs.pl, hf.lt hs.ml, hs.pm, by rw [hf.get _ hs.pl hs.pm]; exact hs.gp, hg, ⟨?_, ?_, fun e he => ?_⟩, fun e he => (hs.ats e (hm e he)).keep hf fun i hi => (hs.sp e (hm e he) i hi).2, fun e he => hs.sp e (hm e he), hs.nd.sublist ((List.filter_sublist).map _), fun e he e' he' => hs.sv e (hm e he) e' (hm e' he')⟩
  · exact hs.ok.k.sublist (((List.filter_sublist).map _).map _)
  · exact hs.ok.t.sublist (((List.filter_sublist).map _).map _)
  · obtain ⟨s, hs2, rfl⟩ := List.mem_map.1 he
    exact hs.ok.lt _ (List.mem_map.2 ⟨s, hm s hs2, rfl⟩)
def onlyS (k : Int) (l : List SE) : List SE := l.filter fun z => decide (z.k = k)
set_option maxHeartbeats 2000000 in
theorem Clear_ok {h : Heap} {p m c : Nat} {room k : Int} {l : List SE} (hs : StAt h p m c room l) :
    Runs Try.prog T0 (.fn fn_zvbQ) [.pointer (some ⟨p, 0, none⟩), .int .i64 k] h
      (fun r h' => StAt h' p m c room (onlyS k l) ∧ Fr (fun i => i = m) h h' ∧ ∀ i, Mine p m (onlyS k l) i → Mine p m l i) (fun _ _ => False) := by
  refine zvbQ_runs ?_
  refine stp ?_
  have gb : (h.push (.cells [.int .i64 k] 0)).get h.n = .cells [.int .i64 k] 0 := HGet.new.eq
  have F0 : Fr (fun _ => False) h (h.push (.cells [.int .i64 k] 0)) := Fr.refl.push
  have n0 : (h.push (.cells [.int .i64 k] 0)).n = h.n + 1 := rfl
  generalize h.push (.cells [.int .i64 k] 0) = h0 at *
  have hs0 := hs.keep F0 fun _ _ => id
  haveI : HGet h0 p _ := ⟨hs0.gp⟩
  refine O.call' (snone_ok hs0) (fun r h0 hr => ?_)
  obtain ⟨rfl, rfl⟩ := hr
  refine stp ?_
  refine O.call' (DeleteFunc_ok (k := k) (l := l.map SE.ent) (c := c) gb (by omega) hs0.gm hs0.ml (by have := hs.ml; omega) hs0.ok) (fun r h1 hr => ?_)
  obtain ⟨g1, f1⟩ := hr
  refine stp ?_
  have e3 : (l.map SE.ent).filter (fun e => decide (e.k = k)) = (onlyS k l).map SE.ent := by
    unfold onlyS
    rw [List.filter_map]
    rfl
  rw [e3] at g1
  refine ⟨hs0.less _ f1 g1, (F0.mono fun _ _ e => e.elim).trans' f1, fun i hi => ?_⟩
  rcases hi with h1 | h1 | ⟨e, he, h1⟩
  · exact .inl h1
  · exact .inr (.inl h1)
  · exact .inr (.inr ⟨e, (List.mem_filter.1 he).1, h1⟩)
end Go.Proofs.Ytmhnddkpiefkhaa.A

namespace Go.Proofs.Ytmhnddkpiefkhaa.A
open Go Go.Vm
set_option maxRecDepth 10000
set_option linter.unusedVariables false
structure KK where
  k : Int
  v : Bool
  p : Bool
  deriving DecidableEq
abbrev KK.cells (e : KK) : List Value := [.int .i64 e.k, .bool e.v, .bool e.p]
def SE.kk (e : SE) : KK := ⟨e.k, e.v, e.p⟩
def kkcells (l : List KK) : List Value := l.flatMap KK.cells
theorem kkcells_append (l m : List KK) : kkcells (l ++ m) = kkcells l ++ kkcells m := by simp [kkcells]
theorem one_kk {h : Heap} {e : KK} {es : Nat} : newCells (h.push (.cells e.cells es)) 3 [.int .i64 0, .bool false, .bool false] false (.slice (some ⟨h.n, 0, none⟩) 1 1) = some (1, e.cells) :=
  (Rd.mk (size := 3) (n := 1) (cap := 1) (sp := none) (o := 0) (b := h.n) (c := e.cells) (by simp) (by rw [cellsAt_of (c := e.cells) (by rw [Heap.get_push, if_pos rfl]; rfl) (by simp)]; rfl)).new _
set_option maxHeartbeats 8000000 in
theorem List_ok {h : Heap} {p m c : Nat} {room : Int} {l : List SE} (hs : StAt h p m c room l) (hlen : l.length < 100000) :
    Runs Try.prog T0 (.fn fn_zybQ) [.pointer (some ⟨p, 0, none⟩)] h
      (fun r h' => ∃ L : List SE, L.Perm l ∧ (L.map SE.k).Pairwise (· ≤ ·) ∧ Own h' 3 r (kkcells (L.map SE.kk)) (L.map SE.kk).length ∧ (∀ i, ownedBy r i → h.n ≤ i) ∧ Fr (fun _ => False) h h') (fun _ _ => False) := by
  refine zybQ_runs ?_
  refine stp ?_
  refine O.call' (snone_ok hs) (fun r h hr => ?_)
  obtain ⟨rfl, rfl⟩ := hr
  refine stp ?_
  refine O.call' (rising_ok hs.gp hs.pl hs.gm hs.ml hs.ok (by simpa using hlen)) (fun r h1 hr => ?_)
  obtain ⟨R, hR, hsort, ho, hnew, f1⟩ := hr
  have hs1 := hs.keep f1 fun _ _ => id
  obtain ⟨a, cap, rfl, hl1, hc⟩ := id ho.rd
  have hRl : R.length = l.length := by have := hR.length_eq; simpa using this
  refine stp ?_
  have hpn : ∀ y ∈ l, ∃ i, i < R.length ∧ R.getD i 0 = y.k := fun y hy => by
    have h1 : y.k ∈ R := hR.mem_iff.2 (List.mem_map.2 ⟨y.ent, List.mem_map.2 ⟨y, hy, rfl⟩, rfl⟩)
    obtain ⟨i, hi, he⟩ := List.getElem_of_mem h1
    exact ⟨i, hi, by simp [List.getD, hi, he]⟩
  refine loop2 zybQ_l0_M 2 11 (fun q v2 v11 hx => ∃ (i : Nat) (L : List SE), i ≤ R.length ∧ q = R.length - i ∧ v11 = .int .i64 i ∧ (∀ y ∈ L, y ∈ l) ∧ L.map SE.k = R.take i ∧ Own hx 3 v2 (kkcells (L.map SE.kk)) (L.map SE.kk).length ∧ (∀ i, ownedBy v2 i → h1.n ≤ i) ∧ Fr (fun _ => False) h1 hx) ?_ R.length
    ⟨0, [], by omega, rfl, rfl, by simp, by simp, .none, fun i hi => hi.elim, Fr.refl⟩
  rintro m v2 v11 h' x4 x5 x12 x13 x14 x15 x16 x17 x18 x19 x20 x21 x22 x23 x24 x25 x26 x27 x28 x29 x30 x31 x32 x33 x34 ⟨i, L, hi, rfl, rfl, hLl, hLk, hoL, hnL, hF⟩
  refine stp ?_
  refine C.if (fun hlt => ?_) (fun hge => ?_)
  · have hlt : i < R.length := by omega
    obtain ⟨b, o, sp, rfl, hb, hcc⟩ := hc (by omega)
    haveI : Cell h' b (o + i) (.int .i64 (R.getD i 0)) := ncell_at (n := R.length) (by rw [cellsAt_keep hF hb id]; exact hcc) rfl hlt
    have hsx := hs1.keep hF fun _ _ => id
    have hki : R.getD i 0 ∈ R := by
      rw [List.getD_eq_getElem?_getD, List.getElem?_eq_getElem hlt]
      exact List.getElem_mem hlt
    obtain ⟨e, he, hek⟩ := List.mem_map.1 (hR.mem_iff.1 hki)
    obtain ⟨y, hy, rfl⟩ := List.mem_map.1 he
    have hyk : y.k = R.getD i 0 := hek
    have ha := hsx.ats y hy
    haveI := l32 ha.hd.prev
    haveI := l32 ha.hd.vals
    haveI := l32 ha.hd.next
    haveI := l32 ha.hd.app
    haveI := l32 ha.hash
    haveI : HGet h' p _ := ⟨hsx.gp⟩
    haveI : HGet h' m _ := ⟨hsx.gm⟩
    haveI : HGet h' y.b _ := ⟨ha.get⟩
    refine stp ?_
    rw [← hyk]
    refine O.how (v := .pointer (some ⟨y.b, 0, none⟩)) (XOp.lookupYes1 (l := l.map SE.ent) (c := c) (e := y.ent) he hsx.ok rfl) ?_
    refine stp ?_
    have hLlen : L.length = i := by have := congrArg List.length hLk; simp at this; omega
    refine D.oneS ?_
    refine stp ?_
    refine D.append (d := KK.cells (SE.kk y)) (hoL.keep (S := fun _ => False) Fr.refl.push fun _ _ => id) (one_kk (e := SE.kk y)) rfl rfl (by omega) (by omega) (by rw [List.length_map]; omega) (fun v6 h6 ho6 hf6 hn6 => ?_)
    have q6 := hf6.n
    have qF := hF.n
    simp only [Heap.n_push] at q6 hn6
    refine stp ?_
    refine loop2a 2 11 (R.length - (i + 1)) (by omega) ⟨i + 1, L ++ [y], by omega, rfl, rfl, fun z hz => ?_, ?_, ?_, fun j hj => ?_, hF.trans ((Fr.refl.push).trans' (S := ownedBy _) hf6) fun j hj e => by have := hnL j e; omega⟩
    · rcases List.mem_append.1 hz with h1 | h1
      · exact hLl z h1
      · rw [List.mem_singleton.1 h1]; exact hy
    · rw [List.map_append, hLk, List.take_add_one, List.getElem?_eq_getElem hlt]
      have : R[i] = y.k := by rw [hyk, List.getD_eq_getElem?_getD, List.getElem?_eq_getElem hlt]; rfl
      rw [this]
      rfl
    · rw [List.map_append, kkcells_append, List.length_append]
      have e1 : kkcells ([y].map SE.kk) = KK.cells (SE.kk y) := by simp [kkcells]
      rw [e1]
      exact ho6
    · rcases hn6 j hj with h7 | h7
      · exact hnL j h7
      · omega
  · refine stp ?_
    obtain rfl : i = R.length := by omega
    rw [List.take_length] at hLk
    refine ⟨L, ?_, by rw [hLk]; exact hsort, hoL, fun j hj => by have := hnL j hj; have := f1.n; omega, f1.trans' hF⟩
    have hkn : (l.map SE.k).Nodup := by have := hs.ok.k; rw [List.map_map] at this; exact this
    have hRk : R.Perm (l.map SE.k) := by rw [List.map_map] at hR; exact hR
    have hLn : (L.map SE.k).Nodup := by rw [hLk]; exact (hRk.nodup_iff).2 hkn
    refine perm_of_same (nodup_of_map _ hLn) (nodup_of_map _ hkn) fun z => ⟨hLl z, fun hz => ?_⟩
    have h1 : z.k ∈ L.map SE.k := by rw [hLk]; exact hRk.mem_iff.2 (List.mem_map.2 ⟨z, hz, rfl⟩)
    obtain ⟨z', hz', he⟩ := List.mem_map.1 h1
    have : z' = z := inj_of_nodup hkn (hLl z' hz') hz he
    rwa [this] at hz'
end Go.Proofs.Ytmhnddkpiefkhaa.A

namespace Go.Proofs.Ytmhnddkpiefkhaa.A
open Go Go.Vm
set_option maxRecDepth 10000
set_option linter.unusedVariables false
instance : DecidableEq Vote := fun ⟨a, s⟩ ⟨b, t⟩ => if h : a = b ∧ s = t then .isTrue (by rw [h.1, h.2]) else .isFalse (fun e => h (by injection e with e1 e2; exact ⟨e1, e2⟩))
theorem same_vote {v w : Vote} : same v.cells w.cells = decide (v = w) := by
  by_cases h : v = w
  · rw [h, same_self, decide_eq_true rfl]
  · rw [decide_eq_false h, same_ne]
    intro e
    apply h
    obtain ⟨a, s⟩ := v
    obtain ⟨b, t⟩ := w
    simp only [Vote.cells, List.cons.injEq, Value.int.injEq, true_and, and_true] at e
    obtain ⟨e1, e2⟩ := e
    rw [e1, show s = t from by omega]
theorem take_next {α : Type} {l m : List α} {z : α} {k : Nat} (h1 : k < l.length) (h2 : k < m.length) : l.take (k + 1) = m.take (k + 1) ↔ l.take k = m.take k ∧ l.getD k z = m.getD k z := by
  have g1 : l.getD k z = l[k] := by simp [List.getD_eq_getElem?_getD, h1]
  have g2 : m.getD k z = m[k] := by simp [List.getD_eq_getElem?_getD, h2]
  rw [List.take_succ_eq_append_getElem h1, List.take_succ_eq_append_getElem h2, g1, g2]
  constructor
  · intro h
    have h3 := List.append_inj h (by simp; omega)
    exact ⟨h3.1, by simpa using h3.2⟩
  · rintro ⟨e1, e2⟩
    rw [e1, e2]
theorem SameVotes_ok {h : Heap} {v w : Value} {l m : List Vote} (hv : Rd h 2 v (tcells l) l.length) (hw : Rd h 2 w (tcells m) m.length) (hs : l.length < 1048576) (ht : m.length < 1048576) :
    Runs Try.prog T0 (.fn fn_zsQ) [v, w] h (fun r h' => r = .bool (decide (l = m)) ∧ h' = h) (fun _ _ => False) := by
  obtain ⟨a, cap, rfl, hlen, hc⟩ := hv
  obtain ⟨a', cap', rfl, hlen', hc'⟩ := hw
  refine zsQ_runs ?_
  refine stp ?_
  refine loop2 zsQ_l0_M 5 6 (fun q v5 v6 h' => ∃ (k : Nat) (B : Bool), k ≤ l.length ∧ q = l.length - k ∧ v6 = .int .i64 k ∧ v5 = .bool B ∧ (B = true ↔ l.length = m.length ∧ l.take k = m.take k) ∧ h' = h) ?_ l.length ⟨0, _, by omega, rfl, rfl, rfl, by simp; omega, rfl⟩
  rintro m v5 v6 h' x12 x13 x14 x15 x16 x17 x18 x19 x20 x21 x22 x23 x24 x25 x26 x27 x28 x29 ⟨k, B, hk, rfl, rfl, rfl, hB, rfl⟩
  cases B with
  | false =>
    refine stp ?_
    have hne : l ≠ m := fun e => by have := hB.2 ⟨by rw [e], by rw [e]⟩; cases this
    rw [decide_eq_false hne]
    exact ⟨rfl, rfl⟩
  | true =>
    obtain ⟨hl1, hl2⟩ := hB.1 rfl
    refine stp ?_
    refine C.if (fun hlt => ?_) (fun hge => ?_)
    · have hlt : k < l.length := by omega
      obtain ⟨b, o, sp, rfl, hb, hcc⟩ := hc (by omega)
      obtain ⟨b', o', sp', rfl, hb', hcc'⟩ := hc' (by omega)
      haveI := vote_cells hcc rfl hlt
      haveI := vote_cells hcc' rfl (show k < m.length by omega)
      refine stp ?_
      rw [same_vote]
      exact loop2a 5 6 (l.length - (k + 1)) (by omega) ⟨k + 1, _, by omega, rfl, rfl, rfl, by rw [decide_eq_true_eq, take_next (z := zVote) hlt (by omega)]; exact ⟨fun e => ⟨hl1, hl2, e⟩, fun e => e.2.2⟩, rfl⟩
    · refine stp ?_
      have e : l = m := by
        have h1 : l.take l.length = m.take l.length := by rw [show l.length = k by omega]; exact hl2
        rwa [List.take_length, hl1, List.take_length] at h1
      rw [decide_eq_true e]
      exact ⟨rfl, rfl⟩
end Go.Proofs.Ytmhnddkpiefkhaa.A

namespace Go.Proofs.Ytmhnddkpiefkhaa.A
open Go Go.Vm
set_option maxRecDepth 10000
set_option linter.unusedVariables false
theorem u8_of {a b : UInt8} (h : (a.toNat : Int) = (b.toNat : Int)) : a = b := by
  apply UInt8.toNat_inj.1
  omega
theorem same_val {v w : Val} : same v.cells w.cells = decide (v = w) := by
  by_cases h : v = w
  · rw [h, same_self, decide_eq_true rfl]
  · rw [decide_eq_false h, same_ne]
    intro e
    apply h
    obtain ⟨a0, a1, a2, a3, p⟩ := v
    obtain ⟨b0, b1, b2, b3, q⟩ := w
    simp only [Val.cells, List.cons.injEq, Value.int.injEq, true_and, and_true] at e
    obtain ⟨e0, e1, e2, e3, e4⟩ := e
    rw [u8_of e0, u8_of e1, u8_of e2, u8_of e3, e4]
theorem SameVals_ok {h : Heap} {v w : Value} {l m : List Val} (hv : Rd h 5 v (vcells l) l.length) (hw : Rd h 5 w (vcells m) m.length) (hs : l.length < 1048576) (ht : m.length < 1048576) :
    Runs Try.prog T0 (.fn fn_zrQ) [v, w] h (fun r h' => r = .bool (decide (l = m)) ∧ h' = h) (fun _ _ => False) := by
  obtain ⟨a, cap, rfl, hlen, hc⟩ := hv
  obtain ⟨a', cap', rfl, hlen', hc'⟩ := hw
  refine zrQ_runs ?_
  refine stp ?_
  refine loop2 zrQ_l0_M 5 6 (fun q v5 v6 h' => ∃ (k : Nat) (B : Bool), k ≤ l.length ∧ q = l.length - k ∧ v6 = .int .i64 k ∧ v5 = .bool B ∧ (B = true ↔ l.length = m.length ∧ l.take k = m.take k) ∧ h' = h) ?_ l.length ⟨0, _, by omega, rfl, rfl, rfl, by simp; omega, rfl⟩
  rintro m v5 v6 h' x12 x13 x14 x15 x16 x17 x18 x19 x20 x21 x22 x23 x24 x25 x26 x27 x28 x29 ⟨k, B, hk, rfl, rfl, rfl, hB, rfl⟩
  cases B with
  | false =>
    refine stp ?_
    have hne : l ≠ m := fun e => by have := hB.2 ⟨by rw [e], by rw [e]⟩; cases this
    rw [decide_eq_false hne]
    exact ⟨rfl, rfl⟩
  | true =>
    obtain ⟨hl1, hl2⟩ := hB.1 rfl
    refine stp ?_
    refine C.if (fun hlt => ?_) (fun hge => ?_)
    · have hlt : k < l.length := by omega
      obtain ⟨b, o, sp, rfl, hb, hcc⟩ := hc (by omega)
      obtain ⟨b', o', sp', rfl, hb', hcc'⟩ := hc' (by omega)
      haveI := val_cells hcc rfl hlt
      haveI := val_cells hcc' rfl (show k < m.length by omega)
      refine stp ?_
      rw [same_val]
      exact loop2a 5 6 (l.length - (k + 1)) (by omega) ⟨k + 1, _, by omega, rfl, rfl, rfl, by rw [decide_eq_true_eq, take_next (z := zVal) hlt (by omega)]; exact ⟨fun e => ⟨hl1, hl2, e⟩, fun e => e.2.2⟩, rfl⟩
    · refine stp ?_
      have e : l = m := by
        have h1 : l.take l.length = m.take l.length := by rw [show l.length = k by omega]; exact hl2
        rwa [List.take_length, hl1, List.take_length] at h1
      rw [decide_eq_true e]
      exact ⟨rfl, rfl⟩
end Go.Proofs.Ytmhnddkpiefkhaa.A

namespace Go.Proofs.Ytmhnddkpiefkhaa.A
open Go Go.Vm
set_option maxRecDepth 10000
set_option linter.unusedVariables false
theorem bcells_eq : ∀ {l m : List UInt8}, bcells l = bcells m → l = m
  | [], [], _ => rfl
  | [], _ :: _, h => by simp [bcells] at h
  | _ :: _, [], h => by simp [bcells] at h
  | a :: l, b :: m, h => by
    simp only [bcells, List.map_cons, List.cons.injEq, Value.int.injEq, true_and] at h
    rw [u8_of h.1, bcells_eq (l := l) (m := m) h.2]
theorem same_bytes {l m : List UInt8} : same (bcells l) (bcells m) = decide (l = m) := by
  by_cases h : l = m
  · rw [h, same_self, decide_eq_true rfl]
  · rw [decide_eq_false h, same_ne]
    exact fun e => h (bcells_eq e)
theorem SameCommit_ok {h : Heap} {x y : Cm} {sv sw : Value} (hx : x.hash.length = 32) (hy : y.hash.length = 32) (hs : x.votes.length < 1048576) (ht : y.votes.length < 1048576) (hv : Rd h 2 sv (tcells x.votes) x.votes.length) (hw : Rd h 2 sw (tcells y.votes) y.votes.length) :
    Runs Try.prog T0 (.fn fn_zpQ) [.agg ⟨x.cells sv⟩, .agg ⟨y.cells sw⟩] h (fun r h' => r = .bool (decide (x.height = y.height ∧ x.hash = y.hash ∧ x.votes = y.votes)) ∧ Fr (fun _ => False) h h') (fun _ _ => False) := by
  haveI := l32 hx
  haveI := l32 hy
  refine zpQ_runs ?_
  refine stp ?_
  refine O.dec (fun e1 => ?_) (fun e1 => ?_)
  · refine stp ?_
    rw [same_bytes]
    refine stp ?_
    refine O.dec (fun e2 => ?_) (fun e2 => ?_)
    · refine stp ?_
      refine O.callT (SameVotes_ok (hv.keep (S := fun _ => False) Fr.refl.push.push fun _ _ => id) (hw.keep (S := fun _ => False) Fr.refl.push.push fun _ _ => id) hs ht) (fun r h1 hr => ?_)
      obtain ⟨rfl, rfl⟩ := hr
      refine stp ?_
      exact ⟨by simp [e1, e2], Fr.refl.push.push⟩
    · refine stp ?_
      exact ⟨by simp [e2], Fr.refl.push.push⟩
  · refine stp ?_
    exact ⟨by simp [e1], Fr.refl.push.push⟩
end Go.Proofs.Ytmhnddkpiefkhaa.A

namespace Go.Proofs.Ytmhnddkpiefkhaa.A
open Go Go.Vm
set_option maxRecDepth 10000
set_option linter.unusedVariables false
def sameB (x y : Bk) : Bool := same x.h.cells y.h.cells && (decide (x.c.height = y.c.height ∧ x.c.hash = y.c.hash ∧ x.c.votes = y.c.votes) && decide (x.vals = y.vals))
set_option maxHeartbeats 4000000 in
theorem SameBlock_ok {h : Heap} {x y : Bk} {sv sl sw sm : Value} (hx : BkRd h x sv sl) (hy : BkRd h y sw sm) (h1 : x.c.votes.length < 1048576) (h2 : x.vals.length < 1048576) (h3 : y.c.votes.length < 1048576) (h4 : y.vals.length < 1048576) :
    Runs Try.prog T0 (.fn fn_zoQ) [.agg ⟨x.cells sv sl⟩, .agg ⟨y.cells sw sm⟩] h (fun r h' => r = .bool (sameB x y) ∧ Fr (fun _ => False) h h') (fun _ _ => False) := by
  haveI := l32 hx.hd.prev
  haveI := l32 hx.hd.vals
  haveI := l32 hx.hd.next
  haveI := l32 hx.hd.app
  haveI := l32 hx.hash
  haveI := l32 hy.hd.prev
  haveI := l32 hy.hd.vals
  haveI := l32 hy.hd.next
  haveI := l32 hy.hd.app
  haveI := l32 hy.hash
  obtain ⟨a1, c1, rfl, _, _⟩ := id hx.sv
  obtain ⟨a2, c2, rfl, _, _⟩ := id hx.sl
  obtain ⟨a3, c3, rfl, _, _⟩ := id hy.sv
  obtain ⟨a4, c4, rfl, _, _⟩ := id hy.sl
  refine zoQ_runs ?_
  refine stp ?_
  generalize hh0 : (h.push (.cells (x.cells (.slice a1 x.c.votes.length c1) (.slice a2 x.vals.length c2)) 0)).push (.cells (y.cells (.slice a3 y.c.votes.length c3) (.slice a4 y.vals.length c4)) 0) = h0
  generalize hb : (h.push (.cells (x.cells (.slice a1 x.c.votes.length c1) (.slice a2 x.vals.length c2)) 0)).n = b
  have hf0 : Fr (fun _ => False) h h0 := by rw [← hh0]; exact Fr.refl.push.push
  have hA : HGet h0 h.n (.cells (x.cells (.slice a1 x.c.votes.length c1) (.slice a2 x.vals.length c2)) 0) := by rw [← hh0]; exact HGet.push (k := BLt.new) (g := HGet.new)
  have hB : HGet h0 b (.cells (y.cells (.slice a3 y.c.votes.length c3) (.slice a4 y.vals.length c4)) 0) := by rw [← hh0, ← hb]; exact HGet.new
  have hb' : b = h.n + 1 := by rw [← hb]; rfl
  have hn0 : h0.n = h.n + 2 := by rw [← hh0]; rfl
  clear hh0 hb
  haveI := hA
  haveI := hB
  refine stp ?_
  unfold sameB
  generalize hS : same x.h.cells y.h.cells = S
  have hS' := hS
  simp only [Hd.cells] at hS'
  try rw [hS']
  cases S with
  | false =>
    refine stp ?_
    exact ⟨rfl, hf0⟩
  | true =>
    refine stp ?_
    refine O.callT (SameCommit_ok hx.hash hy.hash h1 h3 (hx.sv.keep hf0 fun _ _ => id) (hy.sv.keep hf0 fun _ _ => id)) (fun r h5 hr => ?_)
    obtain ⟨rfl, hf5⟩ := hr
    haveI := hf5.keep hA (by omega) id
    haveI := hf5.keep hB (by omega) id
    have hf05 := hf0.trans' hf5
    refine stp ?_
    refine O.dec (fun e1 => ?_) (fun e1 => ?_)
    · refine stp ?_
      refine O.callT (SameVals_ok (hx.sl.keep hf05 fun _ _ => id) (hy.sl.keep hf05 fun _ _ => id) h2 h4) (fun r h6 hr => ?_)
      obtain ⟨rfl, rfl⟩ := hr
      refine stp ?_
      exact ⟨by simp [e1], hf05⟩
    · refine stp ?_
      exact ⟨by rw [decide_eq_false e1]; rfl, hf05⟩
end Go.Proofs.Ytmhnddkpiefkhaa.A

namespace Go.Proofs.Ytmhnddkpiefkhaa.A
open Go Go.Vm
set_option maxRecDepth 10000
set_option linter.unusedVariables false
theorem u8nat {n : Nat} (h : n < 256) : (UInt8.ofNat n).toNat = n := by
  rw [UInt8.toNat_ofNat']
  exact Nat.mod_eq_of_lt h
end Go.Proofs.Ytmhnddkpiefkhaa.A

namespace Go.Proofs.Ytmhnddkpiefkhaa.A
open Go Go.Vm
set_option maxRecDepth 10000
set_option linter.unusedVariables false
theorem fits_bytes {h : Heap} {m : Nat} {te : TypeId} {c : List Value} {len : Nat} (hu : Try.prog.underlying te = some (.int .u8)) (hs : Try.prog.cellsOf te = 1) (hl : c.length = len * Try.prog.cellsOf te) (hall : ∀ i, i < len → Fits Try.prog h (m + 1) te ((c.drop (i * Try.prog.cellsOf te)).take (Try.prog.cellsOf te))) : ∃ bs : List UInt8, c = bcells bs ∧ bs.length = len := by
  rw [hs, Nat.mul_one] at hl
  induction c generalizing len with
  | nil => exact ⟨[], rfl, by simpa using hl⟩
  | cons v c ih =>
    cases len with
    | zero => simp at hl
    | succ len =>
      have h0 := hall 0 (by omega)
      rw [hs] at h0
      unfold Fits at h0
      rw [hu] at h0
      simp only [Nat.zero_mul, List.drop_zero, List.take_succ_cons, List.take_zero] at h0
      obtain ⟨x, hx, hwf⟩ := h0
      injection hx with hx _
      obtain ⟨bs, rfl, hb⟩ := ih (len := len) (by simpa using hl) fun i hi => by
        have := hall (i + 1) (by omega)
        rw [hs] at this ⊢
        simpa using this
      have hr : 0 ≤ x ∧ x ≤ 255 := by
        simp [Lit.wf, IntKind.min, IntKind.max, IntKind.signed, IntKind.bits] at hwf
        omega
      refine ⟨UInt8.ofNat x.toNat :: bs, ?_, by simp [hb]⟩
      rw [hx]
      show Value.int .u8 x :: bcells bs = Value.int .u8 ((UInt8.ofNat x.toNat).toNat : Nat) :: bcells bs
      rw [u8nat (by omega)]
      congr 2
      omega
end Go.Proofs.Ytmhnddkpiefkhaa.A

namespace Go.Proofs.Ytmhnddkpiefkhaa.A
open Go Go.Vm
set_option maxRecDepth 10000
set_option linter.unusedVariables false
theorem fits_flat32 {h : Heap} {m : Nat} {t te : TypeId} {c : List Value} (ht : Try.prog.underlying t = some (.array 32 te)) (hu : Try.prog.underlying te = some (.int .u8)) (hs : Try.prog.cellsOf te = 1) (hs32 : Try.prog.cellsOf t = 32) (hv : Fits Try.prog h (m + 2) t c) : ∃ bs : List UInt8, c = bcells bs ∧ bs.length = 32 := by
  unfold Fits at hv
  rw [ht] at hv
  exact fits_bytes hu hs (by rw [hv.1, hs32, hs]) hv.2
theorem fits_header {h : Heap} {m : Nat} {t ts ti th tb : TypeId} {c : List Value} (f0 : fieldAt Try.prog t 0 = some (0, ts)) (f1 : fieldAt Try.prog t 1 = some (1, ti)) (f2 : fieldAt Try.prog t 2 = some (2, ti)) (f3 : fieldAt Try.prog t 3 = some (3, th)) (f4 : fieldAt Try.prog t 4 = some (35, th)) (f5 : fieldAt Try.prog t 5 = some (67, th)) (f6 : fieldAt Try.prog t 6 = some (99, th))
    (us : Try.prog.underlying ts = some .string) (ui : Try.prog.underlying ti = some (.int .i64)) (uh : Try.prog.underlying th = some (.array 32 tb)) (ub : Try.prog.underlying tb = some (.int .u8)) (c0 : Try.prog.cellsOf ts = 1) (c1 : Try.prog.cellsOf ti = 1) (c3 : Try.prog.cellsOf th = 32) (cb : Try.prog.cellsOf tb = 1) (ct : Try.prog.cellsOf t = 131)
    (hv : Fits Try.prog h (m + 3) t c) : ∃ x : Hd, x.ok ∧ (-9223372036854775808 ≤ x.height ∧ x.height ≤ 9223372036854775807) ∧ (-9223372036854775808 ≤ x.time ∧ x.time ≤ 9223372036854775807) ∧ c = x.cells := by
  have hl := hv.len f0
  rw [ct] at hl
  obtain ⟨s, g0, _⟩ := (hv.field f0).str us
  obtain ⟨a, g1, w1⟩ := (hv.field f1).int ui
  obtain ⟨b, g2, w2⟩ := (hv.field f2).int ui
  obtain ⟨l3, g3, n3⟩ := fits_flat32 uh ub cb c3 (hv.field f3)
  obtain ⟨l4, g4, n4⟩ := fits_flat32 uh ub cb c3 (hv.field f4)
  obtain ⟨l5, g5, n5⟩ := fits_flat32 uh ub cb c3 (hv.field f5)
  obtain ⟨l6, g6, n6⟩ := fits_flat32 uh ub cb c3 (hv.field f6)
  rw [c0] at g0
  rw [c1] at g1 g2
  rw [c3] at g3 g4 g5 g6
  refine ⟨⟨s.data.toList, a, b, l3, l4, l5, l6⟩, ⟨n3, n4, n5, n6⟩, wf_i64 w1, wf_i64 w2, ?_⟩
  rw [← List.drop_zero (l := c), vsplit c 0 1, g0, vsplit c (0 + 1) 1, g1, vsplit c (0 + 1 + 1) 1, g2, vsplit c (0 + 1 + 1 + 1) 32, g3, vsplit c (0 + 1 + 1 + 1 + 32) 32, g4, vsplit c (0 + 1 + 1 + 1 + 32 + 32) 32, g5, vsplit c (0 + 1 + 1 + 1 + 32 + 32 + 32) 32, g6,
    show c.drop (0 + 1 + 1 + 1 + 32 + 32 + 32 + 32) = [] from List.drop_eq_nil_of_le (by omega), List.append_nil]
  rfl
end Go.Proofs.Ytmhnddkpiefkhaa.A

namespace Go.Proofs.Ytmhnddkpiefkhaa.A
open Go Go.Vm
set_option maxRecDepth 10000
set_option linter.unusedVariables false
theorem four {l : List UInt8} (h : l.length = 4) : ∃ a b c d, l = [a, b, c, d] := by
  match l, h with
  | [a, b, c, d], _ => exact ⟨a, b, c, d, rfl⟩
end Go.Proofs.Ytmhnddkpiefkhaa.A

namespace Go.Proofs.Ytmhnddkpiefkhaa.A
open Go Go.Vm
set_option maxRecDepth 100000
set_option linter.unusedVariables false
theorem vals_cells_fit {h : Heap} {m : Nat} {te tk tb ti : TypeId} (f0 : fieldAt Try.prog te 0 = some (0, tk)) (f1 : fieldAt Try.prog te 1 = some (4, ti)) (uk : Try.prog.underlying tk = some (.array 4 tb)) (ub : Try.prog.underlying tb = some (.int .u8)) (ui : Try.prog.underlying ti = some (.int .i64))
    (ce : Try.prog.cellsOf te = 5) (ck : Try.prog.cellsOf tk = 4) (cb : Try.prog.cellsOf tb = 1) (ci : Try.prog.cellsOf ti = 1) : ∀ (len : Nat) (c : List Value), c.length = len * 5 → (∀ i, i < len → Fits Try.prog h (m + 3) te ((c.drop (i * 5)).take 5)) →
    ∃ l : List Val, c = vcells l ∧ l.length = len ∧ ∀ v ∈ l, -9223372036854775808 ≤ v.p ∧ v.p ≤ 9223372036854775807
  | 0, c, hl, _ => ⟨[], by rw [vcells_nil]; simpa using hl, rfl, fun v hv => by cases hv⟩
  | len + 1, c, hl, hall => by
    have h0 := hall 0 (by omega)
    rw [Nat.zero_mul, List.drop_zero] at h0
    have hk := h0.field f0
    obtain ⟨p, g1, w1⟩ := (h0.field f1).int ui
    rw [ck] at hk
    rw [ci] at g1
    rw [List.drop_zero] at hk
    have h4 : (c.take 5).take 4 = c.take 4 := by rw [List.take_take]; rfl
    rw [h4] at hk
    have hb : ∃ bs : List UInt8, c.take 4 = bcells bs ∧ bs.length = 4 := by
      unfold Fits at hk
      rw [uk] at hk
      exact fits_bytes ub cb (by rw [hk.1, ck, cb]) hk.2
    obtain ⟨bs, hb1, hb2⟩ := hb
    obtain ⟨a0, a1, a2, a3, rfl⟩ := four hb2
    obtain ⟨l, e1, e2, e3⟩ := vals_cells_fit f0 f1 uk ub ui ce ck cb ci len (c.drop 5) (by rw [List.length_drop]; omega) fun i hi => by
      have := hall (i + 1) (by omega)
      rw [List.drop_drop]
      rw [show (i + 1) * 5 = 5 + i * 5 from by omega] at this
      exact this
    refine ⟨⟨a0, a1, a2, a3, p⟩ :: l, ?_, by simp [e2], fun v hv => ?_⟩
    · rw [vcells_cons, ← e1]
      have e5 : c = c.take 5 ++ c.drop 5 := (List.take_append_drop 5 c).symm
      have e6 : c.take 5 = c.take 4 ++ ((c.take 5).drop 4).take 1 := by
        have h1 : ((c.take 5).drop 4).take 1 = (c.take 5).drop 4 := List.take_of_length_le (by rw [List.length_drop, List.length_take]; omega)
        rw [h1, ← h4, List.take_append_drop]
      conv => lhs; rw [e5, e6, hb1, g1]
      rfl
    · rcases List.mem_cons.1 hv with rfl | hv
      · exact wf_i64 w1
      · exact e3 v hv
end Go.Proofs.Ytmhnddkpiefkhaa.A

namespace Go.Proofs.Ytmhnddkpiefkhaa.A
open Go Go.Vm
set_option maxRecDepth 100000
set_option linter.unusedVariables false
theorem wf_u64 {x : Int} (h : (Lit.int .u64 x).wf = true) : 0 ≤ x ∧ x ≤ 18446744073709551615 := by
  simp [Lit.wf, IntKind.min, IntKind.max, IntKind.signed, IntKind.bits] at h
  omega
theorem votes_cells_fit {h : Heap} {m : Nat} {te ti tu : TypeId} (f0 : fieldAt Try.prog te 0 = some (0, ti)) (f1 : fieldAt Try.prog te 1 = some (1, tu)) (ui : Try.prog.underlying ti = some (.int .i64)) (uu : Try.prog.underlying tu = some (.int .u64))
    (ce : Try.prog.cellsOf te = 2) (ci : Try.prog.cellsOf ti = 1) (cu : Try.prog.cellsOf tu = 1) : ∀ (len : Nat) (c : List Value), c.length = len * 2 → (∀ i, i < len → Fits Try.prog h (m + 2) te ((c.drop (i * 2)).take 2)) →
    ∃ l : List Vote, c = tcells l ∧ l.length = len
  | 0, c, hl, _ => ⟨[], by rw [tcells_nil]; simpa using hl, rfl⟩
  | len + 1, c, hl, hall => by
    have h0 := hall 0 (by omega)
    rw [Nat.zero_mul, List.drop_zero] at h0
    obtain ⟨a, g0, w0⟩ := (h0.field f0).int ui
    obtain ⟨p, g1, w1⟩ := (h0.field f1).int uu
    rw [ci] at g0
    rw [cu] at g1
    obtain ⟨l, e1, e2⟩ := votes_cells_fit f0 f1 ui uu ce ci cu len (c.drop 2) (by rw [List.length_drop]; omega) fun i hi => by
      have := hall (i + 1) (by omega)
      rw [List.drop_drop]
      rw [show (i + 1) * 2 = 2 + i * 2 from by omega] at this
      exact this
    have hp := wf_u64 w1
    refine ⟨⟨a, p.toNat⟩ :: l, ?_, by simp [e2]⟩
    rw [tcells_cons, ← e1]
    match c, hl with
    | [], hl => simp at hl
    | [u], hl => simp at hl; omega
    | u :: w :: c, hl =>
      have g0 : [u] = [Value.int .i64 a] := g0
      have g1 : [w] = [Value.int .u64 p] := g1
      have g0 : u = Value.int .i64 a := by injection g0
      have g1 : w = Value.int .u64 p := by injection g1
      rw [g0, g1]
      show _ = [Value.int .i64 a, Value.int .u64 ((p.toNat : Nat) : Int)] ++ c
      rw [show ((p.toNat : Nat) : Int) = p from by omega]
      rfl
theorem fits_votes {h : Heap} {m : Nat} {t te ti tu : TypeId} {cs : List Value} (ht : Try.prog.underlying t = some (.slice te)) (f0 : fieldAt Try.prog te 0 = some (0, ti)) (f1 : fieldAt Try.prog te 1 = some (1, tu)) (ui : Try.prog.underlying ti = some (.int .i64)) (uu : Try.prog.underlying tu = some (.int .u64))
    (ce : Try.prog.cellsOf te = 2) (ci : Try.prog.cellsOf ti = 1) (cu : Try.prog.cellsOf tu = 1) (hv : Fits Try.prog h (m + 3) t cs) : ∃ (v : Value) (l : List Vote), cs = [v] ∧ Rd h 2 v (tcells l) l.length := by
  unfold Fits at hv
  rw [ht] at hv
  rcases hv with hv | ⟨b, len, cap, c, hv, hb, hlc, hcap, hro, hl, hall⟩
  · exact ⟨_, [], hv, Rd.nil⟩
  · rw [ce] at hl hall
    obtain ⟨l, rfl, e2⟩ := votes_cells_fit f0 f1 ui uu ce ci cu len c hl hall
    refine ⟨_, l, hv, ⟨_, _, by rw [e2], tcells_len l, fun hn => ⟨b, 0, none, rfl, hb, ?_⟩⟩⟩
    rw [cellsAt_of (c := tcells l) (by rw [hro (by omega)]; rfl) (by rw [tcells_len]; omega), List.drop_zero, List.take_of_length_le (by rw [tcells_len]; omega)]
theorem fits_vals1 {h : Heap} {m : Nat} {t te tk tb ti : TypeId} {cs : List Value} (ht : Try.prog.underlying t = some (.slice te)) (f0 : fieldAt Try.prog te 0 = some (0, tk)) (f1 : fieldAt Try.prog te 1 = some (4, ti)) (uk : Try.prog.underlying tk = some (.array 4 tb)) (ub : Try.prog.underlying tb = some (.int .u8)) (ui : Try.prog.underlying ti = some (.int .i64))
    (ce : Try.prog.cellsOf te = 5) (ck : Try.prog.cellsOf tk = 4) (cb : Try.prog.cellsOf tb = 1) (ci : Try.prog.cellsOf ti = 1) (hv : Fits Try.prog h (m + 4) t cs) : ∃ (v : Value) (l : List Val), cs = [v] ∧ Rd h 5 v (vcells l) l.length := by
  unfold Fits at hv
  rw [ht] at hv
  rcases hv with hv | ⟨b, len, cap, c, hv, hb, hlc, hcap, hro, hl, hall⟩
  · exact ⟨_, [], hv, Rd.nil⟩
  · rw [ce] at hl hall
    obtain ⟨l, rfl, e2, e3⟩ := vals_cells_fit f0 f1 uk ub ui ce ck cb ci len c hl hall
    refine ⟨_, l, hv, ⟨_, _, by rw [e2], vcells_len l, fun hn => ⟨b, 0, none, rfl, hb, ?_⟩⟩⟩
    rw [cellsAt_of (c := vcells l) (by rw [hro (by omega)]; rfl) (by rw [vcells_len]; omega), List.drop_zero, List.take_of_length_le (by rw [vcells_len]; omega)]
theorem fits_bkM {h : Heap} {n : Nat} {cs : List Value} (hv : Fits Try.prog h (n + 6) 36 cs) : ∃ (x : Bk) (sv sl : Value), cs = x.cells sv sl ∧ BkRd h x sv sl := by
  have b0 : fieldAt Try.prog 36 0 = some (0, 30) := by kernel_rfl
  have b1 : fieldAt Try.prog 36 1 = some (131, 33) := by kernel_rfl
  have b2 : fieldAt Try.prog 36 2 = some (165, 34) := by kernel_rfl
  have m0 : fieldAt Try.prog 33 0 = some (0, 3) := by kernel_rfl
  have m1 : fieldAt Try.prog 33 1 = some (1, 28) := by kernel_rfl
  have m2 : fieldAt Try.prog 33 2 = some (33, 31) := by kernel_rfl
  have v0 : fieldAt Try.prog 117 0 = some (0, 3) := by kernel_rfl
  have v1 : fieldAt Try.prog 117 1 = some (1, 115) := by kernel_rfl
  have l0 : fieldAt Try.prog 113 0 = some (0, 111) := by kernel_rfl
  have l1 : fieldAt Try.prog 113 1 = some (4, 3) := by kernel_rfl
  have uv : Try.prog.underlying 31 = some (.slice 117) := by kernel_rfl
  have ul : Try.prog.underlying 34 = some (.slice 113) := by kernel_rfl
  have uk : Try.prog.underlying 111 = some (.array 4 5) := by kernel_rfl
  have uu : Try.prog.underlying 115 = some (.int .u64) := by kernel_rfl
  have g0 : fieldAt Try.prog 30 0 = some (0, 9) := by kernel_rfl
  have g1 : fieldAt Try.prog 30 1 = some (1, 3) := by kernel_rfl
  have g2 : fieldAt Try.prog 30 2 = some (2, 3) := by kernel_rfl
  have g3 : fieldAt Try.prog 30 3 = some (3, 28) := by kernel_rfl
  have g4 : fieldAt Try.prog 30 4 = some (35, 28) := by kernel_rfl
  have g5 : fieldAt Try.prog 30 5 = some (67, 28) := by kernel_rfl
  have g6 : fieldAt Try.prog 30 6 = some (99, 28) := by kernel_rfl
  have u1 : Try.prog.underlying 9 = some .string := by kernel_rfl
  have u2 : Try.prog.underlying 3 = some (.int .i64) := by kernel_rfl
  have u3 : Try.prog.underlying 28 = some (.array 32 5) := by kernel_rfl
  have u4 : Try.prog.underlying 5 = some (.int .u8) := by kernel_rfl
  have c1 : Try.prog.cellsOf 9 = 1 := by kernel_rfl
  have c2 : Try.prog.cellsOf 3 = 1 := by kernel_rfl
  have c3 : Try.prog.cellsOf 28 = 32 := by kernel_rfl
  have c4 : Try.prog.cellsOf 5 = 1 := by kernel_rfl
  have c5 : Try.prog.cellsOf 30 = 131 := by kernel_rfl
  have c6 : Try.prog.cellsOf 33 = 34 := by kernel_rfl
  have c7 : Try.prog.cellsOf 36 = 166 := by kernel_rfl
  have c8 : Try.prog.cellsOf 117 = 2 := by kernel_rfl
  have c9 : Try.prog.cellsOf 113 = 5 := by kernel_rfl
  have d1 : Try.prog.cellsOf 111 = 4 := by kernel_rfl
  have d2 : Try.prog.cellsOf 115 = 1 := by kernel_rfl
  have d3 : Try.prog.cellsOf 31 = 1 := by kernel_rfl
  have d4 : Try.prog.cellsOf 34 = 1 := by kernel_rfl
  have hlen := hv.len b0
  rw [c7] at hlen
  obtain ⟨x, hx, _, _, hh⟩ := fits_header (m := n + 2) g0 g1 g2 g3 g4 g5 g6 u1 u2 u3 u4 c1 c2 c3 c4 c5 (hv.field b0)
  rw [c5] at hh
  have hc := hv.field b1
  rw [c6] at hc
  obtain ⟨ht, k0, _⟩ := (hc.field m0).int u2
  obtain ⟨hs, k1, k1l⟩ := fits_flat32 (m := n + 2) u3 u4 c4 c3 (hc.field m1)
  obtain ⟨sv, vs, k2, k2r⟩ := fits_votes (m := n + 1) uv v0 v1 u2 uu c8 c2 d2 (hc.field m2)
  obtain ⟨sl, ls, k3, k3r⟩ := fits_vals1 (m := n + 1) ul l0 l1 uk u4 u2 c9 d1 c4 c2 (hv.field b2)
  rw [c2] at k0
  rw [c3] at k1
  rw [d3] at k2
  rw [d4] at k3
  refine ⟨⟨x, ⟨ht, hs, vs⟩, ls⟩, sv, sl, ?_, ⟨hx, k1l, k2r, k3r⟩⟩
  have hcc : (cs.drop 131).take 34 = .int .i64 ht :: (bcells hs ++ [sv]) := by
    have hl2 : ((cs.drop 131).take 34).length = 34 := by rw [List.length_take, List.length_drop]; omega
    generalize (cs.drop 131).take 34 = c at *
    rw [← List.drop_zero (l := c), vsplit c 0 1, k0, vsplit c (0 + 1) 32, k1, vsplit c (0 + 1 + 32) 1, k2, show c.drop (0 + 1 + 32 + 1) = [] from List.drop_eq_nil_of_le (by omega), List.append_nil]
    rfl
  rw [← List.drop_zero (l := cs), vsplit cs 0 131, hh, vsplit cs (0 + 131) 34, hcc, vsplit cs (0 + 131 + 34) 1, k3, show cs.drop (0 + 131 + 34 + 1) = [] from List.drop_eq_nil_of_le (by omega), List.append_nil]
  simp only [Bk.cells, Hd.cells, List.cons_append, List.append_assoc, List.nil_append]
structure AC where
  kind : Int
  who : Int
  is : Bool
  b : Bk
  sv : Value
  sl : Value
abbrev AC.cells (a : AC) : List Value := .int .i64 a.kind :: .int .i64 a.who :: .bool a.is :: a.b.cells a.sv a.sl
def acells (l : List AC) : List Value := l.flatMap AC.cells
def zAC : AC := ⟨0, 0, false, zBk, .slice none 0 0, .slice none 0 0⟩
theorem acells_cons (a : AC) (l : List AC) : acells (a :: l) = a.cells ++ acells l := rfl
theorem AC.len {h : Heap} {a : AC} (hb : BkRd h a.b a.sv a.sl) : a.cells.length = 169 := by
  have h1 := hb.hd.prev
  have h2 := hb.hd.vals
  have h3 := hb.hd.next
  have h4 := hb.hd.app
  have h5 := hb.hash
  simp only [AC.cells, Bk.cells, List.length_cons, List.length_append, bcells_len, List.length_nil]
  omega
theorem acells_len {h : Heap} : ∀ {l : List AC}, (∀ a ∈ l, BkRd h a.b a.sv a.sl) → (acells l).length = l.length * 169
  | [], _ => rfl
  | a :: l, hl => by
    rw [acells_cons, List.length_append, acells_len fun b hb => hl b (by simp [hb]), AC.len (hl a (by simp)), List.length_cons]
    omega
theorem acells_at {h : Heap} : ∀ {l : List AC} {k : Nat}, (∀ a ∈ l, BkRd h a.b a.sv a.sl) → k < l.length → ((acells l).drop (k * 169)).take 169 = (l.getD k zAC).cells
  | a :: l, 0, hl, _ => by
    have := AC.len (hl a (by simp))
    rw [acells_cons, Nat.zero_mul, List.drop_zero, ← this, List.take_left]
    rfl
  | a :: l, k + 1, hl, hk => by
    have h1 := AC.len (hl a (by simp))
    have h2 := acells_at (l := l) (k := k) (fun b hb => hl b (by simp [hb])) (by simpa using hk)
    rw [acells_cons, show (k + 1) * 169 = a.cells.length + k * 169 from by omega, ← List.drop_drop, List.drop_left]
    exact h2
theorem act_mem {l : List AC} {k : Nat} (hk : k < l.length) : l.getD k zAC ∈ l := by
  simp [List.getD, hk]
theorem act_cells {h0 h : Heap} {b o n k : Nat} {l : List AC} (hl : ∀ a ∈ l, BkRd h0 a.b a.sv a.sl) (hc : cellsAt h b o (n * 169) = some (acells l)) (hn : l.length = n) (hk : k < n) : Cells h b (o + k * 169) 169 (l.getD k zAC).cells := ⟨by
  rw [cellsAt_sub hc (by omega), acells_at hl (by omega)]⟩
theorem act_block {h0 h : Heap} {b o n k : Nat} {l : List AC} (hl : ∀ a ∈ l, BkRd h0 a.b a.sv a.sl) (hc : cellsAt h b o (n * 169) = some (acells l)) (hn : l.length = n) (hk : k < n) : Cells h b (o + k * 169 + 3) 166 ((l.getD k zAC).b.cells (l.getD k zAC).sv (l.getD k zAC).sl) := ⟨by
  have h5 := (act_cells hl hc hn hk).eq
  have h6 := AC.len (hl _ (act_mem (l := l) (k := k) (by omega)))
  rw [cellsAt_sub (k := 3) (m := 166) h5 (by omega)]
  have : ((l.getD k zAC).b.cells (l.getD k zAC).sv (l.getD k zAC).sl).length = 166 := by
    have e : (l.getD k zAC).cells.length = ((l.getD k zAC).b.cells (l.getD k zAC).sv (l.getD k zAC).sl).length + 3 := rfl
    omega
  simp only [AC.cells, List.drop_succ_cons, List.drop_zero]
  rw [← this, List.take_length]⟩
theorem acts_cells_fit {h : Heap} {n : Nat} {te : TypeId} (f0 : fieldAt Try.prog te 0 = some (0, 3)) (f1 : fieldAt Try.prog te 1 = some (1, 3)) (f2 : fieldAt Try.prog te 2 = some (2, 4)) (f3 : fieldAt Try.prog te 3 = some (3, 36)) (ui : Try.prog.underlying 3 = some (.int .i64)) (ci : Try.prog.cellsOf 3 = 1) (ub : Try.prog.underlying 4 = some .bool) (cB : Try.prog.cellsOf 4 = 1) (cb : Try.prog.cellsOf 36 = 166) :
    ∀ (len : Nat) (c : List Value), c.length = len * 169 → (∀ i, i < len → Fits Try.prog h (n + 7) te ((c.drop (i * 169)).take 169)) → ∃ l : List AC, c = acells l ∧ l.length = len ∧ ∀ a ∈ l, BkRd h a.b a.sv a.sl
  | 0, c, hl, _ => ⟨[], by simpa [acells] using hl, rfl, by simp⟩
  | len + 1, c, hl, hall => by
    have h0 := hall 0 (by omega)
    rw [Nat.zero_mul, List.drop_zero] at h0
    obtain ⟨a, g0, _⟩ := (h0.field f0).int ui
    obtain ⟨w, g1, _⟩ := (h0.field f1).int ui
    obtain ⟨x, sv, sl, g2, hb⟩ := fits_bkM (n := n) (h0.field f3)
    have g3 := h0.field f2
    unfold Fits at g3
    rw [ub] at g3
    obtain ⟨bb, g3⟩ := g3
    rw [cB] at g3
    rw [ci] at g0 g1
    rw [cb] at g2
    obtain ⟨l, e1, e2, e3⟩ := acts_cells_fit f0 f1 f2 f3 ui ci ub cB cb len (c.drop 169) (by rw [List.length_drop]; omega) fun i hi => by
      have := hall (i + 1) (by omega)
      rw [List.drop_drop]
      rw [show (i + 1) * 169 = 169 + i * 169 from by omega] at this
      exact this
    have hl2 : (c.take 169).length = 169 := by rw [List.length_take]; omega
    have he : c.take 169 = (⟨a, w, bb, x, sv, sl⟩ : AC).cells := by
      generalize c.take 169 = e at *
      rw [← List.drop_zero (l := e), vsplit e 0 1, g0, vsplit e (0 + 1) 1, g1, vsplit e (0 + 1 + 1) 1, g3, vsplit e (0 + 1 + 1 + 1) 166, g2, show e.drop (0 + 1 + 1 + 1 + 166) = [] from List.drop_eq_nil_of_le (by omega), List.append_nil]
      rfl
    refine ⟨⟨a, w, bb, x, sv, sl⟩ :: l, ?_, by simp [e2], fun b hb' => (List.mem_cons.1 hb').elim (fun e => by rw [e]; exact hb) (e3 b)⟩
    rw [acells_cons, ← e1, ← he, List.take_append_drop]
theorem fits_acts {h : Heap} {n : Nat} {t te : TypeId} {cs : List Value} (ht : Try.prog.underlying t = some (.slice te)) (f0 : fieldAt Try.prog te 0 = some (0, 3)) (f1 : fieldAt Try.prog te 1 = some (1, 3)) (f2 : fieldAt Try.prog te 2 = some (2, 4)) (f3 : fieldAt Try.prog te 3 = some (3, 36)) (ui : Try.prog.underlying 3 = some (.int .i64)) (ci : Try.prog.cellsOf 3 = 1) (ub : Try.prog.underlying 4 = some .bool) (cB : Try.prog.cellsOf 4 = 1) (cb : Try.prog.cellsOf 36 = 166) (ce : Try.prog.cellsOf te = 169) (hv : Fits Try.prog h (n + 8) t cs) :
    ∃ (v : Value) (l : List AC), cs = [v] ∧ Rd h 169 v (acells l) l.length ∧ ∀ a ∈ l, BkRd h a.b a.sv a.sl := by
  unfold Fits at hv
  rw [ht] at hv
  rcases hv with hv | ⟨b, len, cap, c, hv, hb, hlc, hcap, hro, hl, hall⟩
  · exact ⟨_, [], hv, Rd.nil, by simp⟩
  · rw [ce] at hl hall
    obtain ⟨l, rfl, e2, e3⟩ := acts_cells_fit (n := n) f0 f1 f2 f3 ui ci ub cB cb len c hl hall
    have hal := acells_len e3
    refine ⟨_, l, hv, ⟨_, _, by rw [e2], hal, fun hn => ⟨b, 0, none, rfl, hb, ?_⟩⟩, e3⟩
    rw [cellsAt_of (c := acells l) (by rw [hro (by omega)]; rfl) (by omega), List.drop_zero, List.take_of_length_le (by omega)]
end Go.Proofs.Ytmhnddkpiefkhaa.A

namespace Go.Proofs.Ytmhnddkpiefkhaa.A
open Go Go.Vm
set_option maxRecDepth 10000
set_option linter.unusedVariables false
theorem kkcells_at : ∀ {l : List KK} {k : Nat}, k < l.length → ((kkcells l).drop (k * 3)).take 3 = (l.getD k ⟨0, false, false⟩).cells
  | e :: l, 0, _ => rfl
  | e :: l, k + 1, h => by
    have := kkcells_at (l := l) (k := k) (by simpa using h)
    show (((KK.cells e) ++ kkcells l).drop ((k + 1) * 3)).take 3 = _
    rw [show (k + 1) * 3 = (KK.cells e).length + k * 3 from by simp; omega, ← List.drop_drop, List.drop_left]
    exact this
theorem kk_cells {h : Heap} {b o n k : Nat} {l : List KK} (hc : cellsAt h b o (n * 3) = some (kkcells l)) (hn : l.length = n) (hk : k < n) : Cells h b (o + k * 3) 3 (l.getD k ⟨0, false, false⟩).cells := ⟨by
  rw [cellsAt_sub hc (by omega), kkcells_at (by omega)]⟩
theorem kk_cell {h : Heap} {b o n k i : Nat} {l : List KK} {v : Value} (hc : cellsAt h b o (n * 3) = some (kkcells l)) (hn : l.length = n) (hk : k < n) (hi : i < 3) (hv : ((l.getD k ⟨0, false, false⟩).cells.drop i).take 1 = [v]) : Cell h b (o + k * 3 + i) v := ⟨by
  have h1 := (kk_cells hc hn hk).eq
  rw [cellsAt_sub h1 (by omega)]
  exact congrArg some hv⟩
def hasK (l : List KK) (k : Int) : Option KK := l.find? fun e => decide (e.k = k)
theorem same_kk {v w : KK} : same v.cells w.cells = decide (v = w) := by
  by_cases h : v = w
  · rw [h, same_self, decide_eq_true rfl]
  · rw [decide_eq_false h, same_ne]
    intro e
    apply h
    obtain ⟨a, s, p⟩ := v
    obtain ⟨b, t, q⟩ := w
    simp only [KK.cells, List.cons.injEq, Value.int.injEq, Value.bool.injEq, true_and, and_true] at e
    obtain ⟨e1, e2, e3⟩ := e
    rw [e1, e2, e3]
set_option maxHeartbeats 4000000 in
theorem SameKept_ok {h : Heap} {v w : Value} {l m : List KK} (hv : Rd h 3 v (kkcells l) l.length) (hw : Rd h 3 w (kkcells m) m.length) (hs : l.length < 1048576) (ht : m.length < 1048576) :
    Runs Try.prog T0 (.fn fn_zqQ) [v, w] h (fun r h' => r = .bool (decide (l = m)) ∧ h' = h) (fun _ _ => False) := by
  obtain ⟨a, cap, rfl, hlen, hc⟩ := hv
  obtain ⟨a', cap', rfl, hlen', hc'⟩ := hw
  refine zqQ_runs ?_
  refine stp ?_
  refine loop2 zqQ_l0_M 5 6 (fun q v5 v6 h' => ∃ (k : Nat) (B : Bool), k ≤ l.length ∧ q = l.length - k ∧ v6 = .int .i64 k ∧ v5 = .bool B ∧ (B = true ↔ l.length = m.length ∧ l.take k = m.take k) ∧ h' = h) ?_ l.length ⟨0, _, by omega, rfl, rfl, rfl, by simp; omega, rfl⟩
  rintro m v5 v6 h' x12 x13 x14 x15 x16 x17 x18 x19 x20 x21 x22 x23 x24 x25 x26 x27 x28 x29 ⟨k, B, hk, rfl, rfl, rfl, hB, rfl⟩
  cases B with
  | false =>
    refine stp ?_
    have hne : l ≠ m := fun e => by have := hB.2 ⟨by rw [e], by rw [e]⟩; cases this
    rw [decide_eq_false hne]
    exact ⟨rfl, rfl⟩
  | true =>
    obtain ⟨hl1, hl2⟩ := hB.1 rfl
    refine stp ?_
    refine C.if (fun hlt => ?_) (fun hge => ?_)
    · have hlt : k < l.length := by omega
      obtain ⟨b, o, sp, rfl, hb, hcc⟩ := hc (by omega)
      obtain ⟨b', o', sp', rfl, hb', hcc'⟩ := hc' (by omega)
      haveI := kk_cells hcc rfl hlt
      haveI := kk_cells hcc' rfl (show k < m.length by omega)
      refine stp ?_
      rw [same_kk]
      exact loop2a 5 6 (l.length - (k + 1)) (by omega) ⟨k + 1, _, by omega, rfl, rfl, rfl, by rw [decide_eq_true_eq, take_next (z := ⟨0, false, false⟩) hlt (by omega)]; exact ⟨fun e => ⟨hl1, hl2, e⟩, fun e => e.2.2⟩, rfl⟩
    · refine stp ?_
      have e : l = m := by
        have h1 : l.take l.length = m.take l.length := by rw [show l.length = k by omega]; exact hl2
        rwa [List.take_length, hl1, List.take_length] at h1
      rw [decide_eq_true e]
      exact ⟨rfl, rfl⟩
def actOK (a : AC) : Prop := a.b.vals.length ≤ 70 ∧ a.b.c.votes.length ≤ 70 ∧ a.b.h.chain.length ≤ 60
theorem act_take {l : List AC} {k : Nat} (hk : k < l.length) : (∀ a ∈ l.take (k + 1), actOK a) ↔ (∀ a ∈ l.take k, actOK a) ∧ actOK (l.getD k zAC) := by
  have g : l.getD k zAC = l[k] := by simp [List.getD, hk]
  rw [List.take_succ_eq_append_getElem hk, g]
  constructor
  · exact fun h => ⟨fun a ha => h a (List.mem_append.2 (.inl ha)), h _ (List.mem_append.2 (.inr (List.mem_singleton.2 rfl)))⟩
  · rintro ⟨h1, h2⟩ a ha
    rcases List.mem_append.1 ha with ha | ha
    · exact h1 a ha
    · rw [List.mem_singleton.1 ha]; exact h2
set_option maxHeartbeats 4000000 in
theorem long_ok {h : Heap} {v : Value} {l : List AC} (hv : Rd h 169 v (acells l) l.length) (hl : ∀ a ∈ l, BkRd h a.b a.sv a.sl) :
    Runs Try.prog T0 (.fn fn_zwQ) [v] h (fun r h' => (∃ b : Bool, r = .bool b ∧ (b = false → l.length ≤ 40 ∧ ∀ a ∈ l, actOK a)) ∧ Fr (fun _ => False) h h') (fun _ _ => False) := by
  obtain ⟨a, cap, rfl, hlen, hc⟩ := hv
  refine zwQ_runs ?_
  refine stp ?_
  refine loop1 zwQ_l0_M 3 (fun q v3 h' => ∃ k : Nat, k ≤ l.length ∧ k ≤ 41 ∧ q = 41 - k ∧ v3 = .int .i64 k ∧ (∀ a ∈ l.take k, actOK a) ∧ Fr (fun _ => False) h h') ?_ 41 ⟨0, by omega, by omega, rfl, rfl, by simp, Fr.refl⟩
  rintro m v3 h' x2 x4 x5 x6 x7 x8 x9 x10 x11 x12 x13 x14 x15 x16 x17 x18 x19 ⟨k, hk, hk2, rfl, rfl, hall, hf⟩
  refine stp ?_
  refine O.dec (fun e1 => ?_) (fun e1 => ?_)
  · have hlt : k < l.length := by omega
    refine stp ?_
    refine C.if (fun e2 => ?_) (fun e2 => ?_)
    · obtain ⟨b, o, sp, rfl, hb, hcc⟩ := hc (by omega)
      have hcc' : cellsAt h' b o (l.length * 169) = some (acells l) := by rw [cellsAt_keep hf hb id]; exact hcc
      haveI := act_block hl hcc' rfl hlt
      have hm := hl _ (act_mem hlt)
      have hat := act_take hlt
      generalize l.getD k zAC = A at *
      refine stp ?_
      refine O.call' (LongBlock_ok (hm.keep hf fun _ _ => id)) (fun r h1 hr => ?_)
      obtain ⟨⟨b', rfl, hlong⟩, hf1⟩ := hr
      have F1 := hf.trans' hf1
      cases b' with
      | true =>
        refine stp ?_
        exact ⟨⟨true, rfl, fun e => by cases e⟩, F1⟩
      | false =>
        refine stp ?_
        exact loop1a 3 (41 - (k + 1)) (by omega) ⟨k + 1, by omega, by omega, rfl, rfl, hat.2 ⟨hall, hlong rfl⟩, F1⟩
    · refine stp ?_
      exact ⟨⟨_, rfl, fun e => by have := of_decide_eq_false e; omega⟩, hf⟩
  · refine stp ?_
    have hkl : k = l.length := by omega
    exact ⟨⟨_, rfl, fun e => ⟨by have := of_decide_eq_false e; omega, fun a ha => hall a (by rw [List.take_of_length_le (by omega)]; exact ha)⟩⟩, hf⟩
end Go.Proofs.Ytmhnddkpiefkhaa.A

namespace Go.Proofs.Ytmhnddkpiefkhaa.A
open Go Go.Vm
set_option maxRecDepth 10000
set_option linter.unusedVariables false
structure InvS (room : Int) (l : List SE) : Prop where
  le : (l.length : Int) ≤ room
  pos : ∀ y ∈ l, 1 ≤ y.k
  nd : (l.map SE.k).Nodup
theorem hasK_some {B : List KK} (hn : (B.map KK.k).Nodup) {e : KK} (he : e ∈ B) : hasK B e.k = some e := by
  induction B with
  | nil => simp at he
  | cons a B ih =>
    simp only [List.map_cons, List.nodup_cons] at hn
    unfold hasK
    rw [List.find?_cons]
    by_cases h : a.k = e.k
    · have : a = e := by
        rcases List.mem_cons.1 he with h1 | h1
        · exact h1.symm
        · exact absurd (List.mem_map.2 ⟨e, h1, h.symm⟩) hn.1
      simp [this]
    · have h1 : e ∈ B := by
        rcases List.mem_cons.1 he with h1 | h1
        · exact absurd (by rw [h1]) h
        · exact h1
      simp only [h, decide_false]
      exact ih hn.2 h1
theorem hasK_none {B : List KK} {k : Int} (h : ∀ e ∈ B, e.k ≠ k) : hasK B k = none := by
  unfold hasK
  exact List.find?_eq_none.2 fun e he => by simpa using h e he
theorem kk_map (l : List SE) : (l.map SE.kk).map KK.k = l.map SE.k := by rw [List.map_map]; rfl
structure Shows (l : List SE) (A : List KK) : Prop where
  nd : (A.map KK.k).Nodup
  mem : ∀ a, a ∈ A ↔ ∃ y ∈ l, y.kk = a
  len : A.length = l.length
theorem Shows.of {l L : List SE} (hn : (l.map SE.k).Nodup) (hp : L.Perm l) : Shows l (L.map SE.kk) :=
  ⟨by rw [kk_map]; exact ((hp.map SE.k).nodup_iff).2 hn, fun a => ⟨fun h => by
    obtain ⟨y, hy, e⟩ := List.mem_map.1 h
    exact ⟨y, hp.mem_iff.1 hy, e⟩, fun ⟨y, hy, e⟩ => List.mem_map.2 ⟨y, hp.mem_iff.2 hy, e⟩⟩, by rw [List.length_map, hp.length_eq]⟩
theorem Shows.some {l : List SE} {A : List KK} (h : Shows l A) {y : SE} (hy : y ∈ l) : hasK A y.k = some y.kk := hasK_some h.nd ((h.mem _).2 ⟨y, hy, rfl⟩)
theorem Shows.none {l : List SE} {A : List KK} (h : Shows l A) {k : Int} (hk : ∀ y ∈ l, y.k ≠ k) : hasK A k = none := hasK_none fun e he => by
  obtain ⟨y, hy, rfl⟩ := (h.mem e).1 he
  exact hk y hy
theorem filter_less {l : List SE} {y : SE} (hy : y ∈ l) : (l.filter fun z => !decide (z.k = y.k)).length < l.length := by
  induction l with
  | nil => simp at hy
  | cons a l ih =>
    rw [List.filter_cons]
    rcases List.mem_cons.1 hy with h | h
    · subst h
      have := List.length_filter_le (fun z : SE => !decide (z.k = y.k)) l
      simp
      omega
    · have := ih h
      split
      · simp only [List.length_cons]
        omega
      · simp only [List.length_cons]
        omega
theorem put_inv {room : Int} {l l' : List SE} {x : Bk} {gone e : Int} (h : PutRel room l x gone e l') (hi : InvS room l) : InvS room l' := by
  rcases h with ⟨_, _, _, rfl⟩ | ⟨hin, ⟨_, _, _, rfl⟩ | ⟨hne, ⟨_, _, _, _, rfl⟩ | ⟨n, hx, _, _, _, ⟨hlt, _, rfl⟩ | ⟨hfull, y, hy, hyp, hmin, _, rfl⟩⟩⟩⟩
  · exact hi
  · exact hi
  · exact hi
  · have hnk : n.k = x.h.height := by show n.x.h.height = _; rw [hx]
    refine ⟨by simp; omega, fun z hz => ?_, ?_⟩
    · rcases List.mem_append.1 hz with hz | hz
      · exact hi.pos z hz
      · rw [List.mem_singleton.1 hz, hnk]; exact hin.1
    · rw [List.map_append, List.nodup_append]
      refine ⟨hi.nd, by simp, fun a ha b hb => ?_⟩
      obtain ⟨z, hz, rfl⟩ := List.mem_map.1 ha
      rw [List.map_singleton, List.mem_singleton] at hb
      rw [hb, hnk]
      exact hne z hz
  · have hnk : n.k = x.h.height := by show n.x.h.height = _; rw [hx]
    have h1 := filter_less hy
    refine ⟨by have := hi.le; simp; omega, fun z hz => ?_, ?_⟩
    · rcases List.mem_append.1 hz with hz | hz
      · exact hi.pos z (List.mem_filter.1 hz).1
      · rw [List.mem_singleton.1 hz, hnk]; exact hin.1
    · rw [List.map_append, List.nodup_append]
      refine ⟨hi.nd.sublist ((List.filter_sublist).map _), by simp, fun a ha b hb => ?_⟩
      obtain ⟨z, hz, rfl⟩ := List.mem_map.1 ha
      rw [List.map_singleton, List.mem_singleton] at hb
      rw [hb, hnk]
      exact hne z (List.mem_filter.1 hz).1
theorem turn_inv {room k : Int} {l : List SE} {f : SE → SE} (hf : ∀ z, (f z).x = z.x) (hi : InvS room l) : InvS room (turnS k f l) := by
  have hk : ∀ z, (if z.k = k then f z else z).k = z.k := fun z => by
    split
    · show (f z).x.h.height = _; rw [hf]
    · rfl
  refine ⟨by unfold turnS; rw [List.length_map]; exact hi.le, fun y hy => ?_, ?_⟩
  · obtain ⟨z, hz, rfl⟩ := List.mem_map.1 hy
    have h1 := hk z
    have h2 := hi.pos z hz
    show 1 ≤ (if z.k = k then f z else z).k
    rw [h1]; exact h2
  · have : (turnS k f l).map SE.k = l.map SE.k := by
      unfold turnS
      rw [List.map_map]
      exact List.map_congr_left fun z _ => hk z
    rw [this]; exact hi.nd
theorem only_inv {room k : Int} {l : List SE} (hi : InvS room l) : InvS room (onlyS k l) :=
  ⟨by have := hi.le; have := List.length_filter_le (fun z : SE => decide (z.k = k)) l; unfold onlyS; omega, fun y hy => hi.pos y (List.mem_filter.1 hy).1, hi.nd.sublist ((List.filter_sublist).map _)⟩
end Go.Proofs.Ytmhnddkpiefkhaa.A

namespace Go.Proofs.Ytmhnddkpiefkhaa.A
open Go Go.Vm
set_option maxRecDepth 10000
set_option linter.unusedVariables false
section
variable {P : Program} {ts : List Value} {h : Heap} {x y : Operand} {t t' ty : TypeId} {A : Bool} {l : List Value} {tl : List LK}
instance (priority := high) xnotT [e : Ev ts x (.bool true)] : XOp P ts h (.raw (so (.unOp .not t x) ty)) (.bool false) h := (XOp.notB (A := true) : XOp P ts h (.raw (so (.unOp .not t x) ty)) (.bool (!true)) h)
instance (priority := high) xnotF [e : Ev ts x (.bool false)] : XOp P ts h (.raw (so (.unOp .not t x) ty)) (.bool true) h := (XOp.notB (A := false) : XOp P ts h (.raw (so (.unOp .not t x) ty)) (.bool (!false)) h)
instance (priority := high) xneqF [i : IsBoolT P t] [e : Ev ts x (.bool A)] [e' : Ev ts y (.bool A)] : XOp P ts h (.bin .neq (so (.binOp .neq t x y t') ty) x y) (.bool false) h := by
  have := (XOp.neqB : XOp P ts h (.bin .neq (so (.binOp .neq t x y t') ty) x y) (.bool (!(A == A))) h)
  rw [beq_self_eq_true] at this
  exact this
instance (priority := high) xneqS [i : TLeaves P t tl] [e : Ev ts x (.agg ⟨l⟩)] [e' : Ev ts y (.agg ⟨l⟩)] [g : GrL l] [k : KL tl l] : XOp P ts h (.bin .neq (so (.binOp .neq t x y t') ty) x y) (.bool false) h := by
  have := (XOp.neqAgg : XOp P ts h (.bin .neq (so (.binOp .neq t x y t') ty) x y) (.bool (!same l l)) h)
  rw [same_self] at this
  exact this
theorem xneqI0 {p q : Int} {O : Oper} (hp : p = q) [e1 : Ev ts x (.int .i64 p)] [e2 : Ev ts y (.int .i64 q)] : XOp P ts h (.bin .neq O x y) (.bool false) h := by
  have := (XOp.neqI : XOp P ts h (.bin .neq O x y) (.bool (!decide (p = q))) h)
  rw [decide_eq_true hp] at this
  exact this
theorem xlss0 {p q : Int} {O : Oper} (hp : ¬ p < q) [e1 : Ev ts x (.int .i64 p)] [e2 : Ev ts y (.int .i64 q)] : XOp P ts h (.bin .lss O x y) (.bool false) h := by
  have := (XOp.lssI : XOp P ts h (.bin .lss O x y) (.bool (decide (p < q))) h)
  rw [decide_eq_false hp] at this
  exact this
theorem xeql1 {p q : Int} {O : Oper} (hp : p = q) [e1 : Ev ts x (.int .i64 p)] [e2 : Ev ts y (.int .i64 q)] : XOp P ts h (.bin .eql O x y) (.bool true) h := by
  have := (XOp.eqlI : XOp P ts h (.bin .eql O x y) (.bool (decide (p = q))) h)
  rw [decide_eq_true hp] at this
  exact this
end
theorem rd_kk {h : Heap} {e : KK} {es : Nat} : Rd (h.push (.cells e.cells es)) 3 (.slice (some ⟨h.n, 0, none⟩) 1 1) (kkcells [e]) [e].length :=
  Rd.mk (size := 3) (n := 1) (cap := 1) (sp := none) (o := 0) (b := h.n) (c := kkcells [e]) (by simp) (by rw [cellsAt_of (c := e.cells) (by rw [Heap.get_push, if_pos rfl]; rfl) (by simp)]; rfl)
end Go.Proofs.Ytmhnddkpiefkhaa.A

namespace Go.Proofs.Ytmhnddkpiefkhaa.A
open Go Go.Vm
set_option maxRecDepth 10000
set_option linter.unusedVariables false
structure BkNew (lo : Nat) (h : Heap) (x : Bk) (sw sm : Value) : Prop where
  hd : x.h.ok
  hash : x.c.hash.length = 32
  sv : Own h 2 sw (tcells x.c.votes) x.c.votes.length
  sl : Own h 5 sm (vcells x.vals) x.vals.length
  nv : ∀ i, ownedBy sw i → lo ≤ i
  nl : ∀ i, ownedBy sm i → lo ≤ i
  ne : ∀ i, ownedBy sm i → ¬ ownedBy sw i
theorem BkNew.rd {lo : Nat} {h : Heap} {x : Bk} {sw sm : Value} (hb : BkNew lo h x sw sm) : BkRd h x sw sm := ⟨hb.hd, hb.hash, hb.sv.rd, hb.sl.rd⟩
theorem BkNew.keep {lo : Nat} {S : Nat → Prop} {h h' : Heap} {x : Bk} {sw sm : Value} (hb : BkNew lo h x sw sm) (hf : Fr S h h') (hs : ∀ i, lo ≤ i → ¬ S i) : BkNew lo h' x sw sm :=
  ⟨hb.hd, hb.hash, hb.sv.keep hf fun i hi => hs i (hb.nv i hi), hb.sl.keep hf fun i hi => hs i (hb.nl i hi), hb.nv, hb.nl, hb.ne⟩
theorem bk_len {x : Bk} {sv sl : Value} (hd : x.h.ok) (hh : x.c.hash.length = 32) : (x.cells sv sl).length = 166 := by
  have q1 := hd.prev
  have q2 := hd.vals
  have q3 := hd.next
  have q4 := hd.app
  simp only [Bk.cells, List.length_cons, List.length_append, bcells_len, List.length_nil]
  omega
set_option maxHeartbeats 4000000 in
theorem Get_ok {h : Heap} {p m c : Nat} {room k : Int} {l : List SE} (hs : StAt h p m c room l) :
    Runs Try.prog T0 (.fn fn_zxbQ) [.pointer (some ⟨p, 0, none⟩), .int .i64 k] h
      (fun r h' => ((∃ y ∈ l, y.k = k ∧ ∃ sw sm, r = .tuple ⟨[.agg ⟨y.x.cells sw sm⟩, .bool true]⟩ ∧ BkNew (h.n + 1) h' y.x sw sm) ∨ (∀ y ∈ l, y.k ≠ k) ∧ r = .tuple ⟨[.agg ⟨zBc⟩, .bool false]⟩) ∧ Fr (fun _ => False) h h') (fun _ _ => False) := by
  refine zxbQ_runs ?_
  refine stp ?_
  have F0 : Fr (fun _ => False) h (h.push (.cells zBc 0)) := Fr.refl.push
  have g0 : (h.push (.cells zBc 0)).get h.n = .cells zBc 0 := HGet.new.eq
  have n0 : (h.push (.cells zBc 0)).n = h.n + 1 := rfl
  generalize h.push (.cells zBc 0) = h0 at *
  have hs0 := hs.keep F0 fun _ _ => id
  haveI : HGet h0 p _ := ⟨hs0.gp⟩
  haveI : HGet h0 m _ := ⟨hs0.gm⟩
  haveI : HGet h0 h.n _ := ⟨g0⟩
  refine O.call' (snone_ok hs0) (fun r h0 hr => ?_)
  obtain ⟨rfl, rfl⟩ := hr
  obtain ⟨pv, b, hb1, hb2, hlk⟩ := lookup_any (k := k) hs0.ok (.pointer none)
  refine stp ?_
  cases b with
  | false =>
    obtain ⟨hno, rfl⟩ := hb2 rfl
    refine stp ?_
    exact ⟨.inr ⟨fun y hy => hno _ (List.mem_map.2 ⟨y, hy, rfl⟩), rfl⟩, F0.set fun e => absurd e (by omega)⟩
  | true =>
    obtain ⟨e, he, hk, rfl⟩ := hb1 rfl
    obtain ⟨y, hy, rfl⟩ := List.mem_map.1 he
    have hkey : y.k = k := hk
    have ha := hs0.ats y hy
    have e2 : y.ent.v = .pointer (some ⟨y.b, 0, none⟩) := rfl
    rw [e2]
    haveI := l32 ha.hd.prev
    haveI := l32 ha.hd.vals
    haveI := l32 ha.hd.next
    haveI := l32 ha.hd.app
    haveI := l32 ha.hash
    haveI : HGet h0 y.b _ := ⟨ha.get⟩
    refine stp ?_
    refine O.call' (sown_ok (x := y.x) (sv := y.sv) (sl := y.sl) ⟨ha.hd, ha.hash, ha.sv.rd, ha.sl.rd⟩ (by have := ha.lv; omega) (by have := ha.ll; omega)) (fun r h1 hr => ?_)
    obtain ⟨sw, sm, rfl, o1, o2, m1, m2, m3, f1⟩ := hr
    haveI : HGet h1 h.n _ := f1.keep ⟨g0⟩ (by omega) id
    obtain ⟨a3, c3, rfl, _, _⟩ := id o1.rd
    obtain ⟨a4, c4, rfl, _, _⟩ := id o2.rd
    refine stp ?_
    have fS : ∀ {A : AObj}, Fr (fun i => i = h.n) h1 (h1.set h.n A) := fun {A} => Fr.refl.set fun _ => rfl
    exact ⟨.inl ⟨y, hy, hkey, _, _, rfl, ha.hd, ha.hash, o1.keep fS fun i hi e => by have := m1 i hi; omega, o2.keep fS fun i hi e => by have := m2 i hi; omega, fun i hi => by have := m1 i hi; omega, fun i hi => by have := m2 i hi; omega, m3⟩, (F0.trans' f1).set fun e => absurd e (by omega)⟩
def BelowR (l : List SE) (k : Int) (o : Option SE) : Prop := match o with
  | none => ∀ y ∈ l, y.v = true → ¬ y.k < k
  | some y => y ∈ l ∧ y.v = true ∧ y.k < k ∧ ∀ z ∈ l, z.v = true → z.k < k → z.k ≤ y.k
set_option maxHeartbeats 8000000 in
theorem Below_ok {h : Heap} {p m c : Nat} {room k : Int} {l : List SE} (hs : StAt h p m c room l) (hlen : l.length < 100000) :
    Runs Try.prog T0 (.fn fn_zubQ) [.pointer (some ⟨p, 0, none⟩), .int .i64 k] h
      (fun r h' => ((∃ y, BelowR l k (some y) ∧ ∃ sw sm, r = .tuple ⟨[.agg ⟨y.x.cells sw sm⟩, .bool true]⟩ ∧ BkNew (h.n + 1) h' y.x sw sm) ∨ BelowR l k none ∧ r = .tuple ⟨[.agg ⟨zBc⟩, .bool false]⟩) ∧ Fr (fun _ => False) h h') (fun _ _ => False) := by
  refine zubQ_runs ?_
  refine stp ?_
  have F0 : Fr (fun _ => False) h (h.push (.cells zBc 0)) := Fr.refl.push
  have g0 : (h.push (.cells zBc 0)).get h.n = .cells zBc 0 := HGet.new.eq
  have n0 : (h.push (.cells zBc 0)).n = h.n + 1 := rfl
  generalize h.push (.cells zBc 0) = h0 at *
  have hs0 := hs.keep F0 fun _ _ => id
  refine O.call' (snone_ok hs0) (fun r h0 hr => ?_)
  obtain ⟨rfl, rfl⟩ := hr
  refine stp ?_
  refine O.call' (rising_ok hs0.gp hs0.pl hs0.gm hs0.ml hs0.ok (by simpa using hlen)) (fun r h1 hr => ?_)
  obtain ⟨R, hR, hsort, ho, hnew, f1⟩ := hr
  have hs1 := hs0.keep f1 fun _ _ => id
  have g1 : h1.get h.n = .cells zBc 0 := by rw [f1.get _ (by omega) id]; exact g0
  have n1 := f1.n
  obtain ⟨a, cap, rfl, hl1, hc⟩ := id ho.rd
  have hRl : R.length = l.length := by have := hR.length_eq; simpa using this
  refine stp ?_
  have hmine : ∀ i, Mine p m l i → i ≠ h.n := fun i hi e => by have := hs.mlt hi; omega
  refine loop2 zubQ_l0_M 5 15 (fun q v5 v15 hx => ∃ i : Nat, i ≤ R.length ∧ q = R.length - i ∧ v15 = .int .i64 i ∧ Fr (fun j => j = h.n) h1 hx ∧
      (v5 = .bool false ∧ hx.get h.n = .cells zBc 0 ∧ (∀ z ∈ l, z.v = true → z.k < k → z.k ∉ R.take i) ∨
       ∃ y ∈ l, y.v = true ∧ y.k < k ∧ (∀ z ∈ l, z.v = true → z.k < k → z.k ∈ R.take i → z.k ≤ y.k) ∧ v5 = .bool true ∧ ∃ sw sm, hx.get h.n = .cells (y.x.cells sw sm) 0 ∧ BkNew (h.n + 1) hx y.x sw sm)) ?_ R.length
    ⟨0, by omega, rfl, rfl, Fr.refl, .inl ⟨rfl, g1, by simp⟩⟩
  rintro m v5 v15 h' x7 x8 x16 x17 x18 x19 x20 x21 x22 x23 x24 x25 x26 x27 x28 x29 x30 x31 x32 x33 x34 x35 x36 x37 x38 x39 ⟨i, hi, rfl, rfl, hF, hcase⟩
  have nF := hF.n
  have hsx := hs1.keep hF hmine
  refine stp ?_
  refine C.if (fun hlt => ?_) (fun hge => ?_)
  · have hlt : i < R.length := by omega
    obtain ⟨b, o, sp, rfl, hb, hcc⟩ := hc (by omega)
    have hbn : b ≠ h.n := fun e => by have := hnew b rfl; omega
    haveI : Cell h' b (o + i) (.int .i64 (R.getD i 0)) := ncell_at (n := R.length) (by rw [cellsAt_keep hF hb hbn]; exact hcc) rfl hlt
    have hki : R.getD i 0 ∈ R := by
      rw [List.getD_eq_getElem?_getD, List.getElem?_eq_getElem hlt]
      exact List.getElem_mem hlt
    obtain ⟨e, he, hek⟩ := List.mem_map.1 (hR.mem_iff.1 hki)
    obtain ⟨y, hy, rfl⟩ := List.mem_map.1 he
    have hyk : y.k = R.getD i 0 := hek
    have htk : R.take (i + 1) = R.take i ++ [y.k] := by
      have : R[i] = y.k := by rw [hyk, List.getD_eq_getElem?_getD, List.getElem?_eq_getElem hlt]; rfl
      rw [List.take_succ_eq_append_getElem hlt, this]
    have hup : ∀ z ∈ R.take i, z ≤ y.k := fun z hz => by
      rw [← List.take_append_drop (i + 1) R, htk, List.append_assoc, List.pairwise_append] at hsort
      exact hsort.2.2 z hz y.k (by simp)
    have ha := hsx.ats y hy
    haveI := l32 ha.hd.prev
    haveI := l32 ha.hd.vals
    haveI := l32 ha.hd.next
    haveI := l32 ha.hd.app
    haveI := l32 ha.hash
    haveI : HGet h' p _ := ⟨hsx.gp⟩
    haveI : HGet h' m _ := ⟨hsx.gm⟩
    haveI : HGet h' y.b _ := ⟨ha.get⟩
    refine stp ?_
    rw [← hyk]
    refine O.how (v := .pointer (some ⟨y.b, 0, none⟩)) (XOp.lookupYes1 (l := l.map SE.ent) (c := c) (e := y.ent) he hsx.ok rfl) ?_
    refine stp ?_
    -- one that does not count
    have skip : ¬ (y.v = true ∧ y.k < k) → ∀ {v5 : Value} {hx : Heap}, Fr (fun j => j = h.n) h1 hx →
        (v5 = .bool false ∧ hx.get h.n = .cells zBc 0 ∧ (∀ z ∈ l, z.v = true → z.k < k → z.k ∉ R.take i) ∨
       ∃ y ∈ l, y.v = true ∧ y.k < k ∧ (∀ z ∈ l, z.v = true → z.k < k → z.k ∈ R.take i → z.k ≤ y.k) ∧ v5 = .bool true ∧ ∃ sw sm, hx.get h.n = .cells (y.x.cells sw sm) 0 ∧ BkNew (h.n + 1) hx y.x sw sm) →
        (v5 = .bool false ∧ hx.get h.n = .cells zBc 0 ∧ (∀ z ∈ l, z.v = true → z.k < k → z.k ∉ R.take (i + 1)) ∨
       ∃ y ∈ l, y.v = true ∧ y.k < k ∧ (∀ z ∈ l, z.v = true → z.k < k → z.k ∈ R.take (i + 1) → z.k ≤ y.k) ∧ v5 = .bool true ∧ ∃ sw sm, hx.get h.n = .cells (y.x.cells sw sm) 0 ∧ BkNew (h.n + 1) hx y.x sw sm) := fun hno v5 hx hfx hcs => by
      have same : ∀ z ∈ l, z.v = true → z.k < k → z.k ∈ R.take (i + 1) → z.k ∈ R.take i := fun z hz h1 h2 h3 => by
        rw [htk] at h3
        rcases List.mem_append.1 h3 with h3 | h3
        · exact h3
        · have : z = y := key_inj hs hz hy (List.mem_singleton.1 h3)
          rw [this] at h1 h2
          exact absurd ⟨h1, h2⟩ hno
      rcases hcs with ⟨h1, h2, h3⟩ | ⟨y', h1, h2, h3, h4, h5⟩
      · exact .inl ⟨h1, h2, fun z hz h4 h5 h6 => h3 z hz h4 h5 (same z hz h4 h5 h6)⟩
      · exact .inr ⟨y', h1, h2, h3, fun z hz h6 h7 h8 => h4 z hz h6 h7 (same z hz h6 h7 h8), h5⟩
    refine O.dec (fun hk1 => ?_) (fun hk1 => ?_)
    · refine stp ?_
      refine C.ifB (fun hv1 => ?_) (fun hv1 => ?_)
      · have gx : ∃ cs, h'.get h.n = .cells cs 0 ∧ cs.length = 166 := by
          rcases hcase with ⟨_, h2, _⟩ | ⟨y', _, _, _, _, _, sw, sm, h2, h3⟩
          · exact ⟨_, h2, rfl⟩
          · exact ⟨_, h2, bk_len h3.hd h3.hash⟩
        obtain ⟨cs, gx, hcs⟩ := gx
        refine stp ?_
        refine O.call' (sown_ok (x := y.x) (sv := y.sv) (sl := y.sl) ⟨ha.hd, ha.hash, ha.sv.rd, ha.sl.rd⟩ (by have := ha.lv; omega) (by have := ha.ll; omega)) (fun r h3 hr => ?_)
        obtain ⟨sw, sm, rfl, o1, o2, m1, m2, m3, f3⟩ := hr
        haveI : HGet h3 h.n _ := f3.keep ⟨gx⟩ (by omega) id
        obtain ⟨a3, c3, rfl, _, _⟩ := id o1.rd
        obtain ⟨a4, c4, rfl, _, _⟩ := id o2.rd
        have hxs := bk_len (sv := .slice a3 y.x.c.votes.length c3) (sl := .slice a4 y.x.vals.length c4) ha.hd ha.hash
        have hov : over cs 0 (y.x.cells (.slice a3 y.x.c.votes.length c3) (.slice a4 y.x.vals.length c4)) = y.x.cells (.slice a3 y.x.c.votes.length c3) (.slice a4 y.x.vals.length c4) := by
          have := over_whole cs (y.x.cells (.slice a3 y.x.c.votes.length c3) (.slice a4 y.x.vals.length c4)) [] (by omega)
          simpa using this
        refine O.by0 (mkStoreN (c := cs) (xs := y.x.cells (.slice a3 y.x.c.votes.length c3) (.slice a4 y.x.vals.length c4)) (r := h.n) (es := 0) (by omega) One.eq (by omega)) rfl ?_
        rw [hov]
        refine stp ?_
        have fS : ∀ {A : AObj}, Fr (fun i => i = h.n) h3 (h3.set h.n A) := fun {A} => Fr.refl.set fun _ => rfl
        exact loop2a 5 15 (R.length - (i + 1)) (by omega) ⟨i + 1, by omega, rfl, rfl, (hF.trans' (f3.mono fun _ _ e => e.elim)).trans' fS, .inr ⟨y, hy, hv1, hk1, fun z hz h5 h6 h7 => by
          rw [htk] at h7
          rcases List.mem_append.1 h7 with h7 | h7
          · exact hup _ h7
          · rw [List.mem_singleton.1 h7]; exact Int.le_refl _, rfl, _, _, by rw [Heap.get_set, if_pos rfl], ha.hd, ha.hash, o1.keep fS fun i hi e => by have := m1 i hi; omega, o2.keep fS fun i hi e => by have := m2 i hi; omega, fun i hi => by have := m1 i hi; omega, fun i hi => by have := m2 i hi; omega, m3⟩⟩
      · refine stp ?_
        exact loop2a 5 15 (R.length - (i + 1)) (by omega) ⟨i + 1, by omega, rfl, rfl, hF, skip (fun e => by rw [hv1] at e; exact absurd e.1 (by decide)) hF hcase⟩
    · refine stp ?_
      exact loop2a 5 15 (R.length - (i + 1)) (by omega) ⟨i + 1, by omega, rfl, rfl, hF, skip (fun e => hk1 e.2) hF hcase⟩
  · obtain rfl : i = R.length := by omega
    rw [List.take_length] at hcase
    have hRm : ∀ y ∈ l, y.k ∈ R := fun y hy => hR.mem_iff.2 (List.mem_map.2 ⟨y.ent, List.mem_map.2 ⟨y, hy, rfl⟩, rfl⟩)
    have Fe : Fr (fun _ => False) h h' := (F0.trans' f1).trans hF fun i hi e => by omega
    rcases hcase with ⟨rfl, h2, h3⟩ | ⟨y, hy, h2, h3, h4, rfl, sw, sm, h5, h6⟩
    · haveI : HGet h' h.n _ := ⟨h2⟩
      refine stp ?_
      exact ⟨.inr ⟨fun y hy hv hk => h3 y hy hv hk (hRm y hy), rfl⟩, Fe.set fun e => absurd e (by omega)⟩
    · haveI : HGet h' h.n _ := ⟨h5⟩
      haveI := l32 h6.hd.prev
      haveI := l32 h6.hd.vals
      haveI := l32 h6.hd.next
      haveI := l32 h6.hd.app
      haveI := l32 h6.hash
      obtain ⟨a3, c3, rfl, _, _⟩ := id h6.sv.rd
      obtain ⟨a4, c4, rfl, _, _⟩ := id h6.sl.rd
      refine stp ?_
      exact ⟨.inl ⟨y, ⟨hy, h2, h3, fun z hz q1 q2 => h4 z hz q1 q2 (hRm z hz)⟩, _, _, rfl, h6.keep (Fr.refl.set (S := fun i => i = h.n) fun _ => rfl) fun i hi e => by omega⟩, Fe.set fun e => absurd e (by omega)⟩
end Go.Proofs.Ytmhnddkpiefkhaa.A

namespace Go.Proofs.Ytmhnddkpiefkhaa.A
open Go Go.Vm
set_option maxRecDepth 10000
set_option linter.unusedVariables false
structure PB where
  x : Bk
  sv : Value
  sl : Value
abbrev PB.cells (e : PB) : List Value := e.x.cells e.sv e.sl
abbrev zPB : PB := ⟨zBk, .slice none 0 0, .slice none 0 0⟩
def pbcells (l : List PB) : List Value := l.flatMap fun e => e.x.cells e.sv e.sl
structure PB.At (h : Heap) (e : PB) : Prop where
  rd : BkRd h e.x e.sv e.sl
  lv : e.x.c.votes.length ≤ 70
  ll : e.x.vals.length ≤ 70
theorem PB.len {h : Heap} {e : PB} (he : e.At h) : (e.x.cells e.sv e.sl).length = 166 := bk_len he.rd.hd he.rd.hash
theorem pbcells_append (l m : List PB) : pbcells (l ++ m) = pbcells l ++ pbcells m := by simp [pbcells]
theorem pbcells_at {h : Heap} : ∀ {l : List PB} {k : Nat}, (∀ e ∈ l, e.At h) → k < l.length → ((pbcells l).drop (k * 166)).take 166 = (l.getD k zPB).cells
  | e :: l, 0, hl, _ => by
    have := PB.len (hl e (by simp))
    show (((e.x.cells e.sv e.sl) ++ pbcells l).drop (0 * 166)).take 166 = _
    rw [Nat.zero_mul, List.drop_zero, ← this, List.take_left]
    rfl
  | e :: l, k + 1, hl, hk => by
    have h1 := PB.len (hl e (by simp))
    have h2 := pbcells_at (l := l) (k := k) (fun b hb => hl b (by simp [hb])) (by simpa using hk)
    show (((e.x.cells e.sv e.sl) ++ pbcells l).drop ((k + 1) * 166)).take 166 = _
    rw [show (k + 1) * 166 = (e.x.cells e.sv e.sl).length + k * 166 from by omega, ← List.drop_drop, List.drop_left]
    exact h2
theorem pb_cells {h0 h : Heap} {b o n k : Nat} {l : List PB} (hl : ∀ e ∈ l, e.At h0) (hc : cellsAt h b o (n * 166) = some (pbcells l)) (hn : l.length = n) (hk : k < n) : Cells h b (o + k * 166) 166 (l.getD k zPB).cells := ⟨by
  rw [cellsAt_sub hc (by omega), pbcells_at hl (by omega)]⟩
theorem pb_one {h : Heap} {e : PB} (he : e.At h) : (e.x.cells e.sv e.sl).all Value.oneCell' = true := by
  obtain ⟨a1, c1, e1, _, _⟩ := id he.rd.sv
  obtain ⟨a2, c2, e2, _, _⟩ := id he.rd.sl
  have ob : ∀ l : List UInt8, (bcells l).all Value.oneCell' = true := fun l => by
    induction l with
    | nil => rfl
    | cons a l ih => exact ih
  simp only [Bk.cells, List.all_cons, List.all_append, ob, e1, e2, List.all_nil]
  rfl
theorem sameB_self (x : Bk) : sameB x x = true := by
  unfold sameB
  rw [same_self]
  simp
end Go.Proofs.Ytmhnddkpiefkhaa.A

namespace Go.Proofs.Ytmhnddkpiefkhaa.A
open Go Go.Vm
set_option maxRecDepth 10000
set_option linter.unusedVariables false
set_option maxHeartbeats 8000000 in
theorem CopyBlockA_ok {h : Heap} {x : Bk} {sv sl : Value} (hb : BkRd h x sv sl) (h1 : x.c.votes.length < 1048576) (h2 : x.vals.length < 1048576) :
    Runs Try.prog T0 (.fn fn_zgQ) [.agg ⟨x.cells sv sl⟩] h
      (fun r h' => ∃ sw sm, r = .agg ⟨x.cells sw sm⟩ ∧ Own h' 2 sw (tcells x.c.votes) x.c.votes.length ∧ Own h' 5 sm (vcells x.vals) x.vals.length ∧ (∀ i, ownedBy sw i → h.n ≤ i) ∧ (∀ i, ownedBy sm i → h.n ≤ i) ∧ (∀ i, ownedBy sw i → ¬ ownedBy sm i) ∧ Fr (fun _ => False) h h') (fun _ _ => False) := by
  have hx := hb.hd
  have hch := hb.hash
  haveI := l32 hx.prev
  haveI := l32 hx.vals
  haveI := l32 hx.next
  haveI := l32 hx.app
  haveI := l32 hch
  obtain ⟨a1, c1, rfl, _, _⟩ := id hb.sv
  obtain ⟨a2, c2, rfl, _, _⟩ := id hb.sl
  refine zgQ_runs ?_
  refine stp ?_
  have gA : HGet ((h.push (.cells (x.cells (.slice a1 x.c.votes.length c1) (.slice a2 x.vals.length c2)) 0)).push (.cells zBc 0)) h.n (.cells (x.cells (.slice a1 x.c.votes.length c1) (.slice a2 x.vals.length c2)) 0) := HGet.push (k := BLt.new) (g := HGet.new)
  have gB : HGet ((h.push (.cells (x.cells (.slice a1 x.c.votes.length c1) (.slice a2 x.vals.length c2)) 0)).push (.cells zBc 0)) (h.push (.cells (x.cells (.slice a1 x.c.votes.length c1) (.slice a2 x.vals.length c2)) 0)).n (.cells zBc 0) := HGet.new
  have f0 : Fr (fun _ => False) h ((h.push (.cells (x.cells (.slice a1 x.c.votes.length c1) (.slice a2 x.vals.length c2)) 0)).push (.cells zBc 0)) := Fr.refl.push.push
  have n0 : ((h.push (.cells (x.cells (.slice a1 x.c.votes.length c1) (.slice a2 x.vals.length c2)) 0)).push (.cells zBc 0)).n = h.n + 2 := rfl
  have nb : (h.push (.cells (x.cells (.slice a1 x.c.votes.length c1) (.slice a2 x.vals.length c2)) 0)).n = h.n + 1 := rfl
  generalize (h.push (.cells (x.cells (.slice a1 x.c.votes.length c1) (.slice a2 x.vals.length c2)) 0)).push (.cells zBc 0) = h0 at *
  generalize (h.push (.cells (x.cells (.slice a1 x.c.votes.length c1) (.slice a2 x.vals.length c2)) 0)).n = pb at *
  refine O.call' (CopyCommit_ok hch (hb.keep f0 fun _ _ => id).sv h1) (fun r h3 hr => ?_)
  obtain ⟨sw, rfl, ho, hnew, hf3⟩ := hr
  have gA3 := hf3.keep gA (by omega) id
  have gB3 := hf3.keep gB (by omega) id
  have n3 := hf3.n
  obtain ⟨a3, c3, rfl, _, _⟩ := id ho.rd
  haveI := gA3
  haveI : BLt h.n h3 := ⟨by omega⟩
  refine stp ?_
  have gA4 : HGet (h3.set h.n (.cells (x.cells (.slice a3 x.c.votes.length c3) (.slice a2 x.vals.length c2)) 0)) h.n (.cells (x.cells (.slice a3 x.c.votes.length c3) (.slice a2 x.vals.length c2)) 0) := HGet.same
  have gB4 : HGet (h3.set h.n (.cells (x.cells (.slice a3 x.c.votes.length c3) (.slice a2 x.vals.length c2)) 0)) pb (.cells zBc 0) := HGet.set (k := ⟨by omega⟩) (g := gB3)
  have f4 : Fr (fun i => i = h.n) h3 (h3.set h.n (.cells (x.cells (.slice a3 x.c.votes.length c3) (.slice a2 x.vals.length c2)) 0)) := Fr.refl.set fun _ => rfl
  have F4 : Fr (fun _ => False) h (h3.set h.n (.cells (x.cells (.slice a3 x.c.votes.length c3) (.slice a2 x.vals.length c2)) 0)) := (f0.trans' hf3).trans f4 fun i hi e => by omega
  have ho4 := ho.keep f4 fun b hb e => by have := hnew b hb; omega
  have n4 : (h3.set h.n (.cells (x.cells (.slice a3 x.c.votes.length c3) (.slice a2 x.vals.length c2)) 0)).n = h3.n := rfl
  generalize h3.set h.n (.cells (x.cells (.slice a3 x.c.votes.length c3) (.slice a2 x.vals.length c2)) 0) = h4 at *
  refine O.call' (CopyVals_ok (hb.keep F4 fun _ _ => id).sl h2) (fun r h5 hr => ?_)
  obtain ⟨hov, hf5, hnv⟩ := hr
  have gA5 := hf5.keep gA4 (by omega) id
  have gB5 := hf5.keep gB4 (by omega) id
  have n5 := hf5.n
  have ho5 := ho4.keep hf5 fun _ _ => id
  obtain ⟨a4, c4, rfl, _, _⟩ := id hov.rd
  haveI := gA5
  haveI := gB5
  haveI : BNe pb h.n := ⟨by omega⟩
  haveI : BNe h.n pb := ⟨by omega⟩
  refine stp ?_
  have f6 : ∀ {o1 o2 : AObj}, Fr (fun i => i = h.n ∨ i = pb) h5 ((h5.set h.n o1).set pb o2) := fun {o1 o2} => (Fr.refl.set fun _ => .inl rfl).set fun _ => .inr rfl
  refine ⟨_, _, rfl, ho5.keep f6 fun b hb e => by have := hnew b hb; omega, hov.keep f6 fun b hb e => by have := hnv b hb; omega, fun i hi => by have := hnew i hi; omega, fun i hi => by have := hnv i hi; omega, fun i hi e => by have := ho.lt hi; have := hnv i e; omega, (F4.trans' hf5).trans f6 fun i hi e => by omega⟩
end Go.Proofs.Ytmhnddkpiefkhaa.A

namespace Go.Proofs.Ytmhnddkpiefkhaa.A
open Go Go.Vm
set_option maxRecDepth 10000
set_option linter.unusedVariables false
structure DE where
  x : Bk
  sv : Value
  sl : Value
  v : Bool
  p : Bool
abbrev DE.k (e : DE) : Int := e.x.h.height
abbrev DE.pb (e : DE) : PB := ⟨e.x, e.sv, e.sl⟩
def DE.kk (e : DE) : KK := ⟨e.x.h.height, e.v, e.p⟩
def DOwn (d : Nat) (vB vK : Value) (i : Nat) : Prop := i = d ∨ ownedBy vB i ∨ ownedBy vK i
def DIn (L : List DE) (i : Nat) : Prop := ∃ e ∈ L, blockOf e.sv i ∨ blockOf e.sl i
structure DAt (h : Heap) (d : Nat) (room : Int) (L : List DE) (vB vK : Value) : Prop where
  dl : d < h.n
  gd : h.get d = .cells [.int .i64 room, vB, vK] 0
  oB : Own h 166 vB (pbcells (L.map DE.pb)) L.length
  oK : Own h 3 vK (kkcells (L.map DE.kk)) L.length
  ats : ∀ e ∈ L, e.pb.At h
  sB : ∀ i, ownedBy vB i → i ≠ d ∧ ¬ ownedBy vK i
  sK : ∀ i, ownedBy vK i → i ≠ d
  si : ∀ i, DIn L i → ¬ DOwn d vB vK i
theorem PB.At.keepS {S : Nat → Prop} {h h' : Heap} {e : PB} (he : e.At h) (hf : Fr S h h') (hs : ∀ i, blockOf e.sv i ∨ blockOf e.sl i → ¬ S i) : e.At h' :=
  ⟨⟨he.rd.hd, he.rd.hash, he.rd.sv.keep hf fun i hi => hs i (.inl hi), he.rd.sl.keep hf fun i hi => hs i (.inr hi)⟩, he.lv, he.ll⟩
theorem DAt.keep {S : Nat → Prop} {h h' : Heap} {d : Nat} {room : Int} {L : List DE} {vB vK : Value} (hs : DAt h d room L vB vK) (hf : Fr S h h') (h1 : ∀ i, DOwn d vB vK i → ¬ S i) (h2 : ∀ i, DIn L i → ¬ S i) : DAt h' d room L vB vK :=
  ⟨hf.lt hs.dl, by rw [hf.get _ hs.dl (h1 _ (.inl rfl))]; exact hs.gd, hs.oB.keep hf fun i hi => h1 i (.inr (.inl hi)), hs.oK.keep hf fun i hi => h1 i (.inr (.inr hi)), fun e he => (hs.ats e he).keepS hf fun i hi => h2 i ⟨e, he, hi⟩, hs.sB, hs.sK, hs.si⟩
theorem kk_at {L : List DE} {i : Nat} (hi : i < L.length) : (L.map DE.kk).getD i ⟨0, false, false⟩ = (L[i]).kk := by
  simp [List.getD, hi]
theorem dNew_ok {h : Heap} {room : Int} : Runs Try.prog T0 (.fn fn_zzQ) [.int .i64 room] h
    (fun r h' => Fr (fun _ => False) h h' ∧ ((room < 1 ∨ 4096 < room) ∧ r = .tuple ⟨[.pointer none, .int .i64 3]⟩ ∨ (1 ≤ room ∧ room ≤ 4096) ∧ r = .tuple ⟨[.pointer (some ⟨h.n, 0, none⟩), .int .i64 0]⟩ ∧ DAt h' h.n room [] (.slice none 0 0) (.slice none 0 0))) (fun _ _ => False) := by
  refine zzQ_runs ?_
  refine stp ?_
  refine O.dec (fun h1 => ?_) (fun h1 => ?_)
  · refine stp ?_
    exact ⟨Fr.refl, .inl ⟨.inl h1, rfl⟩⟩
  · refine stp ?_
    refine C.if (fun h2 => ?_) (fun h2 => ?_)
    · refine stp ?_
      exact ⟨Fr.refl, .inl ⟨.inr h2, rfl⟩⟩
    · refine stp ?_
      exact ⟨Fr.refl.push, .inr ⟨⟨by omega, by omega⟩, rfl, by simp, HGet.new.eq, .none, .none, by simp, fun i hi => hi.elim, fun i hi => hi.elim, fun i ⟨e, he, _⟩ => absurd he (by simp)⟩⟩
set_option maxHeartbeats 4000000 in
theorem at_ok {h : Heap} {d : Nat} {room k : Int} {L : List DE} {vB vK : Value} (hs : DAt h d room L vB vK) (hl : L.length < 100000) :
    Runs Try.prog T0 (.fn fn_zgbQ) [.pointer (some ⟨d, 0, none⟩), .int .i64 k] h
      (fun r h' => h' = h ∧ ((∃ i : Nat, ∃ hi : i < L.length, (L[i]).k = k ∧ r = .int .i64 i) ∨ (∀ e ∈ L, e.k ≠ k) ∧ r = .int .i64 (-1))) (fun _ _ => False) := by
  haveI : HGet h d _ := ⟨hs.gd⟩
  obtain ⟨a, cap, rfl, _, hc⟩ := id hs.oK.rd
  refine zgbQ_runs ?_
  refine stp ?_
  refine loop1 zgbQ_l0_M 5 (fun q v5 hx => ∃ i : Nat, i ≤ L.length ∧ q = L.length - i ∧ v5 = .int .i64 i ∧ (∀ e ∈ L.take i, e.k ≠ k) ∧ hx = h) ?_ L.length ⟨0, by omega, rfl, rfl, by simp, rfl⟩
  rintro m v5 h' x4 x6 x7 x8 x9 x10 x11 x12 x13 x14 x15 x16 x17 x18 x19 x20 x21 x22 x23 x24 x25 ⟨i, hi, rfl, rfl, hno, rfl⟩
  refine stp ?_
  refine C.if (fun hlt => ?_) (fun hge => ?_)
  · have hlt : i < L.length := by omega
    obtain ⟨b, o, sp, rfl, hb, hcc⟩ := hc (by omega)
    have d0 := kk_cell (i := 0) (l := L.map DE.kk) hcc (by simp) hlt (by omega) rfl
    rw [kk_at hlt, Nat.add_zero] at d0
    have d0 : Cell h' b (o + i * 3) (.int .i64 (L[i]).k) := d0
    haveI := d0
    refine stp ?_
    refine C.if (fun e1 => ?_) (fun e1 => ?_)
    · refine stp ?_
      exact ⟨rfl, .inl ⟨i, hlt, e1, rfl⟩⟩
    · refine stp ?_
      refine loop1a 5 (L.length - (i + 1)) (by omega) ⟨i + 1, by omega, rfl, rfl, fun e he => ?_, rfl⟩
      rw [List.take_succ_eq_append_getElem hlt] at he
      rcases List.mem_append.1 he with he | he
      · exact hno e he
      · rw [List.mem_singleton.1 he]; exact e1
  · refine stp ?_
    obtain rfl : i = L.length := by omega
    rw [List.take_length] at hno
    exact ⟨rfl, .inr ⟨hno, rfl⟩⟩
abbrev zDE : DE := ⟨zBk, .slice none 0 0, .slice none 0 0, false, false⟩
def vicN (L : List DE) : Nat → Int
  | 0 => -1
  | i + 1 => if (L.getD i zDE).p = false ∧ (vicN L i < 0 ∨ (L.getD (vicN L i).toNat zDE).v = true ∧ (L.getD i zDE).v = false) then i else vicN L i
def VicP (L : List DE) (i : Nat) (r : Int) : Prop :=
  r = -1 ∧ (∀ j, j < i → (L.getD j zDE).p = true) ∨ ∃ n : Nat, n < i ∧ r = n ∧ (L.getD n zDE).p = false ∧ (∀ j, j < i → (L.getD j zDE).p = false → (L.getD n zDE).v = false ∨ (L.getD j zDE).v = true) ∧ ∀ j, j < n → (L.getD j zDE).p = false → (L.getD j zDE).v = true ∧ (L.getD n zDE).v = false
theorem vic_ok (L : List DE) : ∀ i, VicP L i (vicN L i)
  | 0 => .inl ⟨rfl, fun j hj => by omega⟩
  | i + 1 => by
    have ih := vic_ok L i
    unfold vicN
    generalize vicN L i = r at *
    by_cases hc : (L.getD i zDE).p = false ∧ (r < 0 ∨ (L.getD r.toNat zDE).v = true ∧ (L.getD i zDE).v = false)
    · rw [if_pos hc]
      obtain ⟨hp, hc⟩ := hc
      rcases ih with ⟨hr, hall⟩ | ⟨n, hn, hr, hnp, h1, h2⟩
      · refine .inr ⟨i, by omega, rfl, hp, fun j hj hjp => ?_, fun j hj hjp => ?_⟩
        · rcases Nat.lt_or_eq_of_le (Nat.le_of_lt_succ hj) with h | h
          · rw [hall j h] at hjp; cases hjp
          · subst h
            cases (L.getD j zDE).v
            · exact .inl rfl
            · exact .inr rfl
        · rw [hall j hj] at hjp; cases hjp
      · subst hr
        rcases hc with hc | ⟨hv, hiv⟩
        · omega
        · rw [Int.toNat_natCast] at hv
          refine .inr ⟨i, by omega, rfl, hp, fun j hj hjp => .inl hiv, fun j hj hjp => ⟨?_, hiv⟩⟩
          rcases h1 j hj hjp with h | h
          · rw [hv] at h; cases h
          · exact h
    · rw [if_neg hc]
      rcases ih with ⟨hr, hall⟩ | ⟨n, hn, hr, hnp, h1, h2⟩
      · refine .inl ⟨hr, fun j hj => ?_⟩
        rcases Nat.lt_or_eq_of_le (Nat.le_of_lt_succ hj) with h | h
        · exact hall j h
        · subst h
          cases hp : (L.getD j zDE).p with
          | true => rfl
          | false => exact absurd ⟨hp, .inl (by omega)⟩ hc
      · subst hr
        refine .inr ⟨n, by omega, rfl, hnp, fun j hj hjp => ?_, h2⟩
        rcases Nat.lt_or_eq_of_le (Nat.le_of_lt_succ hj) with h | h
        · exact h1 j h hjp
        · subst h
          rw [Int.toNat_natCast] at hc
          cases hv : (L.getD n zDE).v with
          | false => exact .inl rfl
          | true =>
            cases hv2 : (L.getD j zDE).v with
            | true => exact .inr rfl
            | false => exact absurd ⟨hjp, .inr ⟨hv, hv2⟩⟩ hc
theorem kk_getD {L : List DE} {i : Nat} (hi : i < L.length) : (L.map DE.kk).getD i ⟨0, false, false⟩ = (L.getD i zDE).kk := by
  simp [List.getD, hi]
theorem de_cells {h : Heap} {b o i : Nat} {L : List DE} (hc : cellsAt h b o (L.length * 3) = some (kkcells (L.map DE.kk))) (hi : i < L.length) :
    Cell h b (o + i * 3) (.int .i64 (L.getD i zDE).k) ∧ Cell h b (o + i * 3 + 1) (.bool (L.getD i zDE).v) ∧ Cell h b (o + i * 3 + 2) (.bool (L.getD i zDE).p) := by
  have d0 := kk_cell (i := 0) (l := L.map DE.kk) hc (by simp) hi (by omega) rfl
  have d1 := kk_cell (i := 1) (l := L.map DE.kk) hc (by simp) hi (by omega) rfl
  have d2 := kk_cell (i := 2) (l := L.map DE.kk) hc (by simp) hi (by omega) rfl
  rw [kk_getD hi] at d0 d1 d2
  rw [Nat.add_zero] at d0
  exact ⟨d0, d1, d2⟩
set_option maxHeartbeats 4000000 in
theorem victim_ok {h : Heap} {d : Nat} {room : Int} {L : List DE} {vB vK : Value} (hs : DAt h d room L vB vK) (hl : L.length < 100000) :
    Runs Try.prog T0 (.fn fn_zibQ) [.pointer (some ⟨d, 0, none⟩)] h
      (fun r h' => h' = h ∧ r = .int .i64 (vicN L L.length)) (fun _ _ => False) := by
  haveI : HGet h d _ := ⟨hs.gd⟩
  obtain ⟨a, cap, rfl, _, hc⟩ := id hs.oK.rd
  refine zibQ_runs ?_
  refine stp ?_
  refine loop2 zibQ_l0_M 3 4 (fun q v3 v4 hx => ∃ i : Nat, i ≤ L.length ∧ q = L.length - i ∧ v3 = .int .i64 (vicN L i) ∧ v4 = .int .i64 i ∧ hx = h) ?_ L.length ⟨0, by omega, rfl, rfl, rfl, rfl⟩
  rintro m v3 v4 h' x5 x6 x7 x8 x9 x10 x11 x12 x13 x14 x15 x16 x17 x18 x19 x20 x21 x22 x23 x24 x25 x26 x27 x28 x29 x30 x31 x32 x33 x34 x35 x36 x37 x38 x39 x40 x41 x42 x43 x44 x45 x46 x47 x48 ⟨i, hi, rfl, rfl, rfl, rfl⟩
  refine stp ?_
  refine C.if (fun hlt => ?_) (fun hge => ?_)
  · have hlt : i < L.length := by omega
    obtain ⟨b, o, sp, rfl, hb, hcc⟩ := hc (by omega)
    obtain ⟨d0, d1, d2⟩ := de_cells hcc hlt
    have hv := vic_ok L i
    have hstep : vicN L (i + 1) = if (L.getD i zDE).p = false ∧ (vicN L i < 0 ∨ (L.getD (vicN L i).toNat zDE).v = true ∧ (L.getD i zDE).v = false) then (i : Int) else vicN L i := rfl
    have next : ∀ {w : Value}, w = .int .i64 (vicN L (i + 1)) → (∃ i_1 : Nat, i_1 ≤ L.length ∧ L.length - (i + 1) = L.length - i_1 ∧ w = .int .i64 (vicN L i_1) ∧ Value.int .i64 ((i : Int) + 1) = .int .i64 i_1 ∧ h' = h') := fun {w} hw => ⟨i + 1, by omega, rfl, hw, rfl, rfl⟩
    cases hp : (L.getD i zDE).p with
    | true =>
      rw [hp] at d2
      rw [if_neg (by rw [hp]; intro e; exact absurd e.1 (by decide))] at hstep
      haveI := d2
      refine stp ?_
      exact loop2a 3 4 (L.length - (i + 1)) (by omega) (next (by rw [hstep]))
    | false =>
      rw [hp] at d2
      haveI := d2
      rcases hv with ⟨hr, hall⟩ | ⟨n, hn, hr, hnp, h1, h2⟩
      · rw [if_pos ⟨hp, .inl (by omega)⟩] at hstep
        rw [hr]
        refine stp ?_
        exact loop2a 3 4 (L.length - (i + 1)) (by omega) (next (by rw [hstep]))
      · obtain ⟨e0, e1, e2⟩ := de_cells hcc (i := n) (by omega)
        rw [hr, Int.toNat_natCast] at hstep
        have hn0 : ¬ ((n : Int) < 0) := by omega
        rw [hr]
        haveI q1 : ∀ {ts : List Value} {h : Heap} {O : Oper} {x y : Operand} [Ev ts x (.int .i64 (n : Int))] [Ev ts y (.int .i64 0)], XOp Try.prog ts h (.bin .lss O x y) (.bool false) h := xlss0 hn0
        cases hvn : (L.getD n zDE).v with
        | false =>
          rw [hvn] at e1
          haveI := e1
          rw [if_neg (by rw [hvn]; intro e; rcases e.2 with e | e; · omega
                         · exact absurd e.1 (by decide))] at hstep
          refine stp ?_
          exact loop2a 3 4 (L.length - (i + 1)) (by omega) (next (by rw [hstep]))
        | true =>
          rw [hvn] at e1
          haveI := e1
          cases hvi : (L.getD i zDE).v with
          | false =>
            rw [hvi] at d1
            haveI := d1
            rw [if_pos ⟨hp, .inr ⟨hvn, hvi⟩⟩] at hstep
            refine stp ?_
            exact loop2a 3 4 (L.length - (i + 1)) (by omega) (next (by rw [hstep]))
          | true =>
            rw [hvi] at d1
            haveI := d1
            rw [if_neg (by rw [hvi]; intro e; rcases e.2 with e | e; · omega
                           · exact absurd e.2 (by decide))] at hstep
            refine stp ?_
            exact loop2a 3 4 (L.length - (i + 1)) (by omega) (next (by rw [hstep]))
  · refine stp ?_
    obtain rfl : i = L.length := by omega
    exact ⟨rfl, rfl⟩
end Go.Proofs.Ytmhnddkpiefkhaa.A

namespace Go.Proofs.Ytmhnddkpiefkhaa.A
open Go Go.Vm
set_option maxRecDepth 10000
set_option linter.unusedVariables false
section
variable {P : Program} {T : Table} {ts : List Value} {ds : List Deferred} {h : Heap} {rd : Option Nat} {dst size bytes n m el : Nat} {zero : List Value} {zeros : Bool} {x y : Operand} {v w : Value} {c d : List Value} {chk : List (Option Nat × AOp × Option (Nat × Bool))} {pan : Bool} {rest : List AOper} {Q : QP} {F : Value → List Value}
theorem D.appendC [e1 : Ev ts x v] [e2 : Ev ts y w] [s : LSetF ts dst F] (ho : Own h size v c n) (hx : newCells h size zero zeros w = some (m, d)) (hd : d.length = m * size) (h1 : d.all Value.oneCell' = true) (hs : size ≠ 0) (hb : bytes < 1048576) (hsm : n + m < 1048576)
    (hk : ∀ v' h', Own h' size v' (c ++ d) (n + m) → Fr (ownedBy v) h h' → (∀ i, ownedBy v' i → ownedBy v i ∨ h.n ≤ i) → chk.all (stable P (F v') h') = true ∧ RunD P T rest ⟨F v', ds, h', rd⟩ Q) : RunD P T (⟨some dst, .append el size bytes zero zeros x y, none, chk, pan⟩ :: rest) ⟨ts, ds, h, rd⟩ Q := by
  obtain ⟨v', h', hx, h2, h3, h4⟩ := append_own hs hb hsm ho hx hd h1
  exact RunD.cons rfl (RunX.ok (h' := h') (v := v') (fun call => by rw [xo_plain rfl]; simp only [xop, e1.eq, e2.eq, hx]) (by
    show chk.all (stable P (lset ts dst v') h') = true ∧ RunD P T rest ⟨lset ts dst v', ds, h', rd⟩ Q
    rw [s.eq]; exact hk v' h' h2 h3 h4))
end
end Go.Proofs.Ytmhnddkpiefkhaa.A

namespace Go.Proofs.Ytmhnddkpiefkhaa.A
open Go Go.Vm
set_option maxRecDepth 10000
set_option linter.unusedVariables false
class OwnI (h : Heap) (size : Nat) (v : Value) : Prop where
  ok : ∃ c n, Own h size v c n
instance {h : Heap} {size : Nat} {v : Value} {o : AObj} [k : OwnI h size v] : OwnI (h.push o) size v := ⟨by
  obtain ⟨c, n, h1⟩ := k.ok
  exact ⟨c, n, h1.keep (S := fun _ => False) Fr.refl.push fun _ _ => id⟩⟩
section
variable {P : Program} {ts : List Value} {h h' : Heap} {size n i : Nat} {v : Value} {c : List Value} {x lo hi : Operand} {p : Int}
theorem own_lo (hs : size ≠ 0) (ho : Own h size v c n) (i : Nat) (hi : i ≤ n) (hp : p = i) :
    ∃ v', (∀ b, blockOf v' b → ownedBy v b) ∧ Rd h size v' (c.drop (i * size)) (n - i) ∧ ∀ {P : Program} {ts : List Value} {h' : Heap} {x lo : Operand} [Ev ts x v] [Ev ts lo (.int .i64 p)] [OwnI h' size v], XOp P ts h' (.sliceSl size x (some lo) none none) v' h' := by
  have ix : ∀ {lim : Nat} {i : Nat}, i ≤ lim → idx (lim + 1) (.int .i64 i) = some i := fun hl => by rw [idx_in (by omega)]; simp
  subst hp
  cases ho with
  | none =>
    obtain rfl : i = 0 := by omega
    refine ⟨.slice none 0 0, fun b hb => hb.elim, by simpa using Rd.nil, fun {P ts h' x lo} e1 e2 k => ⟨rfl, ?_⟩⟩
    simp only [xop, e1.eq, sliceOf, bnd, e2.eq, ix (Nat.le_refl 0)]
    rfl
  | lit hq hg =>
    rename_i q es
    obtain rfl : i = 0 := by omega
    refine ⟨.slice (some ⟨q, 0, none⟩) 0 0, fun b hb => absurd rfl hb.2, by simpa using Rd.nil, fun {P ts h' x lo} e1 e2 k => ⟨rfl, ?_⟩⟩
    simp only [xop, e1.eq, sliceOf, bnd, e2.eq, ix (Nat.le_refl 0)]
    rfl
  | grown hq hn hle hl hl2 hg =>
    rename_i q k cap jj
    have hl3 := hl2
    rw [List.length_append] at hl3
    have hca : cellsAt h q 0 (n * size) = some c := by
      rw [cellsAt_of (by rw [hg]; rfl) (by rw [List.length_append]; omega), List.drop_zero, ← hl, List.take_left]
    have hmul : i * size + (n - i) * size = n * size := by rw [← Nat.add_mul]; congr 1; omega
    have nb1 : ∀ {e : Operand → Value}, bnd e cap n none = some n := rfl
    by_cases hi0 : i = 0
    · subst hi0
      refine ⟨.slice (some ⟨q, 0, some k⟩) n cap, fun b hb => hb.1, ?_, fun {P ts h' x lo} e1 e2 k => ⟨rfl, ?_⟩⟩
      · rw [Nat.zero_mul, List.drop_zero]
        exact Rd.mk hq hca
      · simp only [xop, e1.eq, sliceOf, bnd, e2.eq, ix (Nat.zero_le n)]
        rw [if_neg (by omega)]
        simp
    · by_cases hin : i = cap
      · refine ⟨.slice (some ⟨0, 0, some k⟩) 0 0, fun b hb => absurd rfl hb.2, ?_, fun {P ts h' x lo} e1 e2 k => ⟨rfl, ?_⟩⟩
        · have : n - i = 0 := by omega
          rw [this, List.drop_eq_nil_of_le (by rw [hl]; have := Nat.mul_le_mul_right size (show n ≤ i by omega); omega)]
          exact Rd.nil
        · simp only [xop, e1.eq, sliceOf, bnd, e2.eq, ix hi]
          rw [if_neg (by omega)]
          simp only [hi0, if_false]
          rw [if_pos hin.symm]
      · refine ⟨.slice (some ⟨q, 0 + i * size, some k⟩) (n - i) (cap - i), fun b hb => hb.1, ?_, fun {P ts h' x lo} e1 e2 kk => ⟨rfl, ?_⟩⟩
        · refine Rd.mk hq ?_
          have h5 := cellsAt_sub (k := i * size) (m := (n - i) * size) hca (by omega)
          rw [h5, List.take_of_length_le (by rw [List.length_drop]; omega)]
        · obtain ⟨c', n', ho'⟩ := kk.ok
          simp only [xop, e1.eq, sliceOf, bnd, e2.eq, ix hi]
          rw [if_neg (by omega)]
          cases ho' with
          | grown hq' hn' hle' hl' hl2' hg' => simp only [hi0, if_false, if_neg (Ne.symm hin), hg', if_true]
theorem own_hi (ho : Own h size v c n) (i : Nat) (hi : i ≤ n) (hp : p = i) :
    ∃ v', (∀ b, blockOf v' b → ownedBy v b) ∧ Rd h size v' (c.take (i * size)) i ∧ ∀ {P : Program} {ts : List Value} {h' : Heap} {x hi : Operand} [Ev ts x v] [Ev ts hi (.int .i64 p)], XOp P ts h' (.sliceSl size x none (some hi) none) v' h' := by
  have ix : ∀ {lim : Nat} {i : Nat}, i ≤ lim → idx (lim + 1) (.int .i64 i) = some i := fun hl => by rw [idx_in (by omega)]; simp
  subst hp
  cases ho with
  | none =>
    obtain rfl : i = 0 := by omega
    refine ⟨.slice none 0 0, fun b hb => hb.elim, by simpa using Rd.nil, fun {P ts h' x lo} e1 e2 => ⟨rfl, ?_⟩⟩
    simp only [xop, e1.eq, sliceOf, bnd, e2.eq, ix (Nat.le_refl 0)]
    rfl
  | lit hq hg =>
    rename_i q es
    obtain rfl : i = 0 := by omega
    refine ⟨.slice (some ⟨q, 0, none⟩) 0 0, fun b hb => absurd rfl hb.2, by simpa using Rd.nil, fun {P ts h' x lo} e1 e2 => ⟨rfl, ?_⟩⟩
    simp only [xop, e1.eq, sliceOf, bnd, e2.eq, ix (Nat.le_refl 0)]
    rfl
  | grown hq hn hle hl hl2 hg =>
    rename_i q k cap jj
    have h3 : i ≤ cap := by omega
    have hmul : i * size ≤ n * size := Nat.mul_le_mul_right _ hi
    refine ⟨.slice (some ⟨q, 0, some k⟩) i cap, fun b hb => hb.1, ?_, fun {P ts h' x lo} e1 e2 => ⟨rfl, ?_⟩⟩
    · refine Rd.mk hq ?_
      have hca : cellsAt h q 0 (n * size) = some c := by
        rw [cellsAt_of (by rw [hg]; rfl) (by rw [List.length_append]; omega), List.drop_zero, ← hl, List.take_left]
      have h5 := cellsAt_sub (k := 0) (m := i * size) hca (by omega)
      simpa using h5
    · simp only [xop, e1.eq, sliceOf, bnd, e2.eq, ix h3]
      rw [if_neg (by omega)]
      simp
end
theorem pb_len {h : Heap} : ∀ {l : List PB}, (∀ e ∈ l, e.At h) → (pbcells l).length = l.length * 166
  | [], _ => rfl
  | e :: l, hl => by
    have h1 := PB.len (hl e (by simp))
    have h2 := pb_len (l := l) fun b hb => hl b (by simp [hb])
    show ((e.x.cells e.sv e.sl) ++ pbcells l).length = _
    rw [List.length_append, h1, h2, List.length_cons]
    omega
theorem pb_take {h : Heap} : ∀ {l : List PB} (i : Nat), (∀ e ∈ l, e.At h) → (pbcells l).take (i * 166) = pbcells (l.take i)
  | l, 0, _ => by simp [pbcells]
  | [], i + 1, _ => by simp [pbcells]
  | e :: l, i + 1, hl => by
    have h1 := PB.len (hl e (by simp))
    have h2 := pb_take (l := l) i fun b hb => hl b (by simp [hb])
    show ((e.x.cells e.sv e.sl) ++ pbcells l).take ((i + 1) * 166) = (e.x.cells e.sv e.sl) ++ pbcells (l.take i)
    rw [show (i + 1) * 166 = (e.x.cells e.sv e.sl).length + i * 166 from by omega, List.take_length_add_append, h2]
theorem pb_drop {h : Heap} : ∀ {l : List PB} (i : Nat), (∀ e ∈ l, e.At h) → (pbcells l).drop (i * 166) = pbcells (l.drop i)
  | l, 0, _ => by simp
  | [], i + 1, _ => by simp [pbcells]
  | e :: l, i + 1, hl => by
    have h1 := PB.len (hl e (by simp))
    have h2 := pb_drop (l := l) i fun b hb => hl b (by simp [hb])
    show ((e.x.cells e.sv e.sl) ++ pbcells l).drop ((i + 1) * 166) = pbcells (l.drop i)
    rw [show (i + 1) * 166 = (e.x.cells e.sv e.sl).length + i * 166 from by omega, ← List.drop_drop, List.drop_left, h2]
theorem pb_ones {h : Heap} : ∀ {l : List PB}, (∀ e ∈ l, e.At h) → (pbcells l).all Value.oneCell' = true
  | [], _ => rfl
  | e :: l, hl => by
    have h1 := pb_one (hl e (by simp))
    have h2 := pb_ones (l := l) fun b hb => hl b (by simp [hb])
    show ((e.x.cells e.sv e.sl) ++ pbcells l).all Value.oneCell' = true
    rw [List.all_append, h1, h2]
    rfl
theorem kk_take (l : List KK) (i : Nat) : (kkcells l).take (i * 3) = kkcells (l.take i) := by
  induction l generalizing i with
  | nil => simp [kkcells]
  | cons e l ih =>
    cases i with
    | zero => simp [kkcells]
    | succ i =>
      show (e.cells ++ kkcells l).take ((i + 1) * 3) = e.cells ++ kkcells (l.take i)
      rw [show (i + 1) * 3 = e.cells.length + i * 3 from by simp; omega, List.take_length_add_append, ih]
theorem kk_drop (l : List KK) (i : Nat) : (kkcells l).drop (i * 3) = kkcells (l.drop i) := by
  induction l generalizing i with
  | nil => simp [kkcells]
  | cons e l ih =>
    cases i with
    | zero => simp
    | succ i =>
      show (e.cells ++ kkcells l).drop ((i + 1) * 3) = kkcells (l.drop i)
      rw [show (i + 1) * 3 = e.cells.length + i * 3 from by simp; omega, ← List.drop_drop, List.drop_left, ih]
theorem kk_lens (l : List KK) : (kkcells l).length = l.length * 3 := by
  induction l with
  | nil => rfl
  | cons e l ih => show (e.cells ++ kkcells l).length = _; rw [List.length_append, ih, List.length_cons]; simp; omega
theorem kk_ones (l : List KK) : (kkcells l).all Value.oneCell' = true := by
  induction l with
  | nil => rfl
  | cons e l ih => show (e.cells ++ kkcells l).all Value.oneCell' = true; rw [List.all_append, ih]; rfl
theorem pb_app (l m : List PB) : pbcells l ++ pbcells m = pbcells (l ++ m) := (pbcells_append l m).symm
theorem kk_app (l m : List KK) : kkcells l ++ kkcells m = kkcells (l ++ m) := by simp [kkcells]
set_option maxHeartbeats 8000000 in
theorem take_ok {h : Heap} {d : Nat} {room : Int} {L : List DE} {vB vK : Value} {i : Nat} (hs : DAt h d room L vB vK) (hl : L.length < 100000) (hi : i < L.length) :
    Runs Try.prog T0 (.fn fn_zhbQ) [.pointer (some ⟨d, 0, none⟩), .int .i64 i] h
      (fun _ h' => ∃ vB' vK', DAt h' d room (L.take i ++ L.drop (i + 1)) vB' vK' ∧ Fr (fun j => j = d) h h' ∧ (∀ j, DOwn d vB' vK' j → j = d ∨ h.n ≤ j)) (fun _ _ => False) := by
  haveI : HGet h d _ := ⟨hs.gd⟩
  haveI : BLt d h := ⟨hs.dl⟩
  have hd := hs.dl
  have hats : ∀ e ∈ L.map DE.pb, e.At h := fun e he => by
    obtain ⟨z, hz, rfl⟩ := List.mem_map.1 he
    exact hs.ats z hz
  have hatsL : ∀ e ∈ L.take i ++ L.drop (i + 1), e.pb.At h := fun e he => (List.mem_append.1 he).elim (fun q => hs.ats e (List.mem_of_mem_take q)) (fun q => hs.ats e (List.mem_of_mem_drop q))
  obtain ⟨w1, b1, r1, x1⟩ := own_hi hs.oB (p := (i : Int)) i (by omega) rfl
  obtain ⟨w2, b2, r2, x2⟩ := own_lo (by decide) hs.oB (p := (i : Int) + 1) (i + 1) (by omega) (by omega)
  obtain ⟨w3, b3, r3, x3⟩ := own_hi hs.oK (p := (i : Int)) i (by omega) rfl
  obtain ⟨w4, b4, r4, x4⟩ := own_lo (by decide) hs.oK (p := (i : Int) + 1) (i + 1) (by omega) (by omega)
  rw [pb_take i hats, ← List.map_take] at r1
  rw [pb_drop (i + 1) hats, ← List.map_drop] at r2
  rw [kk_take, ← List.map_take] at r3
  rw [kk_drop, ← List.map_drop] at r4
  haveI oB0 : OwnI h 166 vB := ⟨_, _, hs.oB⟩
  haveI oK0 : OwnI h 3 vK := ⟨_, _, hs.oK⟩
  obtain ⟨aB, cB, eB, _, _⟩ := id hs.oB.rd
  obtain ⟨aK, cK, eK, _, _⟩ := id hs.oK.rd
  subst eB eK
  haveI := @x1
  haveI := @x2
  haveI := @x3
  haveI := @x4
  haveI : InR .i64 ((i : Int) + 1) := inr_i64 (by omega)
  refine zhbQ_runs ?_
  refine stp ?_
  refine D.oneS ?_
  have G0 : ∀ {A : AObj}, Fr (fun _ => False) h (h.push A) := fun {A} => Fr.refl.push
  have l1 : (L.take i).length = i := by rw [List.length_take]; omega
  have hsum : 0 + i + (L.length - (i + 1)) < 1048576 := by omega
  have l2 : (L.drop (i + 1)).length = L.length - (i + 1) := List.length_drop
  have at1 : ∀ e ∈ (L.take i).map DE.pb, e.At h := fun e he => by
    obtain ⟨z, hz, rfl⟩ := List.mem_map.1 he
    exact hs.ats z (List.mem_of_mem_take hz)
  have at2 : ∀ e ∈ (L.drop (i + 1)).map DE.pb, e.At h := fun e he => by
    obtain ⟨z, hz, rfl⟩ := List.mem_map.1 he
    exact hs.ats z (List.mem_of_mem_drop hz)
  refine D.appendC (n := 0) (m := i) (c := []) (d := pbcells ((L.take i).map DE.pb)) (Own.lit (by simp) HGet.new.eq) ((r1.keep G0 fun _ _ => id).new _) (by rw [pb_len at1, List.length_map, l1]) (pb_ones at1) (by decide) (by decide) (by omega) (fun v1 h1 o1 f1 n1 => ?_)
  have hn : ∀ {A : AObj}, (h.push A).n = h.n + 1 := rfl
  have o1' : ∀ {j}, ownedBy v1 j → h.n ≤ j := fun {j} hj => (n1 j hj).elim (fun e => by have e : h.n = j := e; omega) (fun e => by rw [hn] at e; omega)
  have F1 : Fr (fun _ => False) h h1 := G0.trans f1 fun j hj e => by have e : h.n = j := e; omega
  haveI : HGet h1 d _ := F1.keep ⟨hs.gd⟩ hd id
  haveI : OwnI h1 166 (.slice aB L.length cB) := ⟨_, _, hs.oB.keep F1 fun _ _ => id⟩
  obtain ⟨q1, q2, rfl, _, _⟩ := id o1.rd
  refine ⟨StabL.ok, ?_⟩
  refine D.appendC o1 ((r2.keep F1 fun _ _ => id).new _) (by rw [pb_len at2, List.length_map, l2]) (pb_ones at2) (by decide) (by decide) (by omega) (fun v2 h2 o2 f2 n2 => ⟨StabL.ok, ?_⟩)
  have o2' : ∀ {j}, ownedBy v2 j → h.n ≤ j := fun {j} hj => (n2 j hj).elim (fun e => o1' e) (fun e => by have := F1.n; omega)
  have F2 : Fr (fun _ => False) h h2 := F1.trans f2 fun j hj e => by have := o1' e; omega
  haveI : HGet h2 d _ := F2.keep ⟨hs.gd⟩ hd id
  haveI : BLt d h2 := ⟨F2.lt hd⟩
  rw [List.nil_append, pb_app, ← List.map_append, Nat.zero_add] at o2
  obtain ⟨q3, q4, rfl, _, _⟩ := id o2.rd
  refine stp ?_
  have len2 : i + (L.length - (i + 1)) = (L.take i ++ L.drop (i + 1)).length := by rw [List.length_append, l1, l2]
  have hn3 : ∀ {A : AObj}, (h2.set d A).n = h2.n := fun {A} => rfl
  have G3 : ∀ {A : AObj}, Fr (fun j => j = d) h (h2.set d A) := fun {A} => (F2.mono fun _ _ e => e.elim).trans' (Fr.refl.set fun _ => rfl)
  have hkd : ∀ {j}, ownedBy (.slice aK L.length cK) j → j ≠ d := fun {j} hj => hs.sK j hj
  have o3 := o2.keep (S := fun j => j = d) (Fr.refl.set (b := d) (o := .cells [.int .i64 room, .slice q3 (i + (L.length - (i + 1))) q4, .slice aK L.length cK] 0) fun _ => rfl) fun j hj e => by have := o2' hj; omega
  have g3 : (h2.set d (.cells [.int .i64 room, .slice q3 (i + (L.length - (i + 1))) q4, .slice aK L.length cK] 0)).get d = .cells [.int .i64 room, .slice q3 (i + (L.length - (i + 1))) q4, .slice aK L.length cK] 0 := by rw [Heap.get_set, if_pos rfl]
  have n3 := hn3 (A := .cells [.int .i64 room, .slice q3 (i + (L.length - (i + 1))) q4, .slice aK L.length cK] 0)
  have F3 := G3 (A := .cells [.int .i64 room, .slice q3 (i + (L.length - (i + 1))) q4, .slice aK L.length cK] 0)
  generalize hH : h2.set d (.cells [.int .i64 room, .slice q3 (i + (L.length - (i + 1))) q4, .slice aK L.length cK] 0) = h3 at *
  haveI : HGet h3 d _ := ⟨g3⟩
  haveI : BLt d h3 := ⟨F3.lt hd⟩
  haveI : OwnI h3 3 (.slice aK L.length cK) := ⟨_, _, hs.oK.keep F3 fun j hj => hkd hj⟩
  refine stp ?_
  refine D.one ?_ ?_
  · repeat refine stab_cons inferInstance ?_
    rfl
  have G4 : ∀ {A : AObj}, Fr (fun j => j = d) h (h3.push A) := fun {A} => F3.push
  refine D.appendC (n := 0) (m := i) (c := []) (d := kkcells ((L.take i).map DE.kk)) (Own.lit (by simp) HGet.new.eq) ((r3.keep G4 fun j hj => hkd (b3 j hj)).new _) (by rw [kk_lens, List.length_map, l1]) (kk_ones _) (by decide) (by decide) (by omega) (fun v4 h4 o4 f4 n4 => ?_)
  have hn4 : ∀ {A : AObj}, (h3.push A).n = h3.n + 1 := rfl
  have o4' : ∀ {j}, ownedBy v4 j → h3.n ≤ j := fun {j} hj => (n4 j hj).elim (fun e => by have e : h3.n = j := e; omega) (fun e => by rw [hn4] at e; omega)
  have E4 : Fr (fun _ => False) h3 h4 := (Fr.refl.push).trans f4 fun j hj e => by have e : h3.n = j := e; omega
  have F4 : Fr (fun j => j = d) h h4 := F3.trans' (E4.mono fun _ _ e => e.elim)
  haveI : HGet h4 d _ := E4.keep ⟨g3⟩ (F3.lt hd) id
  haveI : OwnI h4 3 (.slice aK L.length cK) := ⟨_, _, hs.oK.keep F4 fun j hj => hkd hj⟩
  obtain ⟨q5, q6, rfl, _, _⟩ := id o4.rd
  refine ⟨StabL.ok, ?_⟩
  refine D.appendC o4 ((r4.keep F4 fun j hj => hkd (b4 j hj)).new _) (by rw [kk_lens, List.length_map, l2]) (kk_ones _) (by decide) (by decide) hsum (fun v5 h5 o5 f5 n5 => ⟨StabL.ok, ?_⟩)
  have o5' : ∀ {j}, ownedBy v5 j → h3.n ≤ j := fun {j} hj => (n5 j hj).elim (fun e => o4' e) (fun e => by have := E4.n; omega)
  have E5 : Fr (fun _ => False) h3 h5 := E4.trans f5 fun j hj e => by have := o4' e; omega
  have F5 : Fr (fun j => j = d) h h5 := F3.trans' (E5.mono fun _ _ e => e.elim)
  haveI : HGet h5 d _ := E5.keep ⟨g3⟩ (F3.lt hd) id
  haveI : BLt d h5 := ⟨F5.lt hd⟩
  rw [List.nil_append, kk_app, ← List.map_append, Nat.zero_add] at o5
  obtain ⟨q7, q8, rfl, _, _⟩ := id o5.rd
  refine stp ?_
  rw [len2] at o3 o5 ⊢
  have F6 : Fr (fun j => j = d) h5 (h5.set d (.cells [.int .i64 room, .slice q3 (L.take i ++ L.drop (i + 1)).length q4, .slice q7 (L.take i ++ L.drop (i + 1)).length q8] 0)) := Fr.refl.set fun _ => rfl
  have k3 : ∀ {j}, ownedBy (.slice q3 (L.take i ++ L.drop (i + 1)).length q4) j → h.n ≤ j ∧ j < h3.n := fun {j} hj => ⟨o2' (by rw [len2]; exact hj), o3.lt hj⟩
  have n3' : h.n ≤ h3.n := F3.n
  have big : ∀ {j}, h3.n ≤ j → j ≠ d := fun {j} q e => absurd (Nat.le_trans n3' q) (by rw [e]; exact Nat.not_le.2 hd)
  have k5 : ∀ {j}, ownedBy (.slice q7 (L.take i ++ L.drop (i + 1)).length q8) j → h3.n ≤ j := fun {j} hj => o5' (by rw [len2]; exact hj)
  refine ⟨_, _, ⟨F6.lt (F5.lt hd), by rw [Heap.get_set, if_pos rfl], (o3.keep E5 fun _ _ => id).keep F6 fun j hj e => by have := k3 hj; omega, o5.keep F6 fun j hj e => big (k5 hj) e, fun e he => ((hatsL e he).keepS (F5.trans' F6) fun j hj e2 => ?_), fun j hj => ⟨by have := k3 hj; omega, fun e2 => by have := k3 hj; have := k5 e2; omega⟩, fun j hj => big (k5 hj), fun j ⟨e, he, hj⟩ hd2 => ?_⟩, F5.trans' F6, fun j hj => ?_⟩
  · have hm : e ∈ L := (List.mem_append.1 he).elim List.mem_of_mem_take List.mem_of_mem_drop
    exact hs.si j ⟨e, hm, hj⟩ (.inl e2)
  · have hm : e ∈ L := (List.mem_append.1 he).elim List.mem_of_mem_take List.mem_of_mem_drop
    have hlt : j < h.n := hj.elim (Rd.block_lt (hs.ats e hm).rd.sv) (Rd.block_lt (hs.ats e hm).rd.sl)
    rcases hd2 with h7 | h7 | h7
    · exact hs.si j ⟨e, hm, hj⟩ (.inl h7)
    · have := k3 h7; omega
    · exact absurd (Nat.le_trans n3' (k5 h7)) (Nat.not_le.2 hlt)
  · rcases hj with h7 | h7 | h7
    · exact .inl h7
    · exact .inr (k3 h7).1
    · exact .inr (Nat.le_trans n3' (k5 h7))
end Go.Proofs.Ytmhnddkpiefkhaa.A

namespace Go.Proofs.Ytmhnddkpiefkhaa.A
open Go Go.Vm
set_option maxRecDepth 10000
set_option linter.unusedVariables false
def cutQ1 (m : List Nat) (ts : List Value) (ds : List Deferred) (rd : Option Nat) (e0 : Exit) (E : Value → Heap → Prop) (Q : QP) : QP := fun e s =>
  (e = e0 ∧ ∃ v h us, s = ⟨fillM m [v] us ts, ds, h, rd⟩ ∧ E v h) ∨ Q e s
def cutQ2 (m : List Nat) (ts : List Value) (ds : List Deferred) (rd : Option Nat) (e0 : Exit) (E : Value → Value → Heap → Prop) (Q : QP) : QP := fun e s =>
  (e = e0 ∧ ∃ v w h us, s = ⟨fillM m [v, w] us ts, ds, h, rd⟩ ∧ E v w h) ∨ Q e s
section
variable {P : Program} {T : Table} {c : ACode} {ts us : List Value} {ds : List Deferred} {h : Heap} {rd : Option Nat} {Q : QP} {m : List Nat} {e0 : Exit}
theorem cutQ1.out {E : Value → Heap → Prop} (i0 : Nat) {v : Value} [LGet us i0 v] (hE : E v h) (ha : fillM m [v] us ts = us := by rfl) : cutQ1 m ts ds rd e0 E Q e0 ⟨us, ds, h, rd⟩ :=
  .inl ⟨rfl, v, h, us, by rw [ha], hE⟩
theorem cutQ1.pass {E : Value → Heap → Prop} {e : Exit} {s : St} (hq : Q e s) : cutQ1 m ts ds rd e0 E Q e s := .inr hq
theorem cut1 (m : List Nat) (e0 : Exit) (E : Value → Heap → Prop) (hc : RunC P T c ⟨ts, ds, h, rd⟩ (cutQ1 m ts ds rd e0 E Q)) (hk : ∀ v h', allM m [v] ts fun l => E v h' → Q e0 ⟨l, ds, h', rd⟩) : RunC P T c ⟨ts, ds, h, rd⟩ Q :=
  hc.mono fun e s hq => by
    rcases hq with ⟨rfl, v, h', us, rfl, hE⟩ | hq
    · exact allM_fill (hk v h') us hE
    · exact hq
theorem cutQ2.out {E : Value → Value → Heap → Prop} (i0 i1 : Nat) {v w : Value} [LGet us i0 v] [LGet us i1 w] (hE : E v w h) (ha : fillM m [v, w] us ts = us := by rfl) : cutQ2 m ts ds rd e0 E Q e0 ⟨us, ds, h, rd⟩ :=
  .inl ⟨rfl, v, w, h, us, by rw [ha], hE⟩
theorem cutQ2.pass {E : Value → Value → Heap → Prop} {e : Exit} {s : St} (hq : Q e s) : cutQ2 m ts ds rd e0 E Q e s := .inr hq
theorem cut2 (m : List Nat) (e0 : Exit) (E : Value → Value → Heap → Prop) (hc : RunC P T c ⟨ts, ds, h, rd⟩ (cutQ2 m ts ds rd e0 E Q)) (hk : ∀ v w h', allM m [v, w] ts fun l => E v w h' → Q e0 ⟨l, ds, h', rd⟩) : RunC P T c ⟨ts, ds, h, rd⟩ Q :=
  hc.mono fun e s hq => by
    rcases hq with ⟨rfl, v, w, h', us, rfl, hE⟩ | hq
    · exact allM_fill (hk v w h') us hE
    · exact hq
end
end Go.Proofs.Ytmhnddkpiefkhaa.A
