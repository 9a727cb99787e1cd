/- Contracts of functions, over the machine. -/
import Derived.Test.YtagmnpeilgnbdaaQSigsOrder2
import Derived.Test.YtagmnpeilgnbdaaVK
import Derived.Test.YtagmnpeilgnbdaaVJ
set_option linter.unusedSimpArgs false
set_option linter.unusedSectionVars false
noncomputable section
namespace Go.Proofs.Ytagmnpeilgnbdaa.A
open Go Go.Vm
set_option maxRecDepth 10000
set_option linter.unusedVariables false
theorem gcells_take {L : List Sg} {k : Nat} (hk : k < L.length) : gcells (L.take k) ++ (at' L k).cells = gcells (L.take (k + 1)) := by
  have e : at' L k = L[k] := by simp only [at', List.getD_eq_getElem?_getD, List.getElem?_eq_getElem hk, Option.getD_some]
  rw [List.take_succ_eq_append_getElem hk, gcells_append, e, show gcells [L[k]] = L[k].cells from List.append_nil _]
theorem own_atG {h : Heap} {v : Value} {L : List Sg} (ho : Own h 37 v (gcells L) L.length) (hp : 0 < L.length) : ∃ (q s cap : Nat) (j : List Value), v = .slice (some ⟨q, 0, some s⟩) L.length cap ∧ q < h.n ∧ h.get q = .cells (gcells L ++ j) 37 := by
  generalize hc : gcells L = c at *
  generalize hn : L.length = n at *
  cases ho with
  | none => omega
  | lit => omega
  | grown hq h0 hle h1 h2 hg => exact ⟨_, _, _, _, rfl, hq, hg⟩
section
variable {h : Heap} {p m c : Nat} {l : List GEnt} {most : Int} {L : List Sg} {s : Sg}
set_option maxHeartbeats 4000000 in
theorem gList_ok (ha : TbAt h p m c l most L) :
    Runs Try.prog T0 (.fn fn_zrbQ) [.pointer (some ⟨p, 0, none⟩)] h
      (fun r h' => Own h' 37 r (gcells L) L.length ∧ (∀ i, ownedBy r i → h.n ≤ i) ∧ Fr (fun _ => False) h h') (fun _ _ => False) := by
  have hl := ha.len
  refine zrbQ_runs ?_
  refine stp ?_
  refine O.call' (gnone_ok ha) (fun r h0 hr => ?_)
  obtain ⟨rfl, rfl⟩ := hr
  refine stp ?_
  refine O.call' (gsorted_ok ha) (fun r h1 hr => ?_)
  obtain ⟨ho, hnew, f1⟩ := hr
  have n1 := f1.n
  obtain ⟨a, cc, rfl, _, _⟩ := id ho.rd
  refine stp ?_
  refine loop2 zrbQ_l0_M 2 10 (fun q v2 v10 hx => ∃ k : Nat, k ≤ L.length ∧ q = L.length - k ∧ v10 = .int .i64 k ∧ Own hx 37 v2 (gcells (L.take k)) k ∧ (∀ i, ownedBy v2 i → h1.n ≤ i) ∧ Fr (fun _ => False) h1 hx) ?_ L.length ⟨0, by omega, rfl, rfl, .none, fun i hi => hi.elim, Fr.refl⟩
  rintro m v2 v10 h' x4 x11 x12 x13 x14 x15 x16 x17 x18 ⟨k, hk, rfl, rfl, ho2, hn2, hF⟩
  have nF := hF.n
  obtain ⟨a2, c2, e2, _, _⟩ := id ho2.rd
  subst e2
  rcases Nat.lt_or_ge k L.length with hlt | hge
  · haveI q1 : ∀ {ts : List Value} {h : Heap} {O : Oper} {x z : Operand} [Ev ts x (.int .i64 (k : Nat))] [Ev ts z (.int .i64 (L.length : Nat))], XOp Try.prog ts h (.bin .lss O x z) (.bool true) h := xlss1 (by omega)
    obtain ⟨q, sx, cap, j, e, hq, hg⟩ := own_atG ho (by omega)
    cases e
    haveI : HGet h' q (.cells (gcells L ++ j) 37) := ⟨by rw [hF.get _ hq id]; exact hg⟩
    haveI : BLt q h' := ⟨hF.lt hq⟩
    haveI : IdxOff 0 (k : Int) 37 (k * 37) := ⟨by omega⟩
    haveI : Sub (gcells L ++ j) (k * 37) 37 (at' L k).cells := gsub hlt
    refine stp ?_
    refine O.append (ho2.keep Fr.refl.push.push (fun _ _ => id)) (one_sig (s := at' L k)) (by rw [Sg.len]) (Sg.ones _) (by decide) (by decide) (by omega) (fun v6 h6 o6 f6 n6 => ?_)
    rw [gcells_take hlt] at o6
    refine stp ?_
    refine loop2a 2 10 (L.length - (k + 1)) (by omega) ⟨k + 1, by omega, rfl, rfl, o6, fun i hi => ?_, hF.trans (Fr.trans' (S := ownedBy (.slice a2 k c2)) Fr.refl.push.push f6) fun i hi q => by have := hn2 i q; omega⟩
    rcases n6 i hi with q | q
    · exact hn2 i q
    · simp only [Heap.n_push] at q
      omega
  · obtain rfl : k = L.length := by omega
    haveI q1 : ∀ {ts : List Value} {h : Heap} {O : Oper} {x z : Operand} [Ev ts x (.int .i64 (L.length : Nat))] [Ev ts z (.int .i64 (L.length : Nat))], XOp Try.prog ts h (.bin .lss O x z) (.bool false) h := xlss0 (by omega)
    refine stp ?_
    rw [List.take_length] at ho2
    exact ⟨ho2, fun i hi => by have := hn2 i hi; omega, f1.trans' hF⟩
end
end Go.Proofs.Ytagmnpeilgnbdaa.A

namespace Go.Proofs.Ytagmnpeilgnbdaa.A
open Go Go.Vm
set_option maxRecDepth 10000
set_option linter.unusedVariables false
section
variable {P : Program} {T : Table} {ts : List Value} {ds : List Deferred} {h : Heap} {rd : Option Nat} {d : Nat} {chk : List (Option Nat × AOp × Option (Nat × Bool))} {pan : Bool} {rest : List AOper} {Q : QP} {F : Value → List Value}
theorem O.yieldT {t : Nat} {b : Bool} {l : Nat} {f : Operand} {args : List Operand} {vs : List Value} [g : LGet ts t (.bool b)] [e : Ev ts f (.func (.yield l) ⟨[]⟩ ⟨[]⟩)] [k : EvL ts args vs] [s : LSetF ts d F] {R : RP}
    (hr : Runs P T (.yield l) vs h R (fun _ _ => False)) (hk : ∀ v h', R v h' → RunO P T rest ⟨F v, ds, h', rd⟩ Q) :
    RunO P T (⟨some d, .callV f args, some (t, b), chk, pan⟩ :: rest) ⟨ts, ds, h, rd⟩ Q :=
  RunO.cons (by simp only [wantedT, g.eq]; cases b <;> rfl) (fun _ _ e => by cases e) (RunX.call (t := .yield l) (vs := vs) (by simp only [e.eq, k.eq, target]) (Runs.mono hr (fun v h' hv => by
    show RunO P T rest ⟨lset ts d v, ds, h', rd⟩ Q
    rw [s.eq]; exact hk v h' hv) (fun _ _ h => h.elim)))
end
theorem same_bytes {l m : List UInt8} : same (bcells l) (bcells m) = decide (l = m) := by
  by_cases h : l = m
  · subst h
    rw [same_self]
    simp
  · rw [decide_eq_false h]
    refine same_ne.2 fun q => h ?_
    have hb : ∀ {l m : List UInt8}, bcells l = bcells m → l = m := fun {l} => by
      induction l with
      | nil => intro m h; cases m with | nil => rfl | cons _ _ => simp [bcells] at h
      | cons x l ih =>
        intro m h
        cases m with
        | nil => simp [bcells] at h
        | cons y m =>
          simp only [bcells, List.map_cons, List.cons.injEq, Value.int.injEq, true_and] at h
          have h1 : x.toNat = y.toNat := by omega
          rw [UInt8.toNat_inj.1 h1, ih h.2]
    exact hb q
instance l32H {s : Sg} : L32 (bcells s.hash) := ⟨by rw [bcells_len, s.hl]⟩
set_option maxHeartbeats 8000000 in
theorem over1_ok {h : Heap} {bt bh p m c y : Nat} {l : List GEnt} {most : Int} {L : List Sg} {hs : List UInt8} {W : Nat → Prop} {I : Nat → Nat → Heap → Prop} (hl : hs.length = 32) (hbt : h.get bt = .cells [.pointer (some ⟨p, 0, none⟩)] 0) (lt : bt < h.n) (hbh : h.get bh = .cells (bcells hs) 0) (lh : bh < h.n) (ha : TbAt h p m c l most L) (hW1 : ¬ W bh) (hW2 : ∀ i, h.n ≤ i → ¬ W i)
    (h0 : ∀ hx, Fr (fun _ => False) h hx → I hx.n 0 hx)
    (hk : ∀ N k hx hx', I N k hx → Fr (fun _ => False) hx hx' → I N k hx')
    (hskip : ∀ N k hx, k < L.length → (at' L k).hash ≠ hs → I N k hx → I N (k + 1) hx)
    (hr : ∀ N k hx, I N k hx → N ≤ hx.n → k < L.length → (at' L k).hash = hs → Runs Try.prog T0 (.yield y) [.agg ⟨bcells (at' L k).key⟩] hx (fun r h' => r = .bool true ∧ I N (k + 1) h' ∧ Fr (fun i => W i ∨ N ≤ i) hx h') (fun _ _ => False)) :
    Runs Try.prog T0 (.fn fn_zvbQ) [.func (.yield y) ⟨[]⟩ ⟨[]⟩, .pointer (some ⟨bt, 0, none⟩), .pointer (some ⟨bh, 0, none⟩)] h (fun _ h' => ∃ N, I N L.length h') (fun _ _ => False) := by
  have hll := ha.len
  haveI : HGet h bt _ := ⟨hbt⟩
  haveI : BLt bt h := ⟨lt⟩
  refine zvbQ_runs ?_
  refine stp ?_
  refine O.call' (gsorted_ok ha) (fun r h1 hr1 => ?_)
  obtain ⟨ho, hnew, f1⟩ := hr1
  have n1 := f1.n
  obtain ⟨a, cc, rfl, _, _⟩ := id ho.rd
  have i0 := h0 h1 f1
  refine stp ?_
  refine loop1 zvbQ_l0_M 9 (fun q v9 hx => ∃ k : Nat, k ≤ L.length ∧ q = L.length - k ∧ v9 = .int .i64 k ∧ I h1.n k hx ∧ Fr (fun i => W i ∨ h1.n ≤ i) h1 hx) ?_ L.length ⟨0, by omega, rfl, rfl, i0, Fr.refl⟩
  rintro m v9 h' x5 x10 x11 x12 x13 x14 x15 x16 x17 x18 x19 x20 x21 x22 x23 x24 ⟨k, hkl, rfl, rfl, hi, hF⟩
  have nF := hF.n
  rcases Nat.lt_or_ge k L.length with hlt | hge
  · haveI q1 : ∀ {ts : List Value} {h : Heap} {O : Oper} {x z : Operand} [Ev ts x (.int .i64 (k : Nat))] [Ev ts z (.int .i64 (L.length : Nat))], XOp Try.prog ts h (.bin .lss O x z) (.bool true) h := xlss1 (by omega)
    obtain ⟨q, sx, cap, j, e, hq, hg⟩ := own_atG ho (by omega)
    cases e
    have hqn := hnew q rfl
    have gq : h'.get q = .cells (gcells L ++ j) 37 := by rw [hF.get _ hq (fun e => e.elim (hW2 _ hqn) (by omega))]; exact hg
    have gh : h'.get bh = .cells (bcells hs) 0 := by rw [hF.get _ (by omega) (fun e => e.elim hW1 (by omega)), f1.get _ lh id]; exact hbh
    haveI : HGet h' q (.cells (gcells L ++ j) 37) := ⟨gq⟩
    haveI : HGet h' bh (.cells (bcells hs) 0) := ⟨gh⟩
    haveI : BLt q h' := ⟨by omega⟩
    haveI : BLt bh h' := ⟨by omega⟩
    haveI : IdxOff 0 (k : Int) 37 (k * 37) := ⟨by omega⟩
    haveI : Sub (gcells L ++ j) (k * 37) 37 (at' L k).cells := gsub hlt
    haveI : L32 (bcells hs) := ⟨by rw [bcells_len, hl]⟩
    haveI : Sub (bcells hs) 0 32 (bcells hs) := ⟨by rw [bcells_len, hl]; decide, by rw [List.drop_zero, List.take_of_length_le (by rw [bcells_len, hl]; decide)]⟩
    refine stp ?_
    rw [same_bytes]
    by_cases hh : (at' L k).hash = hs
    · rw [decide_eq_true hh]
      refine stp ?_
      refine O.yieldT (hr h1.n k _ (hk _ _ _ _ hi Fr.refl.push) (by simp; omega) hlt hh) (fun r h2 hr2 => ?_)
      obtain ⟨rfl, i2, f2⟩ := hr2
      refine stp ?_
      exact loop1a 9 (L.length - (k + 1)) (by omega) ⟨k + 1, by omega, rfl, rfl, i2, Fr.trans' (hF.trans' (Fr.refl.push (S := fun i => W i ∨ h1.n ≤ i))) f2⟩
    · rw [decide_eq_false hh]
      refine stp ?_
      exact loop1a 9 (L.length - (k + 1)) (by omega) ⟨k + 1, by omega, rfl, rfl, hk _ _ _ _ (hskip _ _ _ hlt hh hi) Fr.refl.push, hF.trans' (Fr.refl.push (S := fun i => W i ∨ h1.n ≤ i))⟩
  · obtain rfl : k = L.length := by omega
    haveI q1 : ∀ {ts : List Value} {h : Heap} {O : Oper} {x z : Operand} [Ev ts x (.int .i64 (L.length : Nat))] [Ev ts z (.int .i64 (L.length : Nat))], XOp Try.prog ts h (.bin .lss O x z) (.bool false) h := xlss0 (by omega)
    refine stp ?_
    exact ⟨_, hi⟩
end Go.Proofs.Ytagmnpeilgnbdaa.A

namespace Go.Proofs.Ytagmnpeilgnbdaa.A
open Go Go.Vm
set_option maxRecDepth 10000
set_option linter.unusedVariables false
structure K4 where
  a : UInt8
  b : UInt8
  c : UInt8
  d : UInt8
abbrev K4.bs (k : K4) : List UInt8 := [k.a, k.b, k.c, k.d]
abbrev K4.cells (k : K4) : List Value := bcells k.bs
noncomputable instance : DecidableEq K4 := fun _ _ => Classical.propDecidable _
instance {k : K4} : LenN k.cells 4 := ⟨rfl⟩
instance {k : K4} : One k.cells := ⟨rfl⟩
instance l4k {k : K4} : L4 k.cells := ⟨rfl⟩
instance overK {k : K4} : Over [.int .u8 0, .int .u8 0, .int .u8 0, .int .u8 0] 0 k.cells k.cells := ⟨by show 0 + 4 ≤ 4; decide, rfl⟩
instance subK {k : K4} : Sub k.cells 0 4 k.cells := ⟨by show 0 + 4 ≤ 4; decide, rfl⟩
abbrev Sg.k4 (s : Sg) : K4 := ⟨s.k0, s.k1, s.k2, s.k3⟩
def kcells (l : List K4) : List Value := l.flatMap K4.cells
theorem kcells_append (l m : List K4) : kcells (l ++ m) = kcells l ++ kcells m := by simp [kcells]
theorem kcells_len : ∀ l : List K4, (kcells l).length = l.length * 4
  | [] => rfl
  | k :: l => by
    rw [show kcells (k :: l) = k.cells ++ kcells l from rfl, List.length_append, kcells_len l, List.length_cons]
    show 4 + _ = _
    omega
theorem ksub_last {l : List K4} {k : K4} {j : List Value} : Sub (kcells (l ++ [k]) ++ j) (l.length * 4) 4 k.cells := by
  refine ⟨by rw [List.length_append, kcells_len, List.length_append, List.length_singleton]; omega, ?_⟩
  rw [kcells_append, List.append_assoc, ← kcells_len, List.drop_left]
  rfl
theorem one_key {h : Heap} {k : K4} {es : Nat} : newCells (h.push (.cells k.cells es)) 4 [.int .u8 0, .int .u8 0, .int .u8 0, .int .u8 0] false (.slice (some ⟨h.n, 0, none⟩) 1 1) = some (1, k.cells) :=
  (Rd.mk (size := 4) (n := 1) (cap := 1) (sp := none) (o := 0) (b := h.n) (c := k.cells) (by simp) (by rw [cellsAt_of (c := k.cells) (by rw [Heap.get_push, if_pos rfl]; rfl) (by show 0 + 1 * 4 ≤ 4; decide), List.drop_zero, List.take_of_length_le (by show 4 ≤ 1 * 4; decide)])).new _
def pushK (out : List K4) (k : K4) : List K4 := if out.getLast? = some k then out else out ++ [k]
def whoG (hs : List UInt8) (L : List Sg) : List K4 := L.foldl (fun out s => if s.hash = hs then pushK out s.k4 else out) []
theorem pushK_len {out : List K4} {k : K4} : (pushK out k).length ≤ out.length + 1 := by
  unfold pushK
  split
  · omega
  · simp
theorem K4.ext' {k m : K4} (h : k.bs = m.bs) : k = m := by
  obtain ⟨a, b, c, d⟩ := k
  obtain ⟨a', b', c', d'⟩ := m
  simp only [K4.bs, List.cons.injEq, and_true] at h
  obtain ⟨rfl, rfl, rfl, rfl⟩ := h
  rfl
theorem own_atK {h : Heap} {v : Value} {L : List K4} (ho : Own h 4 v (kcells L) L.length) (hp : 0 < L.length) : ∃ (q s cap : Nat) (j : List Value), v = .slice (some ⟨q, 0, some s⟩) L.length cap ∧ q < h.n ∧ h.get q = .cells (kcells L ++ j) 4 := by
  generalize hc : kcells L = c at *
  generalize hn : L.length = n at *
  cases ho with
  | none => omega
  | lit => omega
  | grown hq h0 hle h1 h2 hg => exact ⟨_, _, _, _, rfl, hq, hg⟩
set_option maxHeartbeats 8000000 in
theorem who_round {h : Heap} {lp p4 : Nat} {k : K4} {v : Value} {out : List K4} {f0 f1 f2 f3 f5 f6 f7 f8 f9 f10 f11 f12 f13 f14 f15 f16 f17 f18 f19 f20 f21 f22 f23 f24 f25 f26 f27 f28 f29 : Value}
    (hlp : h.get lp = .loop .ready none [f0, f1, f2, f3, .pointer (some ⟨p4, 0, none⟩), f5, f6, f7, f8, f9, f10, f11, f12, f13, f14, f15, f16, f17, f18, f19, f20, f21, f22, f23, f24, f25, f26, f27, f28, f29] [11] zsbQ_ra0 zsbQ_rb0)
    (h4 : h.get p4 = .cells [v] 0) (ho : Own h 4 v (kcells out) out.length) (hL : out.length < 100000) (hv : ∀ i, ownedBy v i → i ≠ lp ∧ i ≠ p4) (ll : lp < h.n) (l4 : p4 < h.n) (n4 : p4 ≠ lp) :
    Runs Try.prog T0 (.yield lp) [.agg ⟨k.cells⟩] h (fun r g => r = .bool true ∧ g.get lp = .loop .ready none [f0, f1, f2, f3, .pointer (some ⟨p4, 0, none⟩), f5, f6, f7, f8, f9, f10, f11, f12, f13, f14, f15, f16, f17, f18, f19, f20, f21, f22, f23, f24, f25, f26, f27, f28, f29] [11] zsbQ_ra0 zsbQ_rb0 ∧
      (∃ v', g.get p4 = .cells [v'] 0 ∧ Own g 4 v' (kcells (pushK out k)) (pushK out k).length ∧ (∀ i, ownedBy v' i → ownedBy v i ∨ h.n ≤ i)) ∧ Fr (fun i => i = lp ∨ i = p4 ∨ ownedBy v i) h g) (fun _ _ => False) := by
  haveI : HGet h lp _ := ⟨hlp⟩
  haveI : HGet h p4 _ := ⟨h4⟩
  haveI : BLt lp h := ⟨ll⟩
  haveI : BLt p4 h := ⟨l4⟩
  haveI : BNe p4 lp := ⟨n4⟩
  haveI : BNe lp p4 := ⟨fun e => n4 e.symm⟩
  obtain ⟨av, cv, rfl, _, _⟩ := id ho.rd
  refine Runs.round hlp put_one rfl zsbQ_na0 zsbQ_nb0 zsbQ_ca0 zsbQ_cb0 ?_
  refine stp ?_
  refine A.go ?_
  rcases List.eq_nil_or_concat out with rfl | ⟨out', k', rfl⟩
  · haveI q1 : ∀ {ts : List Value} {h : Heap} {O : Oper} {x z : Operand} [Ev ts x (.int .i64 (([] : List K4).length : Nat))] [Ev ts z (.int .i64 0)], XOp Try.prog ts h (.bin .eql O x z) (.bool true) h := xeql1 rfl
    refine stp ?_
    refine O.append (ho.keep (S := fun i => i = lp) ((Fr.refl.push.set (S := fun i => i = lp) fun _ => rfl).push) fun b hb e => (hv b hb).1 e) (one_key (k := k)) rfl rfl (by decide) (by decide) (by omega) (fun v6 h6 ho6 hf6 hn6 => ?_)
    have hpk : pushK [] k = [] ++ [k] := by simp [pushK]
    have hpl : (pushK [] k).length = ([] : List K4).length + 1 := by rw [hpk]; exact List.length_append
    have q6 := hf6.n
    simp only [Heap.n_set, Heap.n_push] at q6 hn6
    haveI := hf6.keep (b := lp) inferInstance (by simp; omega) (fun e => (hv lp e).1 rfl)
    haveI := hf6.keep (b := p4) (o := .cells [.slice av ([] : List K4).length cv] 0) inferInstance (by simp; omega) (fun e => (hv p4 e).2 rfl)
    haveI : BLt lp h6 := ⟨by omega⟩
    haveI : BLt p4 h6 := ⟨by omega⟩
    have F6 : Fr (fun i => i = lp ∨ ownedBy (.slice av ([] : List K4).length cv) i) h h6 := (((Fr.refl.push).set (S := fun i => i = lp ∨ ownedBy (.slice av ([] : List K4).length cv) i) fun _ => .inl rfl).push).trans' (hf6.mono fun _ _ e => .inr e)
    obtain ⟨a6, c6, rfl, _, _⟩ := id ho6.rd
    refine stp ?_
    refine A.on ?_
    have fS : ∀ {A B : AObj}, Fr (fun i => i = p4 ∨ i = lp) h6 ((h6.set p4 A).set lp B) := fun {A B} => (Fr.refl.set fun _ => .inl rfl).set fun _ => .inr rfl
    refine ⟨rfl, by rw [Heap.get_set, if_pos rfl], ⟨_, by rw [Heap.get_set, if_neg n4, Heap.get_set, if_pos rfl], ?_, fun i hi => ?_⟩, (F6.mono fun _ _ e => e.elim .inl fun e => .inr (.inr e)).trans' (fS.mono fun _ _ e => e.elim (fun e => .inr (.inl e)) .inl)⟩
    · rw [hpl, hpk, kcells_append, show kcells [k] = k.cells from List.append_nil _]
      exact ho6.keep fS fun b hb e => by
        rcases hn6 b hb with h7 | h7
        · have := hv b h7; omega
        · omega
    · rcases hn6 i hi with h7 | h7
      · exact .inl h7
      · exact .inr (by omega)
  · rw [List.concat_eq_append] at *
    haveI q1 : ∀ {ts : List Value} {h : Heap} {O : Oper} {x z : Operand} [Ev ts x (.int .i64 ((out' ++ [k']).length : Nat))] [Ev ts z (.int .i64 0)], XOp Try.prog ts h (.bin .eql O x z) (.bool false) h := xeql0 (by simp; omega)
    obtain ⟨q, sx, cap, j, e, hq, hg⟩ := own_atK ho (by simp)
    cases e
    have hqv := hv q rfl
    haveI : HGet h q (.cells (kcells (out' ++ [k']) ++ j) 4) := ⟨hg⟩
    haveI : BLt q h := ⟨hq⟩
    haveI : BNe q lp := ⟨hqv.1⟩
    haveI : BNe q p4 := ⟨hqv.2⟩
    haveI : IdxOff 0 (((out' ++ [k']).length : Int) - 1) 4 (out'.length * 4) := ⟨by simp⟩
    haveI : Sub (kcells (out' ++ [k']) ++ j) (out'.length * 4) 4 k'.cells := ksub_last
    haveI q2 : ∀ {ts : List Value} {h : Heap} {x z : Operand} [Ev ts x (.slice (some ⟨q, 0, some sx⟩) (out' ++ [k']).length cv)] [Ev ts z (.int .i64 (((out' ++ [k']).length : Int) - 1))], XOp Try.prog ts h (.indexSl 4 x z) (.pointer (some ⟨q, out'.length * 4, none⟩)) h := XOp.mkIndexSl (by simp; omega)
    refine stp ?_
    rw [same_bytes]
    by_cases hkk : k' = k
    · subst hkk
      rw [decide_eq_true rfl]
      refine stp ?_
      refine A.on ?_
      have hpk : pushK (out' ++ [k']) k' = out' ++ [k'] := by simp [pushK]
      rw [hpk]
      have fS : ∀ {A B : AObj}, Fr (fun i => i = lp) h (((h.push (.cells k'.cells 0)).set lp A).set lp B) := fun {A B} => ((Fr.refl.push).set (S := fun i => i = lp) fun _ => rfl).set fun _ => rfl
      refine ⟨rfl, by rw [Heap.get_set, if_pos rfl], ⟨_, ?_, ho.keep fS fun b hb e => (hv b hb).1 e, fun i hi => .inl hi⟩, fS.mono fun _ _ e => .inl e⟩
      rw [fS.get _ l4 n4]
      exact h4
    · rw [decide_eq_false (fun e => hkk (K4.ext' e))]
      refine stp ?_
      refine O.append (ho.keep (S := fun i => i = lp) ((Fr.refl.push.set (S := fun i => i = lp) fun _ => rfl).push) fun b hb e => (hv b hb).1 e) (one_key (k := k)) rfl rfl (by decide) (by decide) (by omega) (fun v6 h6 ho6 hf6 hn6 => ?_)
      have hpk : pushK (out' ++ [k']) k = (out' ++ [k']) ++ [k] := by simp [pushK, hkk]
      have hpl : (pushK (out' ++ [k']) k).length = ((out' ++ [k']) : List K4).length + 1 := by rw [hpk]; exact List.length_append
      have q6 := hf6.n
      simp only [Heap.n_set, Heap.n_push] at q6 hn6
      haveI := hf6.keep (b := lp) inferInstance (by simp; omega) (fun e => (hv lp e).1 rfl)
      haveI := hf6.keep (b := p4) (o := .cells [.slice (some ⟨q, 0, some sx⟩) (out' ++ [k']).length cv] 0) inferInstance (by simp; omega) (fun e => (hv p4 e).2 rfl)
      haveI : BLt lp h6 := ⟨by omega⟩
      haveI : BLt p4 h6 := ⟨by omega⟩
      have F6 : Fr (fun i => i = lp ∨ ownedBy (.slice (some ⟨q, 0, some sx⟩) (out' ++ [k']).length cv) i) h h6 := (((Fr.refl.push).set (S := fun i => i = lp ∨ ownedBy (.slice (some ⟨q, 0, some sx⟩) (out' ++ [k']).length cv) i) fun _ => .inl rfl).push).trans' (hf6.mono fun _ _ e => .inr e)
      obtain ⟨a6, c6, rfl, _, _⟩ := id ho6.rd
      refine stp ?_
      refine A.on ?_
      have fS : ∀ {A B : AObj}, Fr (fun i => i = p4 ∨ i = lp) h6 ((h6.set p4 A).set lp B) := fun {A B} => (Fr.refl.set fun _ => .inl rfl).set fun _ => .inr rfl
      refine ⟨rfl, by rw [Heap.get_set, if_pos rfl], ⟨_, by rw [Heap.get_set, if_neg n4, Heap.get_set, if_pos rfl], ?_, fun i hi => ?_⟩, (F6.mono fun _ _ e => e.elim .inl fun e => .inr (.inr e)).trans' (fS.mono fun _ _ e => e.elim (fun e => .inr (.inl e)) .inl)⟩
      · rw [hpl, hpk, kcells_append, show kcells [k] = k.cells from List.append_nil _]
        exact ho6.keep fS fun b hb e => by
          rcases hn6 b hb with h7 | h7
          · have := hv b h7; omega
          · omega
      · rcases hn6 i hi with h7 | h7
        · exact .inl h7
        · exact .inr (by omega)
theorem gover_ok {h : Heap} {p : Nat} {hs : List UInt8} (hl : hs.length = 32) : Runs Try.prog T0 (.fn fn_zubQ) [.pointer (some ⟨p, 0, none⟩), .agg ⟨bcells hs⟩] h (fun r h' => r = .func (.func fn_zvbQ) ⟨[]⟩ ⟨[.pointer (some ⟨h.n, 0, none⟩), .pointer (some ⟨h.n + 1, 0, none⟩)]⟩ ∧ h'.n = h.n + 2 ∧ h'.get h.n = .cells [.pointer (some ⟨p, 0, none⟩)] 0 ∧ h'.get (h.n + 1) = .cells (bcells hs) 0 ∧ Fr (fun _ => False) h h') (fun _ _ => False) := by
  haveI : L32 (bcells hs) := ⟨by rw [bcells_len, hl]⟩
  refine zubQ_runs ?_
  refine stp ?_
  exact ⟨rfl, rfl, by rw [Heap.get_push, if_neg (by simp), Heap.get_push, if_pos rfl], by rw [Heap.get_push, if_pos (by simp)], Fr.refl.push.push⟩
end Go.Proofs.Ytagmnpeilgnbdaa.A

namespace Go.Proofs.Ytagmnpeilgnbdaa.A
open Go Go.Vm
set_option maxRecDepth 10000
set_option linter.unusedVariables false
noncomputable abbrev wrec (p b3 p4 : Nat) (hs : List UInt8) (bt bh : Nat) : AObj := .loop .ready none [.pointer (some ⟨p, 0, none⟩), .agg ⟨bcells hs⟩, undef, .pointer (some ⟨b3, 0, none⟩), .pointer (some ⟨p4, 0, none⟩), undef, .pointer (some ⟨p, 0, none⟩), .bool false, .pointer (some ⟨p, 0, none⟩), .agg ⟨bcells hs⟩, .func (.func fn_zvbQ) ⟨[]⟩ ⟨[.pointer (some ⟨bt, 0, none⟩), .pointer (some ⟨bh, 0, none⟩)]⟩, undef, undef, undef, undef, undef, undef, undef, undef, undef, undef, undef, undef, undef, undef, undef, undef, undef, undef, undef] [11] zsbQ_ra0 zsbQ_rb0
theorem who_take {hs : List UInt8} {L : List Sg} {k : Nat} (hk : k < L.length) : whoG hs (L.take (k + 1)) = if (at' L k).hash = hs then pushK (whoG hs (L.take k)) (at' L k).k4 else whoG hs (L.take k) := by
  have e : at' L k = L[k] := by simp only [at', List.getD_eq_getElem?_getD, List.getElem?_eq_getElem hk, Option.getD_some]
  unfold whoG
  rw [List.take_succ_eq_append_getElem hk, List.foldl_append, e]
  rfl
theorem who_len {hs : List UInt8} {L : List Sg} : ∀ {k : Nat}, k ≤ L.length → (whoG hs (L.take k)).length ≤ k
  | 0, _ => by simp [whoG]
  | k + 1, h => by
    have := who_len (hs := hs) (L := L) (k := k) (by omega)
    rw [who_take (by omega)]
    split
    · have := pushK_len (out := whoG hs (L.take k)) (k := (at' L k).k4)
      omega
    · omega
section
variable {h : Heap} {p m c : Nat} {l : List GEnt} {most : Int} {L : List Sg} {s : Sg} {hs : List UInt8}
set_option maxHeartbeats 8000000 in
theorem gWho_ok (ha : TbAt h p m c l most L) (hl : hs.length = 32) :
    Runs Try.prog T0 (.fn fn_zsbQ) [.pointer (some ⟨p, 0, none⟩), .agg ⟨bcells hs⟩] h
      (fun r h' => Own h' 4 r (kcells (whoG hs L)) (whoG hs L).length ∧ (∀ i, ownedBy r i → h.n ≤ i) ∧ Fr (fun _ => False) h h') (fun _ _ => False) := by
  have hll := ha.len
  haveI : L32 (bcells hs) := ⟨by rw [bcells_len, hl]⟩
  haveI : Sub (bcells hs) 0 32 (bcells hs) := ⟨by rw [bcells_len, hl]; decide, by rw [List.drop_zero, List.take_of_length_le (by rw [bcells_len, hl]; decide)]⟩
  have F0 : Fr (fun _ => False) h ((h.push (.cells (bcells hs) 0)).push (.cells [.slice none 0 0] 0)) := Fr.refl.push.push
  have ha0 := ha.keep F0 id id
  have n0 : ((h.push (.cells (bcells hs) 0)).push (.cells [.slice none 0 0] 0)).n = h.n + 2 := rfl
  have g3 : ((h.push (.cells (bcells hs) 0)).push (.cells [.slice none 0 0] 0)).get h.n = .cells (bcells hs) 0 := by rw [Heap.get_push, if_neg (by simp), Heap.get_push, if_pos rfl]
  have g4 : ((h.push (.cells (bcells hs) 0)).push (.cells [.slice none 0 0] 0)).get (h.n + 1) = .cells [.slice none 0 0] 0 := by rw [Heap.get_push, if_pos (by simp)]
  refine zsbQ_runs ?_
  refine stp ?_
  simp only [Heap.n_push]
  generalize (h.push (.cells (bcells hs) 0)).push (.cells [.slice none 0 0] 0) = h0 at *
  refine O.call' (gnone_ok ha0) (fun r h1 hr => ?_)
  obtain ⟨rfl, rfl⟩ := hr
  haveI : HGet h1 h.n (.cells (bcells hs) 0) := ⟨g3⟩
  refine stp ?_
  refine O.call' (gover_ok hl) (fun r h2 hr => ?_)
  obtain ⟨rfl, n2, gt, gh, f2⟩ := hr
  refine stp ?_
  have FL : Fr (fun _ => False) h2 ((h2.push (.defs false)).push (wrec p h.n (h.n + 1) hs h1.n (h1.n + 1))) := Fr.refl.push.push
  have nl : ((h2.push (.defs false)).push (wrec p h.n (h.n + 1) hs h1.n (h1.n + 1))).n = h2.n + 2 := rfl
  have hd : (h2.push (.defs false)).n = h2.n + 1 := rfl
  have gq : ((h2.push (.defs false)).push (wrec p h.n (h.n + 1) hs h1.n (h1.n + 1))).get (h2.n + 1) = wrec p h.n (h.n + 1) hs h1.n (h1.n + 1) := HGet.new.eq
  have FQ : Fr (fun i => i = h2.n + 1 ∨ i = h.n + 1) (h2.push (.defs false)) ((h2.push (.defs false)).push (wrec p h.n (h.n + 1) hs h1.n (h1.n + 1))) := Fr.refl.push
  have ha2 := ha0.keep f2 id id
  have g42 : h2.get (h.n + 1) = .cells [.slice none 0 0] 0 := by rw [f2.get _ (by omega) id]; exact g4
  refine range_on (J := fun hx => (∃ (v : Value), hx.get (h.n + 1) = .cells [v] 0 ∧ Own hx 4 v (kcells (whoG hs L)) (whoG hs L).length ∧ ∀ i, ownedBy v i → h2.n + 2 ≤ i) ∧ Fr (fun i => i = h2.n + 1 ∨ i = h.n + 1) (h2.push (.defs false)) hx) ?_ (fun hx hJ => ?_)
  · show Runs _ _ _ _ ((h2.push (.defs false)).push (wrec p h.n (h.n + 1) hs h1.n (h1.n + 1))) _ _
    generalize ((h2.push (.defs false)).push (wrec p h.n (h.n + 1) hs h1.n (h1.n + 1))) = hq at *
    refine Runs.mono (over1_ok (W := fun i => i = h2.n + 1 ∨ i = h.n + 1) (I := fun N k hx => hx.get (h2.n + 1) = wrec p h.n (h.n + 1) hs h1.n (h1.n + 1) ∧ (∃ v, hx.get (h.n + 1) = .cells [v] 0 ∧ Own hx 4 v (kcells (whoG hs (L.take k))) (whoG hs (L.take k)).length ∧ ∀ i, ownedBy v i → N ≤ i) ∧ h2.n + 2 ≤ N ∧ h2.n + 2 ≤ hx.n ∧ Fr (fun i => i = h2.n + 1 ∨ i = h.n + 1) (h2.push (.defs false)) hx) hl (by rw [FL.get _ (by omega) id]; exact gt) (by omega) (by rw [FL.get _ (by omega) id]; exact gh) (by omega) (ha2.keep FL id id) (by omega) (fun i hi => by omega) ?_ ?_ ?_ ?_) (fun _ h' hh => ?_) (fun _ _ h => h)
    · intro hx hf
      have nf := hf.n
      refine ⟨by rw [hf.get _ (by omega) id]; exact gq, ⟨.slice none 0 0, ?_, by rw [List.take_zero]; exact .none, fun i hi => by cases hi⟩, by omega, by omega, ?_⟩
      · rw [hf.get _ (by omega) id, FL.get _ (by omega) id]
        exact g42
      · exact FQ.trans' (hf.mono fun _ _ e => e.elim)
    · rintro N k hx hx' ⟨i1, ⟨v, i2, i3, i4⟩, i5, i6, i7⟩ hf
      have nf := hf.n
      exact ⟨by rw [hf.get _ (by omega) id]; exact i1, ⟨v, by rw [hf.get _ (by omega) id]; exact i2, i3.keep hf fun _ _ => id, i4⟩, i5, by omega, i7.trans' (hf.mono fun _ _ e => e.elim)⟩
    · rintro N k hx hk hne ⟨i1, ⟨v, i2, i3, i4⟩, i5, i6, i7⟩
      refine ⟨i1, ⟨v, i2, ?_, i4⟩, i5, i6, i7⟩
      rw [who_take hk, if_neg hne]
      exact i3
    · rintro N k hx ⟨i1, ⟨v, i2, i3, i4⟩, i5, i6, i7⟩ hN hk heq
      have hwl := who_len (hs := hs) (L := L) (k := k) (by omega)
      refine Runs.mono (who_round (k := (at' L k).k4) i1 i2 i3 (by omega) (fun i hi => by have := i4 i hi; omega) (by omega) (by omega) (by omega)) (fun r h' hh => ?_) (fun _ _ h => h)
      obtain ⟨rfl, j1, ⟨v', j2, j3, j4⟩, j5⟩ := hh
      have nf := j5.n
      refine ⟨rfl, ⟨j1, ⟨v', j2, ?_, fun i hi => ?_⟩, i5, by omega, i7.trans j5 fun i hi e => ?_⟩, j5.mono fun i hi e => ?_⟩
      · rw [who_take hk, if_pos heq]
        exact j3
      · rcases j4 i hi with h7 | h7
        · exact i4 i h7
        · omega
      · rcases e with e | e | e
        · exact .inl e
        · exact .inr e
        · have := i4 i e
          omega
      · rcases e with e | e | e
        · exact .inl (.inl e)
        · exact .inl (.inr e)
        · exact .inr (i4 i e)
    · obtain ⟨N, i1, ⟨v, i2, i3, i4⟩, i5, i6, i7⟩ := hh
      rw [List.take_length] at i3
      exact ⟨i1, ⟨v, i2, i3, fun i hi => by have := i4 i hi; omega⟩, i7⟩
  · obtain ⟨⟨v, q4, ho, hnew⟩, hf⟩ := hJ
    have hxn := hf.n
    have FD : Fr (fun i => i = h2.n + 1 ∨ i = h.n + 1) h2 hx := Fr.trans' (Fr.refl.push (o := .defs false)) hf
    have hfx : Fr (fun _ => False) h hx := (F0.trans' f2).trans FD fun i hi e => by omega
    have gdf : hx.get h2.n = .defs false := by rw [hf.get _ (by omega) (by omega)]; exact HGet.new.eq
    haveI : HGet hx (h.n + 1) _ := ⟨q4⟩
    haveI : HGet hx h2.n _ := ⟨gdf⟩
    haveI : BNe h2.n (h2.n + 1) := ⟨by omega⟩
    haveI : BNe h2.n (h.n + 1) := ⟨by omega⟩
    haveI : BNe (h.n + 1) h2.n := ⟨by omega⟩
    haveI : BLt (h.n + 1) hx := ⟨by omega⟩
    haveI : BNe (h.n + 1) (h2.n + 1) := ⟨by omega⟩
    obtain ⟨a3, c3, rfl, _, _⟩ := id ho.rd
    refine stp ?_
    refine B.retC ?_
    have fS : ∀ {A B C D : AObj}, Fr (fun i => i = h2.n + 1 ∨ i = h2.n ∨ i = h.n + 1) hx ((((hx.set (h2.n + 1) A).set (h2.n + 1) B).set (h.n + 1) C).set h2.n D) := fun {A B C D} => (((Fr.refl.set fun _ => .inl rfl).set fun _ => .inl rfl).set fun _ => .inr (.inr rfl)).set fun _ => .inr (.inl rfl)
    exact ⟨ho.keep fS fun b hb e => by have := hnew b hb; omega, fun i hi => by have := hnew i hi; omega, hfx.trans fS fun i hi e => by omega⟩
end
end Go.Proofs.Ytagmnpeilgnbdaa.A

namespace Go.Proofs.Ytagmnpeilgnbdaa.A
open Go Go.Vm
set_option maxRecDepth 10000
set_option linter.unusedVariables false
end Go.Proofs.Ytagmnpeilgnbdaa.A

namespace Go.Proofs.Ytagmnpeilgnbdaa.A
open Go Go.Vm
set_option maxRecDepth 10000
set_option linter.unusedVariables false
end Go.Proofs.Ytagmnpeilgnbdaa.A

namespace Go.Proofs.Ytagmnpeilgnbdaa.A
open Go Go.Vm
set_option maxRecDepth 10000
set_option linter.unusedVariables false
end Go.Proofs.Ytagmnpeilgnbdaa.A

namespace Go.Proofs.Ytagmnpeilgnbdaa.A
open Go Go.Vm
set_option maxRecDepth 10000
set_option linter.unusedVariables false
theorem l32 {l : List UInt8} (h : l.length = 32) : L32 (bcells l) := ⟨by simpa [bcells] using h⟩
end Go.Proofs.Ytagmnpeilgnbdaa.A

namespace Go.Proofs.Ytagmnpeilgnbdaa.A
open Go Go.Vm
set_option maxRecDepth 10000
set_option linter.unusedVariables false
theorem u8nat {n : Nat} (h : n < 256) : (UInt8.ofNat n).toNat = n := by
  rw [UInt8.toNat_ofNat']
  exact Nat.mod_eq_of_lt h
end Go.Proofs.Ytagmnpeilgnbdaa.A

namespace Go.Proofs.Ytagmnpeilgnbdaa.A
open Go Go.Vm
set_option maxRecDepth 10000
set_option linter.unusedVariables false
def Parts (h : Heap) (ls : List (Value × List UInt8)) : Prop := ∀ p ∈ ls, Rd h 1 p.1 (bcells p.2) p.2.length
theorem Parts.keep {h h' : Heap} {ls : List (Value × List UInt8)} (hp : Parts h ls) (hf : Fr (fun _ => False) h h') : Parts h' ls := fun p hm => (hp p hm).keep hf fun _ _ => id
end Go.Proofs.Ytagmnpeilgnbdaa.A

namespace Go.Proofs.Ytagmnpeilgnbdaa.A
open Go Go.Vm
set_option maxRecDepth 10000
set_option linter.unusedVariables false
structure PW (h : Heap) (lo p : Nat) (sv : Value) (bs : List UInt8) (lim : Nat) (e : Int) : Prop where
  lt : p < h.n
  le : lo ≤ p
  get : h.get p = .cells [.int .i64 lim, sv, .int .i64 e, .bool true] 0
  own : Own h 1 sv (bcells bs) bs.length
  apart : ¬ ownedBy sv p
  above : ∀ i, ownedBy sv i → lo ≤ i
  small : bs.length < 1048576
structure WSt where
  bs : List UInt8
  e : Int
structure PWs (h : Heap) (lo p lim : Nat) (st : WSt) : Prop where
  ex : ∃ sv, PW h lo p sv st.bs lim st.e
theorem PW.keep {S : Nat → Prop} {h h' : Heap} {lo p : Nat} {sv : Value} {bs : List UInt8} {lim : Nat} {e : Int} (hp : PW h lo p sv bs lim e) (hf : Fr S h h') (hs : ¬ S p) (hb : ∀ i, ownedBy sv i → ¬ S i) : PW h' lo p sv bs lim e :=
  ⟨hf.lt hp.lt, hp.le, by rw [hf.get p hp.lt hs, hp.get], hp.own.keep hf hb, hp.apart, hp.above, hp.small⟩
theorem PWs.keep {S : Nat → Prop} {h h' : Heap} {lo p lim : Nat} {st : WSt} (hp : PWs h lo p lim st) (hf : Fr S h h') (hs : ∀ i, S i → i < lo) : PWs h' lo p lim st :=
  let ⟨sv, hw⟩ := hp.ex
  ⟨sv, hw.keep hf (fun h => by have := hs _ h; have := hw.le; omega) fun i hi h => by have := hs _ h; have := hw.above i hi; omega⟩
theorem PWs.none {h h' : Heap} {lo p lim : Nat} {st : WSt} (hp : PWs h lo p lim st) (hf : Fr (fun _ => False) h h') : PWs h' lo p lim st := hp.keep hf fun _ h => h.elim
theorem PWs.lo_le {h : Heap} {lo p lim : Nat} {st : WSt} (hp : PWs h lo p lim st) : lo ≤ h.n := let ⟨_, hw⟩ := hp.ex; Nat.le_of_lt (Nat.lt_of_le_of_lt hw.le hw.lt)
end Go.Proofs.Ytagmnpeilgnbdaa.A

namespace Go.Proofs.Ytagmnpeilgnbdaa.A
open Go Go.Vm
set_option maxRecDepth 10000
set_option linter.unusedVariables false
end Go.Proofs.Ytagmnpeilgnbdaa.A

namespace Go.Proofs.Ytagmnpeilgnbdaa.A
open Go Go.Vm
set_option maxRecDepth 10000
set_option linter.unusedVariables false
inductive OwnL (h : Heap) (size : Nat) : Value → List Value → Nat → Prop
  | own {v : Value} {c : List Value} {n : Nat} : Own h size v c n → OwnL h size v c n
  | lit {q es n : Nat} {c : List Value} : q < h.n → h.get q = .cells c es → c.length = n * size → OwnL h size (.slice (some ⟨q, 0, none⟩) n n) c n
theorem OwnL.rd {h : Heap} {size : Nat} {v : Value} {c : List Value} {n : Nat} (ho : OwnL h size v c n) : Rd h size v c n := by
  cases ho with
  | own ho => exact ho.rd
  | lit hq hg hl => exact Rd.mk hq (by rw [cellsAt_of (by rw [hg]; rfl) (by omega), List.drop_zero, List.take_of_length_le (by omega)])
theorem OwnL.keep {S : Nat → Prop} {h h' : Heap} {size : Nat} {v : Value} {c : List Value} {n : Nat} (ho : OwnL h size v c n) (hf : Fr S h h') (hs : ∀ b, ownedBy v b → ¬ S b) : OwnL h' size v c n := by
  cases ho with
  | own ho => exact .own (ho.keep hf hs)
  | lit hq hg hl => exact .lit (hf.lt hq) (by rw [hf.get _ hq (hs _ rfl), hg]) hl
section
variable {P : Program} {T : Table} {ts : List Value} {ds : List Deferred} {h : Heap} {rd : Option Nat} {v w : Value} {dst size bytes n m el q : Nat} {zero c d : List Value} {zeros : Bool} {x y : Operand} {chk : List (Option Nat × AOp × Option (Nat × Bool))} {pan : Bool} {rest : List AOper} {Q : QP} {F : Value → List Value}
end
end Go.Proofs.Ytagmnpeilgnbdaa.A

namespace Go.Proofs.Ytagmnpeilgnbdaa.A
open Go Go.Vm
set_option maxRecDepth 10000
set_option linter.unusedVariables false
structure DW (h : Heap) (lo p : Nat) (sv : Value) (bs : List UInt8) (lim : Nat) (e : Int) : Prop where
  lt : p < h.n
  le : lo ≤ p
  get : h.get p = .cells [.int .i64 lim, sv, .int .i64 e] 0
  own : Own h 1 sv (bcells bs) bs.length
  apart : ¬ ownedBy sv p
  above : ∀ i, ownedBy sv i → lo ≤ i
  small : bs.length < 1048577
structure DWs (h : Heap) (lo p lim : Nat) (st : WSt) : Prop where
  ex : ∃ sv, DW h lo p sv st.bs lim st.e
theorem DW.keep {S : Nat → Prop} {h h' : Heap} {lo p : Nat} {sv : Value} {bs : List UInt8} {lim : Nat} {e : Int} (hp : DW h lo p sv bs lim e) (hf : Fr S h h') (hs : ¬ S p) (hb : ∀ i, ownedBy sv i → ¬ S i) : DW h' lo p sv bs lim e :=
  ⟨hf.lt hp.lt, hp.le, by rw [hf.get p hp.lt hs, hp.get], hp.own.keep hf hb, hp.apart, hp.above, hp.small⟩
theorem DWs.keep {S : Nat → Prop} {h h' : Heap} {lo p lim : Nat} {st : WSt} (hp : DWs h lo p lim st) (hf : Fr S h h') (hs : ∀ i, S i → i < lo) : DWs h' lo p lim st :=
  let ⟨sv, hw⟩ := hp.ex
  ⟨sv, hw.keep hf (fun h => by have := hs _ h; have := hw.le; omega) fun i hi h => by have := hs _ h; have := hw.above i hi; omega⟩
theorem DWs.none {h h' : Heap} {lo p lim : Nat} {st : WSt} (hp : DWs h lo p lim st) (hf : Fr (fun _ => False) h h') : DWs h' lo p lim st := hp.keep hf fun _ h => h.elim
theorem DWs.lo_le {h : Heap} {lo p lim : Nat} {st : WSt} (hp : DWs h lo p lim st) : lo ≤ h.n := let ⟨_, hw⟩ := hp.ex; Nat.le_of_lt (Nat.lt_of_le_of_lt hw.le hw.lt)
end Go.Proofs.Ytagmnpeilgnbdaa.A

namespace Go.Proofs.Ytagmnpeilgnbdaa.A
open Go Go.Vm
set_option maxRecDepth 10000
set_option linter.unusedVariables false
structure PVs (h : Heap) (S : Nat → Prop) (p lim : Nat) (st : WSt) : Prop where
  ex : ∃ sv, PW h 0 p sv st.bs lim st.e ∧ S p ∧ ∀ i, ownedBy sv i → S i
theorem PVs.keep {S S' : Nat → Prop} {h h' : Heap} {p lim : Nat} {st : WSt} (hw : PVs h S p lim st) (hf : Fr S' h h') (hs : ∀ i, S' i → ¬ S i) : PVs h' S p lim st :=
  let ⟨sv, h1, h2, h3⟩ := hw.ex
  ⟨sv, h1.keep hf (fun h => hs _ h h2) fun i hi h => hs _ h (h3 i hi), h2, h3⟩
theorem PVs.none {S : Nat → Prop} {h h' : Heap} {p lim : Nat} {st : WSt} (hw : PVs h S p lim st) (hf : Fr (fun _ => False) h h') : PVs h' S p lim st := hw.keep hf fun _ h => h.elim
theorem PVs.mono {S S' : Nat → Prop} {h : Heap} {p lim : Nat} {st : WSt} (hw : PVs h S p lim st) (hs : ∀ i, i < h.n → S i → S' i) : PVs h S' p lim st :=
  let ⟨sv, h1, h2, h3⟩ := hw.ex
  ⟨sv, h1, hs _ h1.lt h2, fun i hi => hs i (h1.own.lt hi) (h3 i hi)⟩
theorem PVs.of {h : Heap} {lo p lim : Nat} {st : WSt} (hw : PWs h lo p lim st) : PVs h (fun i => lo ≤ i) p lim st :=
  let ⟨sv, h1⟩ := hw.ex
  ⟨sv, ⟨h1.lt, Nat.zero_le _, h1.get, h1.own, h1.apart, fun _ _ => Nat.zero_le _, h1.small⟩, h1.le, h1.above⟩
theorem PVs.to {h : Heap} {lo p lim : Nat} {st : WSt} (hw : PVs h (fun i => lo ≤ i) p lim st) : PWs h lo p lim st :=
  let ⟨sv, h1, h2, h3⟩ := hw.ex
  ⟨sv, ⟨h1.lt, h2, h1.get, h1.own, h1.apart, h3, h1.small⟩⟩
theorem PVs.lt {h : Heap} {S : Nat → Prop} {p lim : Nat} {st : WSt} (hw : PVs h S p lim st) : p < h.n := let ⟨_, h1, _⟩ := hw.ex; h1.lt
end Go.Proofs.Ytagmnpeilgnbdaa.A

namespace Go.Proofs.Ytagmnpeilgnbdaa.A
open Go Go.Vm
set_option maxRecDepth 10000
set_option linter.unusedVariables false
end Go.Proofs.Ytagmnpeilgnbdaa.A

namespace Go.Proofs.Ytagmnpeilgnbdaa.A
open Go Go.Vm
set_option maxRecDepth 10000
set_option linter.unusedVariables false
end Go.Proofs.Ytagmnpeilgnbdaa.A

namespace Go.Proofs.Ytagmnpeilgnbdaa.A
open Go Go.Vm
set_option maxRecDepth 10000
set_option linter.unusedVariables false
section
variable {h : Heap} {p m c : Nat} {l : List GEnt} {most : Int} {L : List Sg}
end
end Go.Proofs.Ytagmnpeilgnbdaa.A

namespace Go.Proofs.Ytagmnpeilgnbdaa.A
open Go Go.Vm
set_option maxRecDepth 10000
set_option linter.unusedVariables false
theorem bless_num : ∀ {l m : List UInt8}, l.length = m.length → Op.bytesLess l m = decide (bnum l < bnum m)
  | [], [], _ => rfl
  | a :: l, b :: m, h => by
    have hl : l.length = m.length := by simpa using h
    have h1 := bnum_lt l
    have h2 := bnum_lt m
    rw [← hl] at h2
    have hn := num_two (a := a.toNat) (b := b.toNat) h1 h2
    have e1 : bnum (a :: l) = a.toNat * 256 ^ l.length + bnum l := rfl
    have e2 : bnum (b :: m) = b.toNat * 256 ^ l.length + bnum m := by rw [hl]; rfl
    rw [e1, e2]
    simp only [hn.1]
    show (decide (a < b) || (a == b && Op.bytesLess l m)) = _
    rw [bless_num hl]
    by_cases hab : a = b
    · subst hab
      have : ¬ a < a := UInt8.lt_irrefl a
      simp
    · have hab' : a.toNat ≠ b.toNat := fun q => hab (u8eq.2 q)
      have hlt : (a < b) = (a.toNat < b.toNat) := rfl
      simp [hab, hab', hlt]
  | [], b :: m, h => by simp at h
  | a :: l, [], h => by simp at h
theorem bless_bv {l m : List UInt8} (h : l.length = m.length) : Op.bytesLess l m = decide (bv l < bv m) := by rw [bv_eq, bv_eq]; exact bless_num h
instance l4key {s : Sg} : L4 (bcells s.key) := ⟨rfl⟩
end Go.Proofs.Ytagmnpeilgnbdaa.A

namespace Go.Proofs.Ytagmnpeilgnbdaa.A
open Go Go.Vm
set_option maxRecDepth 10000
set_option linter.unusedVariables false
structure DbAt (h : Heap) (w : Nat) (v : Value) (most : Int) (L : List Sg) : Prop where
  g : h.get w = .cells [.int .i64 most, v] 0
  lw : w < h.n
  ow : Own h 37 v (gcells L) L.length
  ap : ¬ ownedBy v w
  len : L.length < 256
theorem DbAt.keep {S : Nat → Prop} {h h' : Heap} {w : Nat} {v : Value} {most : Int} {L : List Sg} (a : DbAt h w v most L) (hf : Fr S h h') (h1 : ¬ S w) (h2 : ∀ i, ownedBy v i → ¬ S i) : DbAt h' w v most L :=
  ⟨by rw [hf.get _ a.lw h1]; exact a.g, hf.lt a.lw, a.ow.keep hf h2, a.ap, a.len⟩
theorem at_eq {L : List Sg} {k : Nat} (hk : k < L.length) : at' L k = L[k] := by simp only [at', List.getD_eq_getElem?_getD, List.getElem?_eq_getElem hk, Option.getD_some]
instance grG {s : Sg} : GrL s.cells := ⟨by
  have := groundG s
  simpa [ground, groundA] using this⟩
section
variable {h : Heap} {w : Nat} {v : Value} {most : Int} {L : List Sg} {s : Sg}
end
end Go.Proofs.Ytagmnpeilgnbdaa.A

namespace Go.Proofs.Ytagmnpeilgnbdaa.A
open Go Go.Vm
set_option maxRecDepth 10000
set_option linter.unusedVariables false
class OwnI (h : Heap) (size : Nat) (v : Value) : Prop where
  ok : ∃ c n, Own h size v c n
instance {h : Heap} {size : Nat} {v : Value} {o : AObj} [k : OwnI h size v] : OwnI (h.push o) size v := ⟨by
  obtain ⟨c, n, h1⟩ := k.ok
  exact ⟨c, n, h1.keep (S := fun _ => False) Fr.refl.push fun _ _ => id⟩⟩
section
variable {P : Program} {ts : List Value} {h h' : Heap} {size n i : Nat} {v : Value} {c : List Value} {x lo hi : Operand} {p : Int}
end
end Go.Proofs.Ytagmnpeilgnbdaa.A

namespace Go.Proofs.Ytagmnpeilgnbdaa.A
open Go Go.Vm
set_option maxRecDepth 10000
set_option linter.unusedVariables false
section
variable {P : Program} {T : Table} {ts : List Value} {ds : List Deferred} {h : Heap} {rd : Option Nat} {dst size bytes n m el : Nat} {zero : List Value} {zeros : Bool} {x y : Operand} {v w : Value} {c d : List Value} {chk : List (Option Nat × AOp × Option (Nat × Bool))} {pan : Bool} {rest : List AOper} {Q : QP} {F : Value → List Value}
end
end Go.Proofs.Ytagmnpeilgnbdaa.A

namespace Go.Proofs.Ytagmnpeilgnbdaa.A
open Go Go.Vm
set_option maxRecDepth 10000
set_option linter.unusedVariables false
section
variable {h : Heap} {w : Nat} {v : Value} {most : Int} {L : List Sg} {s : Sg}
end
end Go.Proofs.Ytagmnpeilgnbdaa.A

namespace Go.Proofs.Ytagmnpeilgnbdaa.A
open Go Go.Vm
set_option maxRecDepth 10000
set_option linter.unusedVariables false
theorem sub_in {c m r : List Value} {o n i j : Nat} (h1 : Sub c o n m) (h2 : Sub m i j r) : Sub c (o + i) j r := by
  have e1 := h1.eq
  have e2 := h2.eq
  have l1 := h1.le
  have l2 := h2.le
  have lm : m.length = n := by rw [← e1, List.length_take, List.length_drop]; omega
  refine ⟨by omega, ?_⟩
  rw [← e2, ← e1, List.drop_take, List.take_take, List.drop_drop, Nat.min_eq_left (by omega)]
section
variable {h : Heap} {w : Nat} {v : Value} {most : Int} {L : List Sg} {hs : List UInt8}
end
end Go.Proofs.Ytagmnpeilgnbdaa.A

namespace Go.Proofs.Ytagmnpeilgnbdaa.A
open Go Go.Vm
set_option maxRecDepth 10000
set_option linter.unusedVariables false
section
variable {h : Heap} {w : Nat} {v : Value} {most : Int} {L : List Sg}
end
end Go.Proofs.Ytagmnpeilgnbdaa.A

namespace Go.Proofs.Ytagmnpeilgnbdaa.A
open Go Go.Vm
set_option maxRecDepth 10000
set_option linter.unusedVariables false
section
variable {h : Heap} {a b : Value} {L : List Sg} {K : List K4}
set_option maxHeartbeats 4000000 in
theorem SameSigs_same (ha : Own h 37 a (gcells L) L.length) (hb : Own h 37 b (gcells L) L.length) (hl : L.length < 100000) :
    Runs Try.prog T0 (.fn fn_zhQ) [a, b] h (fun r h' => r = .bool true ∧ h' = h) (fun _ _ => False) := by
  obtain ⟨aa, ca, rfl, _, _⟩ := id ha.rd
  obtain ⟨ab, cb, rfl, _, _⟩ := id hb.rd
  refine zhQ_runs ?_
  haveI q0 : ∀ {ts : List Value} {h : Heap} {O : Oper} {x z : Operand} [Ev ts x (.int .i64 (L.length : Nat))] [Ev ts z (.int .i64 (L.length : Nat))], XOp Try.prog ts h (.bin .eql O x z) (.bool true) h := xeql1 rfl
  refine stp ?_
  refine loop2 zhQ_l0_M 5 6 (fun q v5 v6 hx => ∃ k : Nat, k ≤ L.length ∧ q = L.length - k ∧ v5 = .bool true ∧ v6 = .int .i64 k ∧ hx = h) ?_ L.length ⟨0, by omega, rfl, rfl, rfl, rfl⟩
  rintro m v5 v6 h' x12 x13 x14 x15 x16 x17 x18 x19 x20 x21 x22 x23 x24 x25 x26 x27 x28 x29 ⟨k, hk, rfl, rfl, rfl, rfl⟩
  rcases Nat.lt_or_ge k L.length with hlt | hge
  · haveI q1 : ∀ {ts : List Value} {h : Heap} {O : Oper} {x z : Operand} [Ev ts x (.int .i64 (k : Nat))] [Ev ts z (.int .i64 (L.length : Nat))], XOp Try.prog ts h (.bin .lss O x z) (.bool true) h := xlss1 (by omega)
    obtain ⟨q, sx, cap, j, e, hq, hg⟩ := own_atG ha (by omega)
    obtain ⟨q', sx', cap', j', e', hq', hg'⟩ := own_atG hb (by omega)
    cases e
    cases e'
    haveI : HGet h' q (.cells (gcells L ++ j) 37) := ⟨hg⟩
    haveI : HGet h' q' (.cells (gcells L ++ j') 37) := ⟨hg'⟩
    haveI : Sub (gcells L ++ j) (k * 37) 37 (at' L k).cells := gsub hlt
    haveI : Sub (gcells L ++ j') (k * 37) 37 (at' L k).cells := gsub hlt
    haveI : IdxOff 0 (k : Int) 37 (k * 37) := ⟨by omega⟩
    refine stp ?_
    rw [same_self]
    exact loop2a 5 6 (L.length - (k + 1)) (by omega) ⟨k + 1, by omega, rfl, rfl, rfl, rfl⟩
  · obtain rfl : k = L.length := by omega
    haveI q1 : ∀ {ts : List Value} {h : Heap} {O : Oper} {x z : Operand} [Ev ts x (.int .i64 (L.length : Nat))] [Ev ts z (.int .i64 (L.length : Nat))], XOp Try.prog ts h (.bin .lss O x z) (.bool false) h := xlss0 (by omega)
    refine stp ?_
    exact ⟨rfl, rfl⟩
theorem ksub {l : List K4} {j : List Value} {i : Nat} (hi : i < l.length) : Sub (kcells l ++ j) (i * 4) 4 (l[i]).cells := by
  have e : l = l.take i ++ l[i] :: l.drop (i + 1) := by rw [List.getElem_cons_drop, List.take_append_drop]
  have h1 : (kcells (l.take i)).length = i * 4 := by rw [kcells_len, List.length_take, Nat.min_eq_left (by omega)]
  have h2 : kcells l ++ j = kcells (l.take i) ++ ((l[i]).cells ++ (kcells (l.drop (i + 1)) ++ j)) := by
    conv => lhs; rw [e]
    rw [kcells_append, show kcells (l[i] :: l.drop (i + 1)) = (l[i]).cells ++ kcells (l.drop (i + 1)) from rfl]
    simp only [List.append_assoc]
  refine ⟨by rw [List.length_append, kcells_len]; omega, ?_⟩
  rw [h2, ← h1, List.drop_left]
  rfl
end
end Go.Proofs.Ytagmnpeilgnbdaa.A

namespace Go.Proofs.Ytagmnpeilgnbdaa.A
open Go Go.Vm
set_option maxRecDepth 10000
set_option linter.unusedVariables false
end Go.Proofs.Ytagmnpeilgnbdaa.A

namespace Go.Proofs.Ytagmnpeilgnbdaa.A
open Go Go.Vm
set_option maxRecDepth 10000
set_option linter.unusedVariables false
end Go.Proofs.Ytagmnpeilgnbdaa.A

namespace Go.Proofs.Ytagmnpeilgnbdaa.A
open Go Go.Vm
set_option maxRecDepth 10000
set_option linter.unusedVariables false
theorem lget_pre : ∀ (l m : List Value) (k : Nat), k < l.length → lget (l ++ m) k = lget l k
  | [], _, _, h => by simp at h
  | a :: l, m, 0, _ => rfl
  | a :: l, m, k + 1, h => lget_pre l m k (by simpa using h)
theorem byte_cell {h : Heap} {q es k : Nat} {l : List UInt8} {j : List Value} (hg : h.get q = .cells (bcells l ++ j) es) (hk : k < l.length) : Cell h q k (.int .u8 ((l.getD k 0).toNat : Nat)) := ⟨by
  rw [cellsAt_of (c := bcells l ++ j) (by rw [hg]; rfl) (by simp [bcells_len]; omega), take_one _ _ (by simp [bcells_len]; omega), lget_pre _ _ _ (by rw [bcells_len]; exact hk), (bcells_get hk).eq]⟩
end Go.Proofs.Ytagmnpeilgnbdaa.A

namespace Go.Proofs.Ytagmnpeilgnbdaa.A
open Go Go.Vm
set_option maxRecDepth 10000
set_option linter.unusedVariables false
section
variable {h : Heap} {p m c w : Nat} {l : List GEnt} {v : Value} {most : Int} {L : List Sg} {s : Sg}
end
end Go.Proofs.Ytagmnpeilgnbdaa.A
