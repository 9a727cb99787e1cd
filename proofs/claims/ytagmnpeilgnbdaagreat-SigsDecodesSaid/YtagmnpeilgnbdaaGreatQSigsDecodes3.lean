/- Contracts of functions, over the machine. -/
import Derived.Test.YtagmnpeilgnbdaaGreatQSigsDecodes2
import Derived.Test.YtagmnpeilgnbdaaGreatVK
import Derived.Test.YtagmnpeilgnbdaaGreatVJ
import Derived.Test.YtagmnpeilgnbdaaGreatVI
set_option linter.unusedSimpArgs false
set_option linter.unusedSectionVars false
noncomputable section
namespace Go.Proofs.YtagmnpeilgnbdaaGreat.A
open Go Go.Vm
set_option maxRecDepth 10000
set_option linter.unusedVariables false
theorem gcells_take {L : List Sg} {k : Nat} (hk : k < L.length) : gcells (L.take k) ++ (at' L k).cells = gcells (L.take (k + 1)) := by
  have e : at' L k = L[k] := by simp only [at', List.getD_eq_getElem?_getD, List.getElem?_eq_getElem hk, Option.getD_some]
  rw [List.take_succ_eq_append_getElem hk, gcells_append, e, show gcells [L[k]] = L[k].cells from List.append_nil _]
theorem own_atG {h : Heap} {v : Value} {L : List Sg} (ho : Own h 37 v (gcells L) L.length) (hp : 0 < L.length) : ∃ (q s cap : Nat) (j : List Value), v = .slice (some ⟨q, 0, some s⟩) L.length cap ∧ q < h.n ∧ h.get q = .cells (gcells L ++ j) 37 := by
  generalize hc : gcells L = c at *
  generalize hn : L.length = n at *
  cases ho with
  | none => omega
  | lit => omega
  | grown hq h0 hle h1 h2 hg => exact ⟨_, _, _, _, rfl, hq, hg⟩
section
variable {h : Heap} {p m c : Nat} {l : List GEnt} {most : Int} {L : List Sg} {s : Sg}
set_option maxHeartbeats 4000000 in
theorem gList_ok (ha : TbAt h p m c l most L) :
    Runs Tryz.prog T0 (.fn fn_zvbQ) [.pointer (some ⟨p, 0, none⟩)] h
      (fun r h' => Own h' 37 r (gcells L) L.length ∧ (∀ i, ownedBy r i → h.n ≤ i) ∧ Fr (fun _ => False) h h') (fun _ _ => False) := by
  have hl := ha.len
  refine zvbQ_runs ?_
  refine stp ?_
  refine O.call' (gnone_ok ha) (fun r h0 hr => ?_)
  obtain ⟨rfl, rfl⟩ := hr
  refine stp ?_
  refine O.call' (gsorted_ok ha) (fun r h1 hr => ?_)
  obtain ⟨ho, hnew, f1⟩ := hr
  have n1 := f1.n
  obtain ⟨a, cc, rfl, _, _⟩ := id ho.rd
  refine stp ?_
  refine loop2 zvbQ_l0_M 2 10 (fun q v2 v10 hx => ∃ k : Nat, k ≤ L.length ∧ q = L.length - k ∧ v10 = .int .i64 k ∧ Own hx 37 v2 (gcells (L.take k)) k ∧ (∀ i, ownedBy v2 i → h1.n ≤ i) ∧ Fr (fun _ => False) h1 hx) ?_ L.length ⟨0, by omega, rfl, rfl, .none, fun i hi => hi.elim, Fr.refl⟩
  rintro m v2 v10 h' x4 x11 x12 x13 x14 x15 x16 x17 x18 ⟨k, hk, rfl, rfl, ho2, hn2, hF⟩
  have nF := hF.n
  obtain ⟨a2, c2, e2, _, _⟩ := id ho2.rd
  subst e2
  rcases Nat.lt_or_ge k L.length with hlt | hge
  · haveI q1 : ∀ {ts : List Value} {h : Heap} {O : Oper} {x z : Operand} [Ev ts x (.int .i64 (k : Nat))] [Ev ts z (.int .i64 (L.length : Nat))], XOp Tryz.prog ts h (.bin .lss O x z) (.bool true) h := xlss1 (by omega)
    obtain ⟨q, sx, cap, j, e, hq, hg⟩ := own_atG ho (by omega)
    cases e
    haveI : HGet h' q (.cells (gcells L ++ j) 37) := ⟨by rw [hF.get _ hq id]; exact hg⟩
    haveI : BLt q h' := ⟨hF.lt hq⟩
    haveI : IdxOff 0 (k : Int) 37 (k * 37) := ⟨by omega⟩
    haveI : Sub (gcells L ++ j) (k * 37) 37 (at' L k).cells := gsub hlt
    refine stp ?_
    refine O.append (ho2.keep Fr.refl.push.push (fun _ _ => id)) (one_sig (s := at' L k)) (by rw [Sg.len]) (Sg.ones _) (by decide) (by decide) (by omega) (fun v6 h6 o6 f6 n6 => ?_)
    rw [gcells_take hlt] at o6
    refine stp ?_
    refine loop2a 2 10 (L.length - (k + 1)) (by omega) ⟨k + 1, by omega, rfl, rfl, o6, fun i hi => ?_, hF.trans (Fr.trans' (S := ownedBy (.slice a2 k c2)) Fr.refl.push.push f6) fun i hi q => by have := hn2 i q; omega⟩
    rcases n6 i hi with q | q
    · exact hn2 i q
    · simp only [Heap.n_push] at q
      omega
  · obtain rfl : k = L.length := by omega
    haveI q1 : ∀ {ts : List Value} {h : Heap} {O : Oper} {x z : Operand} [Ev ts x (.int .i64 (L.length : Nat))] [Ev ts z (.int .i64 (L.length : Nat))], XOp Tryz.prog ts h (.bin .lss O x z) (.bool false) h := xlss0 (by omega)
    refine stp ?_
    rw [List.take_length] at ho2
    exact ⟨ho2, fun i hi => by have := hn2 i hi; omega, f1.trans' hF⟩
end
end Go.Proofs.YtagmnpeilgnbdaaGreat.A

namespace Go.Proofs.YtagmnpeilgnbdaaGreat.A
open Go Go.Vm
set_option maxRecDepth 10000
set_option linter.unusedVariables false
section
variable {P : Program} {T : Table} {ts : List Value} {ds : List Deferred} {h : Heap} {rd : Option Nat} {d : Nat} {chk : List (Option Nat × AOp × Option (Nat × Bool))} {pan : Bool} {rest : List AOper} {Q : QP} {F : Value → List Value}
theorem O.yieldT {t : Nat} {b : Bool} {l : Nat} {f : Operand} {args : List Operand} {vs : List Value} [g : LGet ts t (.bool b)] [e : Ev ts f (.func (.yield l) ⟨[]⟩ ⟨[]⟩)] [k : EvL ts args vs] [s : LSetF ts d F] {R : RP}
    (hr : Runs P T (.yield l) vs h R (fun _ _ => False)) (hk : ∀ v h', R v h' → RunO P T rest ⟨F v, ds, h', rd⟩ Q) :
    RunO P T (⟨some d, .callV f args, some (t, b), chk, pan⟩ :: rest) ⟨ts, ds, h, rd⟩ Q :=
  RunO.cons (by simp only [wantedT, g.eq]; cases b <;> rfl) (fun _ _ e => by cases e) (RunX.call (t := .yield l) (vs := vs) (by simp only [e.eq, k.eq, target]) (Runs.mono hr (fun v h' hv => by
    show RunO P T rest ⟨lset ts d v, ds, h', rd⟩ Q
    rw [s.eq]; exact hk v h' hv) (fun _ _ h => h.elim)))
end
theorem same_bytes {l m : List UInt8} : same (bcells l) (bcells m) = decide (l = m) := by
  by_cases h : l = m
  · subst h
    rw [same_self]
    simp
  · rw [decide_eq_false h]
    refine same_ne.2 fun q => h ?_
    have hb : ∀ {l m : List UInt8}, bcells l = bcells m → l = m := fun {l} => by
      induction l with
      | nil => intro m h; cases m with | nil => rfl | cons _ _ => simp [bcells] at h
      | cons x l ih =>
        intro m h
        cases m with
        | nil => simp [bcells] at h
        | cons y m =>
          simp only [bcells, List.map_cons, List.cons.injEq, Value.int.injEq, true_and] at h
          have h1 : x.toNat = y.toNat := by omega
          rw [UInt8.toNat_inj.1 h1, ih h.2]
    exact hb q
instance l32H {s : Sg} : L32 (bcells s.hash) := ⟨by rw [bcells_len, s.hl]⟩
set_option maxHeartbeats 8000000 in
theorem over1_ok {h : Heap} {bt bh p m c y : Nat} {l : List GEnt} {most : Int} {L : List Sg} {hs : List UInt8} {W : Nat → Prop} {I : Nat → Nat → Heap → Prop} (hl : hs.length = 32) (hbt : h.get bt = .cells [.pointer (some ⟨p, 0, none⟩)] 0) (lt : bt < h.n) (hbh : h.get bh = .cells (bcells hs) 0) (lh : bh < h.n) (ha : TbAt h p m c l most L) (hW1 : ¬ W bh) (hW2 : ∀ i, h.n ≤ i → ¬ W i)
    (h0 : ∀ hx, Fr (fun _ => False) h hx → I hx.n 0 hx)
    (hk : ∀ N k hx hx', I N k hx → Fr (fun _ => False) hx hx' → I N k hx')
    (hskip : ∀ N k hx, k < L.length → (at' L k).hash ≠ hs → I N k hx → I N (k + 1) hx)
    (hr : ∀ N k hx, I N k hx → N ≤ hx.n → k < L.length → (at' L k).hash = hs → Runs Tryz.prog T0 (.yield y) [.agg ⟨bcells (at' L k).key⟩] hx (fun r h' => r = .bool true ∧ I N (k + 1) h' ∧ Fr (fun i => W i ∨ N ≤ i) hx h') (fun _ _ => False)) :
    Runs Tryz.prog T0 (.fn fn_zzbQ) [.func (.yield y) ⟨[]⟩ ⟨[]⟩, .pointer (some ⟨bt, 0, none⟩), .pointer (some ⟨bh, 0, none⟩)] h (fun _ h' => ∃ N, I N L.length h') (fun _ _ => False) := by
  have hll := ha.len
  haveI : HGet h bt _ := ⟨hbt⟩
  haveI : BLt bt h := ⟨lt⟩
  refine zzbQ_runs ?_
  refine stp ?_
  refine O.call' (gsorted_ok ha) (fun r h1 hr1 => ?_)
  obtain ⟨ho, hnew, f1⟩ := hr1
  have n1 := f1.n
  obtain ⟨a, cc, rfl, _, _⟩ := id ho.rd
  have i0 := h0 h1 f1
  refine stp ?_
  refine loop1 zzbQ_l0_M 9 (fun q v9 hx => ∃ k : Nat, k ≤ L.length ∧ q = L.length - k ∧ v9 = .int .i64 k ∧ I h1.n k hx ∧ Fr (fun i => W i ∨ h1.n ≤ i) h1 hx) ?_ L.length ⟨0, by omega, rfl, rfl, i0, Fr.refl⟩
  rintro m v9 h' x5 x10 x11 x12 x13 x14 x15 x16 x17 x18 x19 x20 x21 x22 x23 x24 ⟨k, hkl, rfl, rfl, hi, hF⟩
  have nF := hF.n
  rcases Nat.lt_or_ge k L.length with hlt | hge
  · haveI q1 : ∀ {ts : List Value} {h : Heap} {O : Oper} {x z : Operand} [Ev ts x (.int .i64 (k : Nat))] [Ev ts z (.int .i64 (L.length : Nat))], XOp Tryz.prog ts h (.bin .lss O x z) (.bool true) h := xlss1 (by omega)
    obtain ⟨q, sx, cap, j, e, hq, hg⟩ := own_atG ho (by omega)
    cases e
    have hqn := hnew q rfl
    have gq : h'.get q = .cells (gcells L ++ j) 37 := by rw [hF.get _ hq (fun e => e.elim (hW2 _ hqn) (by omega))]; exact hg
    have gh : h'.get bh = .cells (bcells hs) 0 := by rw [hF.get _ (by omega) (fun e => e.elim hW1 (by omega)), f1.get _ lh id]; exact hbh
    haveI : HGet h' q (.cells (gcells L ++ j) 37) := ⟨gq⟩
    haveI : HGet h' bh (.cells (bcells hs) 0) := ⟨gh⟩
    haveI : BLt q h' := ⟨by omega⟩
    haveI : BLt bh h' := ⟨by omega⟩
    haveI : IdxOff 0 (k : Int) 37 (k * 37) := ⟨by omega⟩
    haveI : Sub (gcells L ++ j) (k * 37) 37 (at' L k).cells := gsub hlt
    haveI : L32 (bcells hs) := ⟨by rw [bcells_len, hl]⟩
    haveI : Sub (bcells hs) 0 32 (bcells hs) := ⟨by rw [bcells_len, hl]; decide, by rw [List.drop_zero, List.take_of_length_le (by rw [bcells_len, hl]; decide)]⟩
    refine stp ?_
    rw [same_bytes]
    by_cases hh : (at' L k).hash = hs
    · rw [decide_eq_true hh]
      refine stp ?_
      refine O.yieldT (hr h1.n k _ (hk _ _ _ _ hi Fr.refl.push) (by simp; omega) hlt hh) (fun r h2 hr2 => ?_)
      obtain ⟨rfl, i2, f2⟩ := hr2
      refine stp ?_
      exact loop1a 9 (L.length - (k + 1)) (by omega) ⟨k + 1, by omega, rfl, rfl, i2, Fr.trans' (hF.trans' (Fr.refl.push (S := fun i => W i ∨ h1.n ≤ i))) f2⟩
    · rw [decide_eq_false hh]
      refine stp ?_
      exact loop1a 9 (L.length - (k + 1)) (by omega) ⟨k + 1, by omega, rfl, rfl, hk _ _ _ _ (hskip _ _ _ hlt hh hi) Fr.refl.push, hF.trans' (Fr.refl.push (S := fun i => W i ∨ h1.n ≤ i))⟩
  · obtain rfl : k = L.length := by omega
    haveI q1 : ∀ {ts : List Value} {h : Heap} {O : Oper} {x z : Operand} [Ev ts x (.int .i64 (L.length : Nat))] [Ev ts z (.int .i64 (L.length : Nat))], XOp Tryz.prog ts h (.bin .lss O x z) (.bool false) h := xlss0 (by omega)
    refine stp ?_
    exact ⟨_, hi⟩
end Go.Proofs.YtagmnpeilgnbdaaGreat.A

namespace Go.Proofs.YtagmnpeilgnbdaaGreat.A
open Go Go.Vm
set_option maxRecDepth 10000
set_option linter.unusedVariables false
structure K4 where
  a : UInt8
  b : UInt8
  c : UInt8
  d : UInt8
abbrev K4.bs (k : K4) : List UInt8 := [k.a, k.b, k.c, k.d]
abbrev K4.cells (k : K4) : List Value := bcells k.bs
noncomputable instance : DecidableEq K4 := fun _ _ => Classical.propDecidable _
instance {k : K4} : LenN k.cells 4 := ⟨rfl⟩
instance {k : K4} : One k.cells := ⟨rfl⟩
instance l4k {k : K4} : L4 k.cells := ⟨rfl⟩
instance overK {k : K4} : Over [.int .u8 0, .int .u8 0, .int .u8 0, .int .u8 0] 0 k.cells k.cells := ⟨by show 0 + 4 ≤ 4; decide, rfl⟩
instance subK {k : K4} : Sub k.cells 0 4 k.cells := ⟨by show 0 + 4 ≤ 4; decide, rfl⟩
abbrev Sg.k4 (s : Sg) : K4 := ⟨s.k0, s.k1, s.k2, s.k3⟩
def kcells (l : List K4) : List Value := l.flatMap K4.cells
theorem kcells_append (l m : List K4) : kcells (l ++ m) = kcells l ++ kcells m := by simp [kcells]
theorem kcells_len : ∀ l : List K4, (kcells l).length = l.length * 4
  | [] => rfl
  | k :: l => by
    rw [show kcells (k :: l) = k.cells ++ kcells l from rfl, List.length_append, kcells_len l, List.length_cons]
    show 4 + _ = _
    omega
theorem ksub_last {l : List K4} {k : K4} {j : List Value} : Sub (kcells (l ++ [k]) ++ j) (l.length * 4) 4 k.cells := by
  refine ⟨by rw [List.length_append, kcells_len, List.length_append, List.length_singleton]; omega, ?_⟩
  rw [kcells_append, List.append_assoc, ← kcells_len, List.drop_left]
  rfl
theorem one_key {h : Heap} {k : K4} {es : Nat} : newCells (h.push (.cells k.cells es)) 4 [.int .u8 0, .int .u8 0, .int .u8 0, .int .u8 0] false (.slice (some ⟨h.n, 0, none⟩) 1 1) = some (1, k.cells) :=
  (Rd.mk (size := 4) (n := 1) (cap := 1) (sp := none) (o := 0) (b := h.n) (c := k.cells) (by simp) (by rw [cellsAt_of (c := k.cells) (by rw [Heap.get_push, if_pos rfl]; rfl) (by show 0 + 1 * 4 ≤ 4; decide), List.drop_zero, List.take_of_length_le (by show 4 ≤ 1 * 4; decide)])).new _
def pushK (out : List K4) (k : K4) : List K4 := if out.getLast? = some k then out else out ++ [k]
def whoG (hs : List UInt8) (L : List Sg) : List K4 := L.foldl (fun out s => if s.hash = hs then pushK out s.k4 else out) []
theorem pushK_len {out : List K4} {k : K4} : (pushK out k).length ≤ out.length + 1 := by
  unfold pushK
  split
  · omega
  · simp
theorem K4.ext' {k m : K4} (h : k.bs = m.bs) : k = m := by
  obtain ⟨a, b, c, d⟩ := k
  obtain ⟨a', b', c', d'⟩ := m
  simp only [K4.bs, List.cons.injEq, and_true] at h
  obtain ⟨rfl, rfl, rfl, rfl⟩ := h
  rfl
theorem own_atK {h : Heap} {v : Value} {L : List K4} (ho : Own h 4 v (kcells L) L.length) (hp : 0 < L.length) : ∃ (q s cap : Nat) (j : List Value), v = .slice (some ⟨q, 0, some s⟩) L.length cap ∧ q < h.n ∧ h.get q = .cells (kcells L ++ j) 4 := by
  generalize hc : kcells L = c at *
  generalize hn : L.length = n at *
  cases ho with
  | none => omega
  | lit => omega
  | grown hq h0 hle h1 h2 hg => exact ⟨_, _, _, _, rfl, hq, hg⟩
set_option maxHeartbeats 8000000 in
theorem who_round {h : Heap} {lp p4 : Nat} {k : K4} {v : Value} {out : List K4} {f0 f1 f2 f3 f5 f6 f7 f8 f9 f10 f11 f12 f13 f14 f15 f16 f17 f18 f19 f20 f21 f22 f23 f24 f25 f26 f27 f28 f29 : Value}
    (hlp : h.get lp = .loop .ready none [f0, f1, f2, f3, .pointer (some ⟨p4, 0, none⟩), f5, f6, f7, f8, f9, f10, f11, f12, f13, f14, f15, f16, f17, f18, f19, f20, f21, f22, f23, f24, f25, f26, f27, f28, f29] [11] zwbQ_ra0 zwbQ_rb0)
    (h4 : h.get p4 = .cells [v] 0) (ho : Own h 4 v (kcells out) out.length) (hL : out.length < 100000) (hv : ∀ i, ownedBy v i → i ≠ lp ∧ i ≠ p4) (ll : lp < h.n) (l4 : p4 < h.n) (n4 : p4 ≠ lp) :
    Runs Tryz.prog T0 (.yield lp) [.agg ⟨k.cells⟩] h (fun r g => r = .bool true ∧ g.get lp = .loop .ready none [f0, f1, f2, f3, .pointer (some ⟨p4, 0, none⟩), f5, f6, f7, f8, f9, f10, f11, f12, f13, f14, f15, f16, f17, f18, f19, f20, f21, f22, f23, f24, f25, f26, f27, f28, f29] [11] zwbQ_ra0 zwbQ_rb0 ∧
      (∃ v', g.get p4 = .cells [v'] 0 ∧ Own g 4 v' (kcells (pushK out k)) (pushK out k).length ∧ (∀ i, ownedBy v' i → ownedBy v i ∨ h.n ≤ i)) ∧ Fr (fun i => i = lp ∨ i = p4 ∨ ownedBy v i) h g) (fun _ _ => False) := by
  haveI : HGet h lp _ := ⟨hlp⟩
  haveI : HGet h p4 _ := ⟨h4⟩
  haveI : BLt lp h := ⟨ll⟩
  haveI : BLt p4 h := ⟨l4⟩
  haveI : BNe p4 lp := ⟨n4⟩
  haveI : BNe lp p4 := ⟨fun e => n4 e.symm⟩
  obtain ⟨av, cv, rfl, _, _⟩ := id ho.rd
  refine Runs.round hlp put_one rfl zwbQ_na0 zwbQ_nb0 zwbQ_ca0 zwbQ_cb0 ?_
  refine stp ?_
  refine A.go ?_
  rcases List.eq_nil_or_concat out with rfl | ⟨out', k', rfl⟩
  · haveI q1 : ∀ {ts : List Value} {h : Heap} {O : Oper} {x z : Operand} [Ev ts x (.int .i64 (([] : List K4).length : Nat))] [Ev ts z (.int .i64 0)], XOp Tryz.prog ts h (.bin .eql O x z) (.bool true) h := xeql1 rfl
    refine stp ?_
    refine O.append (ho.keep (S := fun i => i = lp) ((Fr.refl.push.set (S := fun i => i = lp) fun _ => rfl).push) fun b hb e => (hv b hb).1 e) (one_key (k := k)) rfl rfl (by decide) (by decide) (by omega) (fun v6 h6 ho6 hf6 hn6 => ?_)
    have hpk : pushK [] k = [] ++ [k] := by simp [pushK]
    have hpl : (pushK [] k).length = ([] : List K4).length + 1 := by rw [hpk]; exact List.length_append
    have q6 := hf6.n
    simp only [Heap.n_set, Heap.n_push] at q6 hn6
    haveI := hf6.keep (b := lp) inferInstance (by simp; omega) (fun e => (hv lp e).1 rfl)
    haveI := hf6.keep (b := p4) (o := .cells [.slice av ([] : List K4).length cv] 0) inferInstance (by simp; omega) (fun e => (hv p4 e).2 rfl)
    haveI : BLt lp h6 := ⟨by omega⟩
    haveI : BLt p4 h6 := ⟨by omega⟩
    have F6 : Fr (fun i => i = lp ∨ ownedBy (.slice av ([] : List K4).length cv) i) h h6 := (((Fr.refl.push).set (S := fun i => i = lp ∨ ownedBy (.slice av ([] : List K4).length cv) i) fun _ => .inl rfl).push).trans' (hf6.mono fun _ _ e => .inr e)
    obtain ⟨a6, c6, rfl, _, _⟩ := id ho6.rd
    refine stp ?_
    refine A.on ?_
    have fS : ∀ {A B : AObj}, Fr (fun i => i = p4 ∨ i = lp) h6 ((h6.set p4 A).set lp B) := fun {A B} => (Fr.refl.set fun _ => .inl rfl).set fun _ => .inr rfl
    refine ⟨rfl, by rw [Heap.get_set, if_pos rfl], ⟨_, by rw [Heap.get_set, if_neg n4, Heap.get_set, if_pos rfl], ?_, fun i hi => ?_⟩, (F6.mono fun _ _ e => e.elim .inl fun e => .inr (.inr e)).trans' (fS.mono fun _ _ e => e.elim (fun e => .inr (.inl e)) .inl)⟩
    · rw [hpl, hpk, kcells_append, show kcells [k] = k.cells from List.append_nil _]
      exact ho6.keep fS fun b hb e => by
        rcases hn6 b hb with h7 | h7
        · have := hv b h7; omega
        · omega
    · rcases hn6 i hi with h7 | h7
      · exact .inl h7
      · exact .inr (by omega)
  · rw [List.concat_eq_append] at *
    haveI q1 : ∀ {ts : List Value} {h : Heap} {O : Oper} {x z : Operand} [Ev ts x (.int .i64 ((out' ++ [k']).length : Nat))] [Ev ts z (.int .i64 0)], XOp Tryz.prog ts h (.bin .eql O x z) (.bool false) h := xeql0 (by simp; omega)
    obtain ⟨q, sx, cap, j, e, hq, hg⟩ := own_atK ho (by simp)
    cases e
    have hqv := hv q rfl
    haveI : HGet h q (.cells (kcells (out' ++ [k']) ++ j) 4) := ⟨hg⟩
    haveI : BLt q h := ⟨hq⟩
    haveI : BNe q lp := ⟨hqv.1⟩
    haveI : BNe q p4 := ⟨hqv.2⟩
    haveI : IdxOff 0 (((out' ++ [k']).length : Int) - 1) 4 (out'.length * 4) := ⟨by simp⟩
    haveI : Sub (kcells (out' ++ [k']) ++ j) (out'.length * 4) 4 k'.cells := ksub_last
    haveI q2 : ∀ {ts : List Value} {h : Heap} {x z : Operand} [Ev ts x (.slice (some ⟨q, 0, some sx⟩) (out' ++ [k']).length cv)] [Ev ts z (.int .i64 (((out' ++ [k']).length : Int) - 1))], XOp Tryz.prog ts h (.indexSl 4 x z) (.pointer (some ⟨q, out'.length * 4, none⟩)) h := XOp.mkIndexSl (by simp; omega)
    refine stp ?_
    rw [same_bytes]
    by_cases hkk : k' = k
    · subst hkk
      rw [decide_eq_true rfl]
      refine stp ?_
      refine A.on ?_
      have hpk : pushK (out' ++ [k']) k' = out' ++ [k'] := by simp [pushK]
      rw [hpk]
      have fS : ∀ {A B : AObj}, Fr (fun i => i = lp) h (((h.push (.cells k'.cells 0)).set lp A).set lp B) := fun {A B} => ((Fr.refl.push).set (S := fun i => i = lp) fun _ => rfl).set fun _ => rfl
      refine ⟨rfl, by rw [Heap.get_set, if_pos rfl], ⟨_, ?_, ho.keep fS fun b hb e => (hv b hb).1 e, fun i hi => .inl hi⟩, fS.mono fun _ _ e => .inl e⟩
      rw [fS.get _ l4 n4]
      exact h4
    · rw [decide_eq_false (fun e => hkk (K4.ext' e))]
      refine stp ?_
      refine O.append (ho.keep (S := fun i => i = lp) ((Fr.refl.push.set (S := fun i => i = lp) fun _ => rfl).push) fun b hb e => (hv b hb).1 e) (one_key (k := k)) rfl rfl (by decide) (by decide) (by omega) (fun v6 h6 ho6 hf6 hn6 => ?_)
      have hpk : pushK (out' ++ [k']) k = (out' ++ [k']) ++ [k] := by simp [pushK, hkk]
      have hpl : (pushK (out' ++ [k']) k).length = ((out' ++ [k']) : List K4).length + 1 := by rw [hpk]; exact List.length_append
      have q6 := hf6.n
      simp only [Heap.n_set, Heap.n_push] at q6 hn6
      haveI := hf6.keep (b := lp) inferInstance (by simp; omega) (fun e => (hv lp e).1 rfl)
      haveI := hf6.keep (b := p4) (o := .cells [.slice (some ⟨q, 0, some sx⟩) (out' ++ [k']).length cv] 0) inferInstance (by simp; omega) (fun e => (hv p4 e).2 rfl)
      haveI : BLt lp h6 := ⟨by omega⟩
      haveI : BLt p4 h6 := ⟨by omega⟩
      have F6 : Fr (fun i => i = lp ∨ ownedBy (.slice (some ⟨q, 0, some sx⟩) (out' ++ [k']).length cv) i) h h6 := (((Fr.refl.push).set (S := fun i => i = lp ∨ ownedBy (.slice (some ⟨q, 0, some sx⟩) (out' ++ [k']).length cv) i) fun _ => .inl rfl).push).trans' (hf6.mono fun _ _ e => .inr e)
      obtain ⟨a6, c6, rfl, _, _⟩ := id ho6.rd
      refine stp ?_
      refine A.on ?_
      have fS : ∀ {A B : AObj}, Fr (fun i => i = p4 ∨ i = lp) h6 ((h6.set p4 A).set lp B) := fun {A B} => (Fr.refl.set fun _ => .inl rfl).set fun _ => .inr rfl
      refine ⟨rfl, by rw [Heap.get_set, if_pos rfl], ⟨_, by rw [Heap.get_set, if_neg n4, Heap.get_set, if_pos rfl], ?_, fun i hi => ?_⟩, (F6.mono fun _ _ e => e.elim .inl fun e => .inr (.inr e)).trans' (fS.mono fun _ _ e => e.elim (fun e => .inr (.inl e)) .inl)⟩
      · rw [hpl, hpk, kcells_append, show kcells [k] = k.cells from List.append_nil _]
        exact ho6.keep fS fun b hb e => by
          rcases hn6 b hb with h7 | h7
          · have := hv b h7; omega
          · omega
      · rcases hn6 i hi with h7 | h7
        · exact .inl h7
        · exact .inr (by omega)
theorem gover_ok {h : Heap} {p : Nat} {hs : List UInt8} (hl : hs.length = 32) : Runs Tryz.prog T0 (.fn fn_zybQ) [.pointer (some ⟨p, 0, none⟩), .agg ⟨bcells hs⟩] h (fun r h' => r = .func (.func fn_zzbQ) ⟨[]⟩ ⟨[.pointer (some ⟨h.n, 0, none⟩), .pointer (some ⟨h.n + 1, 0, none⟩)]⟩ ∧ h'.n = h.n + 2 ∧ h'.get h.n = .cells [.pointer (some ⟨p, 0, none⟩)] 0 ∧ h'.get (h.n + 1) = .cells (bcells hs) 0 ∧ Fr (fun _ => False) h h') (fun _ _ => False) := by
  haveI : L32 (bcells hs) := ⟨by rw [bcells_len, hl]⟩
  refine zybQ_runs ?_
  refine stp ?_
  exact ⟨rfl, rfl, by rw [Heap.get_push, if_neg (by simp), Heap.get_push, if_pos rfl], by rw [Heap.get_push, if_pos (by simp)], Fr.refl.push.push⟩
end Go.Proofs.YtagmnpeilgnbdaaGreat.A

namespace Go.Proofs.YtagmnpeilgnbdaaGreat.A
open Go Go.Vm
set_option maxRecDepth 10000
set_option linter.unusedVariables false
noncomputable abbrev wrec (p b3 p4 : Nat) (hs : List UInt8) (bt bh : Nat) : AObj := .loop .ready none [.pointer (some ⟨p, 0, none⟩), .agg ⟨bcells hs⟩, undef, .pointer (some ⟨b3, 0, none⟩), .pointer (some ⟨p4, 0, none⟩), undef, .pointer (some ⟨p, 0, none⟩), .bool false, .pointer (some ⟨p, 0, none⟩), .agg ⟨bcells hs⟩, .func (.func fn_zzbQ) ⟨[]⟩ ⟨[.pointer (some ⟨bt, 0, none⟩), .pointer (some ⟨bh, 0, none⟩)]⟩, undef, undef, undef, undef, undef, undef, undef, undef, undef, undef, undef, undef, undef, undef, undef, undef, undef, undef, undef] [11] zwbQ_ra0 zwbQ_rb0
theorem who_take {hs : List UInt8} {L : List Sg} {k : Nat} (hk : k < L.length) : whoG hs (L.take (k + 1)) = if (at' L k).hash = hs then pushK (whoG hs (L.take k)) (at' L k).k4 else whoG hs (L.take k) := by
  have e : at' L k = L[k] := by simp only [at', List.getD_eq_getElem?_getD, List.getElem?_eq_getElem hk, Option.getD_some]
  unfold whoG
  rw [List.take_succ_eq_append_getElem hk, List.foldl_append, e]
  rfl
theorem who_len {hs : List UInt8} {L : List Sg} : ∀ {k : Nat}, k ≤ L.length → (whoG hs (L.take k)).length ≤ k
  | 0, _ => by simp [whoG]
  | k + 1, h => by
    have := who_len (hs := hs) (L := L) (k := k) (by omega)
    rw [who_take (by omega)]
    split
    · have := pushK_len (out := whoG hs (L.take k)) (k := (at' L k).k4)
      omega
    · omega
section
variable {h : Heap} {p m c : Nat} {l : List GEnt} {most : Int} {L : List Sg} {s : Sg} {hs : List UInt8}
set_option maxHeartbeats 8000000 in
theorem gWho_ok (ha : TbAt h p m c l most L) (hl : hs.length = 32) :
    Runs Tryz.prog T0 (.fn fn_zwbQ) [.pointer (some ⟨p, 0, none⟩), .agg ⟨bcells hs⟩] h
      (fun r h' => Own h' 4 r (kcells (whoG hs L)) (whoG hs L).length ∧ (∀ i, ownedBy r i → h.n ≤ i) ∧ Fr (fun _ => False) h h') (fun _ _ => False) := by
  have hll := ha.len
  haveI : L32 (bcells hs) := ⟨by rw [bcells_len, hl]⟩
  haveI : Sub (bcells hs) 0 32 (bcells hs) := ⟨by rw [bcells_len, hl]; decide, by rw [List.drop_zero, List.take_of_length_le (by rw [bcells_len, hl]; decide)]⟩
  have F0 : Fr (fun _ => False) h ((h.push (.cells (bcells hs) 0)).push (.cells [.slice none 0 0] 0)) := Fr.refl.push.push
  have ha0 := ha.keep F0 id id
  have n0 : ((h.push (.cells (bcells hs) 0)).push (.cells [.slice none 0 0] 0)).n = h.n + 2 := rfl
  have g3 : ((h.push (.cells (bcells hs) 0)).push (.cells [.slice none 0 0] 0)).get h.n = .cells (bcells hs) 0 := by rw [Heap.get_push, if_neg (by simp), Heap.get_push, if_pos rfl]
  have g4 : ((h.push (.cells (bcells hs) 0)).push (.cells [.slice none 0 0] 0)).get (h.n + 1) = .cells [.slice none 0 0] 0 := by rw [Heap.get_push, if_pos (by simp)]
  refine zwbQ_runs ?_
  refine stp ?_
  simp only [Heap.n_push]
  generalize (h.push (.cells (bcells hs) 0)).push (.cells [.slice none 0 0] 0) = h0 at *
  refine O.call' (gnone_ok ha0) (fun r h1 hr => ?_)
  obtain ⟨rfl, rfl⟩ := hr
  haveI : HGet h1 h.n (.cells (bcells hs) 0) := ⟨g3⟩
  refine stp ?_
  refine O.call' (gover_ok hl) (fun r h2 hr => ?_)
  obtain ⟨rfl, n2, gt, gh, f2⟩ := hr
  refine stp ?_
  have FL : Fr (fun _ => False) h2 ((h2.push (.defs false)).push (wrec p h.n (h.n + 1) hs h1.n (h1.n + 1))) := Fr.refl.push.push
  have nl : ((h2.push (.defs false)).push (wrec p h.n (h.n + 1) hs h1.n (h1.n + 1))).n = h2.n + 2 := rfl
  have hd : (h2.push (.defs false)).n = h2.n + 1 := rfl
  have gq : ((h2.push (.defs false)).push (wrec p h.n (h.n + 1) hs h1.n (h1.n + 1))).get (h2.n + 1) = wrec p h.n (h.n + 1) hs h1.n (h1.n + 1) := HGet.new.eq
  have FQ : Fr (fun i => i = h2.n + 1 ∨ i = h.n + 1) (h2.push (.defs false)) ((h2.push (.defs false)).push (wrec p h.n (h.n + 1) hs h1.n (h1.n + 1))) := Fr.refl.push
  have ha2 := ha0.keep f2 id id
  have g42 : h2.get (h.n + 1) = .cells [.slice none 0 0] 0 := by rw [f2.get _ (by omega) id]; exact g4
  refine range_on (J := fun hx => (∃ (v : Value), hx.get (h.n + 1) = .cells [v] 0 ∧ Own hx 4 v (kcells (whoG hs L)) (whoG hs L).length ∧ ∀ i, ownedBy v i → h2.n + 2 ≤ i) ∧ Fr (fun i => i = h2.n + 1 ∨ i = h.n + 1) (h2.push (.defs false)) hx) ?_ (fun hx hJ => ?_)
  · show Runs _ _ _ _ ((h2.push (.defs false)).push (wrec p h.n (h.n + 1) hs h1.n (h1.n + 1))) _ _
    generalize ((h2.push (.defs false)).push (wrec p h.n (h.n + 1) hs h1.n (h1.n + 1))) = hq at *
    refine Runs.mono (over1_ok (W := fun i => i = h2.n + 1 ∨ i = h.n + 1) (I := fun N k hx => hx.get (h2.n + 1) = wrec p h.n (h.n + 1) hs h1.n (h1.n + 1) ∧ (∃ v, hx.get (h.n + 1) = .cells [v] 0 ∧ Own hx 4 v (kcells (whoG hs (L.take k))) (whoG hs (L.take k)).length ∧ ∀ i, ownedBy v i → N ≤ i) ∧ h2.n + 2 ≤ N ∧ h2.n + 2 ≤ hx.n ∧ Fr (fun i => i = h2.n + 1 ∨ i = h.n + 1) (h2.push (.defs false)) hx) hl (by rw [FL.get _ (by omega) id]; exact gt) (by omega) (by rw [FL.get _ (by omega) id]; exact gh) (by omega) (ha2.keep FL id id) (by omega) (fun i hi => by omega) ?_ ?_ ?_ ?_) (fun _ h' hh => ?_) (fun _ _ h => h)
    · intro hx hf
      have nf := hf.n
      refine ⟨by rw [hf.get _ (by omega) id]; exact gq, ⟨.slice none 0 0, ?_, by rw [List.take_zero]; exact .none, fun i hi => by cases hi⟩, by omega, by omega, ?_⟩
      · rw [hf.get _ (by omega) id, FL.get _ (by omega) id]
        exact g42
      · exact FQ.trans' (hf.mono fun _ _ e => e.elim)
    · rintro N k hx hx' ⟨i1, ⟨v, i2, i3, i4⟩, i5, i6, i7⟩ hf
      have nf := hf.n
      exact ⟨by rw [hf.get _ (by omega) id]; exact i1, ⟨v, by rw [hf.get _ (by omega) id]; exact i2, i3.keep hf fun _ _ => id, i4⟩, i5, by omega, i7.trans' (hf.mono fun _ _ e => e.elim)⟩
    · rintro N k hx hk hne ⟨i1, ⟨v, i2, i3, i4⟩, i5, i6, i7⟩
      refine ⟨i1, ⟨v, i2, ?_, i4⟩, i5, i6, i7⟩
      rw [who_take hk, if_neg hne]
      exact i3
    · rintro N k hx ⟨i1, ⟨v, i2, i3, i4⟩, i5, i6, i7⟩ hN hk heq
      have hwl := who_len (hs := hs) (L := L) (k := k) (by omega)
      refine Runs.mono (who_round (k := (at' L k).k4) i1 i2 i3 (by omega) (fun i hi => by have := i4 i hi; omega) (by omega) (by omega) (by omega)) (fun r h' hh => ?_) (fun _ _ h => h)
      obtain ⟨rfl, j1, ⟨v', j2, j3, j4⟩, j5⟩ := hh
      have nf := j5.n
      refine ⟨rfl, ⟨j1, ⟨v', j2, ?_, fun i hi => ?_⟩, i5, by omega, i7.trans j5 fun i hi e => ?_⟩, j5.mono fun i hi e => ?_⟩
      · rw [who_take hk, if_pos heq]
        exact j3
      · rcases j4 i hi with h7 | h7
        · exact i4 i h7
        · omega
      · rcases e with e | e | e
        · exact .inl e
        · exact .inr e
        · have := i4 i e
          omega
      · rcases e with e | e | e
        · exact .inl (.inl e)
        · exact .inl (.inr e)
        · exact .inr (i4 i e)
    · obtain ⟨N, i1, ⟨v, i2, i3, i4⟩, i5, i6, i7⟩ := hh
      rw [List.take_length] at i3
      exact ⟨i1, ⟨v, i2, i3, fun i hi => by have := i4 i hi; omega⟩, i7⟩
  · obtain ⟨⟨v, q4, ho, hnew⟩, hf⟩ := hJ
    have hxn := hf.n
    have FD : Fr (fun i => i = h2.n + 1 ∨ i = h.n + 1) h2 hx := Fr.trans' (Fr.refl.push (o := .defs false)) hf
    have hfx : Fr (fun _ => False) h hx := (F0.trans' f2).trans FD fun i hi e => by omega
    have gdf : hx.get h2.n = .defs false := by rw [hf.get _ (by omega) (by omega)]; exact HGet.new.eq
    haveI : HGet hx (h.n + 1) _ := ⟨q4⟩
    haveI : HGet hx h2.n _ := ⟨gdf⟩
    haveI : BNe h2.n (h2.n + 1) := ⟨by omega⟩
    haveI : BNe h2.n (h.n + 1) := ⟨by omega⟩
    haveI : BNe (h.n + 1) h2.n := ⟨by omega⟩
    haveI : BLt (h.n + 1) hx := ⟨by omega⟩
    haveI : BNe (h.n + 1) (h2.n + 1) := ⟨by omega⟩
    obtain ⟨a3, c3, rfl, _, _⟩ := id ho.rd
    refine stp ?_
    refine B.retC ?_
    have fS : ∀ {A B C D : AObj}, Fr (fun i => i = h2.n + 1 ∨ i = h2.n ∨ i = h.n + 1) hx ((((hx.set (h2.n + 1) A).set (h2.n + 1) B).set (h.n + 1) C).set h2.n D) := fun {A B C D} => (((Fr.refl.set fun _ => .inl rfl).set fun _ => .inl rfl).set fun _ => .inr (.inr rfl)).set fun _ => .inr (.inl rfl)
    exact ⟨ho.keep fS fun b hb e => by have := hnew b hb; omega, fun i hi => by have := hnew i hi; omega, hfx.trans fS fun i hi e => by omega⟩
end
end Go.Proofs.YtagmnpeilgnbdaaGreat.A

namespace Go.Proofs.YtagmnpeilgnbdaaGreat.A
open Go Go.Vm
set_option maxRecDepth 10000
set_option linter.unusedVariables false
def numS (bs : List UInt8) (pl : Nat) : Except Int (Nat × Nat) :=
  if bs.length < pl + 1 then .error 6 else
  if 8 < (bs.getD pl 0).toNat then .error 5 else
  if bs.length < pl + 1 + (bs.getD pl 0).toNat then .error 6 else
  if (0 < (bs.getD pl 0).toNat ∧ (((bs.drop (pl + 1)).take (bs.getD pl 0).toNat).getD 0 0).toNat = 0) ∨ 9223372036854775807 < bigN ((bs.drop (pl + 1)).take (bs.getD pl 0).toNat) then .error 5
  else .ok (bigN ((bs.drop (pl + 1)).take (bs.getD pl 0).toNat), pl + 1 + (bs.getD pl 0).toNat)
end Go.Proofs.YtagmnpeilgnbdaaGreat.A

namespace Go.Proofs.YtagmnpeilgnbdaaGreat.A
open Go Go.Vm
set_option maxRecDepth 10000
set_option linter.unusedVariables false
theorem Clone_ok {h : Heap} {v : Value} {l : List UInt8} (hr : Rd h 1 v (bcells l) l.length) (hs : l.length < 1048576) :
    Runs Tryz.prog T0 (.fn fn_zdcQ) [v] h
      (fun r h' => Own h' 1 r (bcells l) l.length ∧ Fr (fun _ => False) h h' ∧ ∀ i, ownedBy r i → h.n ≤ i) (fun _ _ => False) := by
  have hnew := hr.new
  obtain ⟨a, cap, rfl, hlen, hc⟩ := hr
  refine zdcQ_runs ?_
  cases a with
  | none =>
    have hl : l = [] := by
      cases l with
      | nil => rfl
      | cons b l => obtain ⟨_, _, _, h1, _⟩ := hc (by simp); cases h1
    subst hl
    refine stp ?_
    exact ⟨.none, Fr.refl, fun i hi => hi.elim⟩
  | some a =>
    refine stp ?_
    have hz : Own (h.push (.cells [] 0)) 1 (.slice (some ⟨h.n, 0, none⟩) 0 0) [] 0 := .lit (by simp) (by rw [Heap.get_push, if_pos rfl])
    have hnew' := ((Rd.keep (S := fun _ => False) ⟨some a, cap, rfl, hlen, hc⟩ (Fr.refl.push (o := .cells [] 0)) fun _ _ => id).new (size := 1)) [.int .u8 0]
    refine O.append hz hnew' hlen (bcells_one l) (by omega) (by omega) (by omega) (fun v' h' h1 h2 h3 => ?_)
    refine stp ?_
    rw [Nat.zero_add, List.nil_append] at h1
    refine ⟨h1, (Fr.refl.push (o := .cells [] 0)).trans (S := fun _ => False) h2 (fun i hi ho => ?_), fun i hi => ?_⟩
    · have : h.n = i := ho
      omega
    · rcases h3 i hi with h4 | h4
      · have : h.n = i := h4
        omega
      · simp at h4; omega
end Go.Proofs.YtagmnpeilgnbdaaGreat.A

namespace Go.Proofs.YtagmnpeilgnbdaaGreat.A
open Go Go.Vm
set_option maxRecDepth 10000
set_option linter.unusedVariables false
theorem numS_err {bs : List UInt8} {pl : Nat} {e : Int} (h : numS bs pl = .error e) : e = 5 ∨ e = 6 := by
  unfold numS at h
  split at h
  · cases h; exact .inr rfl
  · split at h
    · cases h; exact .inl rfl
    · split at h
      · cases h; exact .inr rfl
      · split at h
        · cases h; exact .inl rfl
        · cases h
theorem numS_ok {bs : List UInt8} {pl n pl' : Nat} (h : numS bs pl = .ok (n, pl')) : n ≤ 9223372036854775807 ∧ pl' ≤ bs.length ∧ pl < pl' := by
  unfold numS at h
  split at h
  · cases h
  · split at h
    · cases h
    · split at h
      · cases h
      · split at h
        · cases h
        · cases h
          refine ⟨?_, by omega, by omega⟩
          omega
def partS (k : Nat) (bs : List UInt8) (pl : Nat) : Except Int (List UInt8 × Nat) :=
  if bs.length < pl + k then .error 6 else .ok ((bs.drop pl).take k, pl + k)
end Go.Proofs.YtagmnpeilgnbdaaGreat.A

namespace Go.Proofs.YtagmnpeilgnbdaaGreat.A
open Go Go.Vm
set_option maxRecDepth 10000
set_option linter.unusedVariables false
theorem l32 {l : List UInt8} (h : l.length = 32) : L32 (bcells l) := ⟨by simpa [bcells] using h⟩
end Go.Proofs.YtagmnpeilgnbdaaGreat.A

namespace Go.Proofs.YtagmnpeilgnbdaaGreat.A
open Go Go.Vm
set_option maxRecDepth 10000
set_option linter.unusedVariables false
def beN (n : Nat) : List UInt8 := if h : n = 0 then [] else beN (n / 256) ++ [UInt8.ofNat (n % 256)]
  termination_by n
  decreasing_by omega
theorem beN_zero : beN 0 = [] := by unfold beN; simp
theorem beN_pos {n : Nat} (h : n ≠ 0) : beN n = beN (n / 256) ++ [UInt8.ofNat (n % 256)] := by rw [beN]; rw [dif_neg h]
def numF (n : Nat) : List UInt8 := UInt8.ofNat (beN n).length :: beN n
theorem beN_len : ∀ (k n : Nat), n < 256 ^ k → (beN n).length ≤ k
  | 0, n, h => by
    obtain rfl : n = 0 := by simpa using h
    rw [beN_zero]; simp
  | k + 1, n, h => by
    by_cases h0 : n = 0
    · subst h0; rw [beN_zero]; simp
    · rw [beN_pos h0, List.length_append]
      have : n / 256 < 256 ^ k := Nat.div_lt_of_lt_mul (by rw [Nat.pow_succ] at h; omega)
      have := beN_len k _ this
      simp; omega
theorem u8nat {n : Nat} (h : n < 256) : (UInt8.ofNat n).toNat = n := by
  rw [UInt8.toNat_ofNat']
  exact Nat.mod_eq_of_lt h
theorem number_ok {h : Heap} {N : Nat} (hN : N ≤ 9223372036854775807) :
    Runs Tryz.prog T0 (.fn fn_zwdQ) [.int .i64 N] h (fun r h' => Rd h' 1 r (bcells (numF N)) (numF N).length ∧ (∀ i, blockOf r i → h.n ≤ i) ∧ Fr (fun _ => False) h h') (fun _ _ => False) := by
  refine zwdQ_runs ?_
  refine stp ?_
  refine loop2 zwdQ_l0_M 0 4 (fun m v0 v4 h' => ∃ (n k : Nat) (c : List Value) (ds : List UInt8), n = m ∧ v0 = .int .i64 n ∧ v4 = .int .i64 k ∧ k ≤ 8 ∧ n < 256 ^ (8 - k) ∧ n ≤ N ∧ h' = h.push (.cells c 0) ∧ c.length = 9 ∧ ds.length = k ∧ c.drop (9 - k) = bcells ds ∧ beN N = beN n ++ ds) ?_ N
    ⟨N, 0, _, [], rfl, rfl, rfl, by omega, by simp; omega, Nat.le_refl _, rfl, rfl, rfl, rfl, by simp⟩
  rintro m v0 v4 h' x5 x6 x7 x8 x9 x10 x11 x12 x13 x14 x15 ⟨n, k, c, ds, hnm, rfl, rfl, hk, hn, hnN, rfl, hc, hds, hd, hbe⟩
  subst hnm
  refine stp ?_
  refine C.if (fun hpos => ?_) (fun hz => ?_)
  · have hk8 : k < 8 := by
      rcases Nat.lt_or_ge k 8 with h | h
      · exact h
      · obtain rfl : k = 8 := by omega
        simp at hn; omega
    have h256 : n % 256 < 256 := Nat.mod_lt _ (by omega)
    have hw : (IntKind.wrap .u8 (n : Int)) = (((UInt8.ofNat (n % 256)).toNat : Nat) : Int) := by
      rw [wrap_u8, u8nat h256]
      omega
    refine stp ?_
    have h8 : ((8 : Int) - (k : Int)).toNat = 8 - k := by omega
    rw [hw, h8]
    simp only [Nat.zero_add, Nat.mul_one]
    refine O.by0 (XOp.mkStore1 (P := Tryz.prog) (h := h.push (.cells c 0)) (c := c) (r := h.n) (o := 8 - k) (v := .int .u8 (UInt8.ofNat (n % 256)).toNat) (sp := none) (by omega)).eq rfl ?_
    refine stp ?_
    refine O.how XOp.shr8 ?_
    refine stp ?_
    have hdiv : ((n : Int) / 256) = ((n / 256 : Nat) : Int) := by omega
    rw [hdiv, Heap.push_set]
    refine loop2a 0 4 (n / 256) (by omega) ⟨n / 256, k + 1, lset c (8 - k) (.int .u8 (UInt8.ofNat (n % 256)).toNat), UInt8.ofNat (n % 256) :: ds, rfl, rfl, by simp, by omega, ?_, by omega, rfl, by rw [lset_len]; exact hc, by simp [hds], ?_, ?_⟩
    · have : 256 ^ (8 - k) = 256 ^ (8 - (k + 1)) * 256 := by rw [← Nat.pow_succ]; congr 1; omega
      exact Nat.div_lt_of_lt_mul (by omega)
    · rw [show 9 - (k + 1) = 8 - k from by omega, lset_drop _ _ _ (by omega), show 8 - k + 1 = 9 - k from by omega, hd]
      rfl
    · rw [hbe, beN_pos (by omega)]
      simp
  · have hn0 : n = 0 := by omega
    subst hn0
    rw [beN_zero, List.nil_append] at hbe
    have hw : (k : Int) = (((UInt8.ofNat k).toNat : Nat) : Int) := by
      rw [u8nat (by omega)]
    refine stp ?_
    have h8 : ((8 : Int) - (k : Int)).toNat = 8 - k := by omega
    rw [h8]
    simp only [Nat.zero_add, Nat.mul_one]
    refine O.by0 (XOp.mkStore1 (P := Tryz.prog) (h := h.push (.cells c 0)) (c := c) (r := h.n) (o := 8 - k) (v := .int .u8 k) (sp := none) (by omega)).eq rfl ?_
    refine stp ?_
    rw [Heap.push_set]
    refine O.how (XOp.mkSliceArrLo (8 - k) (by omega) (by omega)) ?_
    refine stp ?_
    rw [show 9 - (8 - k) = k + 1 from by omega, Nat.zero_add, Nat.mul_one]
    have hlen : (numF N).length = k + 1 := by simp [numF, hbe, hds]
    refine ⟨?_, fun i hi => by rw [← hi.1]; exact Nat.le_refl _, Fr.refl.push⟩
    rw [hlen]
    refine Rd.mk (by simp) ?_
    rw [cellsAt_of (c := lset c (8 - k) (.int .u8 k)) (by rw [Heap.get_push, if_pos rfl]; rfl) (by rw [lset_len]; omega), lset_drop _ _ _ (by omega), show 8 - k + 1 = 9 - k from by omega, hd]
    congr 1
    rw [List.take_of_length_le (by simp [bcells, hds])]
    unfold numF
    rw [hbe, hds]
    show _ :: _ = Value.int .u8 ((UInt8.ofNat k).toNat : Nat) :: _
    rw [u8nat (by omega)]
    rfl
end Go.Proofs.YtagmnpeilgnbdaaGreat.A

namespace Go.Proofs.YtagmnpeilgnbdaaGreat.A
open Go Go.Vm
set_option maxRecDepth 10000
set_option linter.unusedVariables false
theorem repeatL_len (n : Nat) : (repeatL [.int .u8 0] n).length = n := by
  induction n with
  | zero => rfl
  | succ n ih => simp [repeatL, ih]
theorem Grow_ok {h : Heap} {n : Nat} (hn : n < 1048576) :
    Runs Tryz.prog T0 (.fn fn_zgcQ) [.slice none 0 0, .int .i64 n] h (fun r h' => Own h' 1 r [] 0 ∧ (∀ i, ownedBy r i → h.n ≤ i) ∧ Fr (fun _ => False) h h') (fun _ _ => False) := by
  refine zgcQ_runs ?_
  refine stp ?_
  refine C.if (fun hpos => ?_) (fun hz => ?_)
  · rw [show ((n : Int) - (((0 : Nat) : Int) - ((0 : Nat) : Int))) = (n : Int) from by omega]
    refine stp ?_
    refine O.by (v := .slice none 0 0) (h' := h) (by rfl) rfl ?_
    refine stp ?_
    have hx : appendOf 1 1 [.int .u8 0] true (.slice none 0 0) (.int .i64 (n : Int)) h = .ok (.slice (some ⟨h.n, 0, some 0⟩) n n) (h.push (.cells (repeatL [.int .u8 0] n) 1)) := by
      unfold appendOf newCells
      rw [if_neg (by omega)]
      simp only [Bool.true_and, show (decide ((0 : Int) ≤ (n : Int))) = true from by simp, if_true, Int.toNat_natCast, Nat.zero_add]
      rw [if_neg (by omega), if_neg (by omega), if_neg (by omega)]
    refine O.by hx rfl ?_
    refine stp ?_
    refine O.by (v := .slice (some ⟨h.n, 0, some 0⟩) 0 n) (h' := h.push (.cells (repeatL [.int .u8 0] n) 1)) ?_ rfl ?_
    · show sliceOf _ 1 (.slice (some ⟨h.n, 0, some 0⟩) n n) none (some _) none _ = _
      simp only [sliceOf, bnd, eval, lget]
      rw [show idx (n + 1) (.int .i64 ((0 : Nat) : Int)) = some 0 from idx_in (by omega)]
      simp
    refine stp ?_
    refine ⟨.grown (c := []) (j := repeatL [.int .u8 0] n) (by simp) (by omega) (by omega) rfl (by simp [repeatL_len]) (by rw [Heap.get_push, if_pos rfl]; rfl), fun i hi => by rw [← hi]; exact Nat.le_refl _, Fr.refl.push⟩
  · refine stp ?_
    exact ⟨.none, fun i hi => hi.elim, Fr.refl⟩
def Parts (h : Heap) (ls : List (Value × List UInt8)) : Prop := ∀ p ∈ ls, Rd h 1 p.1 (bcells p.2) p.2.length
theorem Parts.keep {h h' : Heap} {ls : List (Value × List UInt8)} (hp : Parts h ls) (hf : Fr (fun _ => False) h h') : Parts h' ls := fun p hm => (hp p hm).keep hf fun _ _ => id
def flat (ls : List (Value × List UInt8)) : List UInt8 := ls.flatMap (·.2)
theorem flat_take {ls : List (Value × List UInt8)} {k : Nat} (hk : k < ls.length) : flat (ls.take (k + 1)) = flat (ls.take k) ++ ls[k].2 := by
  unfold flat
  rw [List.take_succ_eq_append_getElem hk]
  simp only [List.flatMap_append, List.flatMap_cons, List.flatMap_nil, List.append_nil]
theorem flat_le {ls : List (Value × List UInt8)} (k : Nat) : (flat (ls.take k)).length ≤ (flat ls).length := by
  conv => rhs; rw [← List.take_append_drop k ls]
  unfold flat
  rw [List.flatMap_append]
  simp
theorem lget_map {ls : List (Value × List UInt8)} {k : Nat} (hk : k < ls.length) : lget (ls.map (·.1)) k = ls[k].1 := by
  induction ls generalizing k with
  | nil => simp at hk
  | cons a l ih =>
    cases k with
    | zero => rfl
    | succ k => exact ih (by simpa using hk)
theorem Concat_ok {h : Heap} {v : Value} {ls : List (Value × List UInt8)} (hv : Rd h 1 v (ls.map (·.1)) ls.length) (hp : Parts h ls) (hn : ls.length < 1048576) (hs : (flat ls).length < 1048576) :
    Runs Tryz.prog T0 (.fn fn_zfcQ) [v] h (fun r h' => Own h' 1 r (bcells (flat ls)) (flat ls).length ∧ (∀ i, ownedBy r i → h.n ≤ i) ∧ Fr (fun _ => False) h h') (fun _ _ => False) := by
  have hv' := hv
  obtain ⟨a, cap, rfl, hlen, hc⟩ := hv
  refine zfcQ_runs ?_
  refine stp ?_
  refine loop2 zfcQ_l0_M 3 11 (fun m v3 v11 h' => ∃ k : Nat, k ≤ ls.length ∧ m = ls.length - k ∧ v3 = .int .i64 (flat (ls.take k)).length ∧ v11 = .int .i64 k ∧ h = h') ?_ ls.length ⟨0, by omega, rfl, rfl, rfl, rfl⟩
  rintro m v3 v11 h' x5 x12 x13 x14 x15 x16 x17 x18 x19 x20 x21 x22 ⟨k, hk, rfl, rfl, rfl, rfl⟩
  refine stp ?_
  refine C.if (fun hlt => ?_) (fun hge => ?_)
  · have hk' : k < ls.length := by omega
    obtain ⟨b, o, sp, rfl, hb, hcc⟩ := hc (by omega)
    rw [Nat.mul_one] at hcc
    haveI := cell_at (k := k) hcc hk'
    rw [lget_map hk'] at this
    haveI := this
    obtain ⟨a1, cap1, hv1, _, _⟩ := hp ls[k] (List.getElem_mem _)
    have hfl := flat_le (ls := ls) (k + 1)
    rw [flat_take hk', List.length_append] at hfl
    refine stp ?_
    rw [hv1]
    refine stp ?_
    refine loop2a 3 11 (ls.length - (k + 1)) (by omega) ⟨k + 1, by omega, rfl, ?_, rfl, rfl⟩
    rw [flat_take hk', List.length_append]
    rfl
  · obtain rfl : k = ls.length := by omega
    rw [List.take_length]
    refine stp ?_
    refine O.call' (Grow_ok hs) (fun r h1 hr => ?_)
    obtain ⟨ho, hnew, hf⟩ := hr
    refine stp ?_
    refine loop2 zfcQ_l1_M 6 27 (fun m v6 v27 h' => ∃ k : Nat, k ≤ ls.length ∧ m = ls.length - k ∧ v27 = .int .i64 k ∧ Own h' 1 v6 (bcells (flat (ls.take k))) (flat (ls.take k)).length ∧ (∀ i, ownedBy v6 i → h'.n ≤ i ∨ h.n ≤ i) ∧ Fr (fun _ => False) h h') ?_ ls.length ⟨0, by omega, rfl, rfl, ho, fun i hi => .inr (hnew i hi), hf⟩
    clear ho hnew hf
    rintro m v6 v27 h' x8 x28 x29 x30 x31 x32 x33 x34 ⟨k, hk, rfl, rfl, ho, hnew, hf⟩
    refine stp ?_
    refine C.if (fun hlt => ?_) (fun hge => ?_)
    · have hk' : k < ls.length := by omega
      obtain ⟨b, o, sp, rfl, hb, hcc⟩ := hc (by omega)
      rw [Nat.mul_one, ← cellsAt_keep hf hb id] at hcc
      haveI := cell_at (k := k) hcc hk'
      rw [lget_map hk'] at this
      haveI := this
      have hpk := (hp ls[k] (List.getElem_mem _)).keep hf fun _ _ => id
      have hfl := flat_le (ls := ls) (k + 1)
      rw [flat_take hk', List.length_append] at hfl
      refine stp ?_
      refine O.append ho (hpk.new [.int .u8 0]) (by rw [bcells_len]; omega) (bcells_one _) (by omega) (by omega) (by omega) (fun v' h2 h3 h4 h5 => ?_)
      refine stp ?_
      refine loop2a 6 27 (ls.length - (k + 1)) (by omega) ⟨k + 1, by omega, rfl, rfl, ?_, fun i hi => ?_, ?_⟩
      · rw [flat_take hk', List.length_append, bcells_append]
        exact h3
      · rcases h5 i hi with h6 | h6
        · rcases hnew i h6 with h7 | h7
          · exact .inr (Nat.le_trans hf.n h7)
          · exact .inr h7
        · exact .inr (Nat.le_trans hf.n h6)
      · refine Fr.trans (S := fun _ => False) hf h4 fun i hi ho' => ?_
        rcases hnew i ho' with h7 | h7
        · have := hf.n; omega
        · omega
    · obtain rfl : k = ls.length := by omega
      rw [List.take_length] at ho
      refine stp ?_
      exact ⟨ho, fun i hi => (hnew i hi).elim (Nat.le_trans hf.n) id, hf⟩
end Go.Proofs.YtagmnpeilgnbdaaGreat.A

namespace Go.Proofs.YtagmnpeilgnbdaaGreat.A
open Go Go.Vm
set_option maxRecDepth 10000
set_option linter.unusedVariables false
structure PW (h : Heap) (lo p : Nat) (sv : Value) (bs : List UInt8) (lim : Nat) (e : Int) : Prop where
  lt : p < h.n
  le : lo ≤ p
  get : h.get p = .cells [.int .i64 lim, sv, .int .i64 e, .bool true] 0
  own : Own h 1 sv (bcells bs) bs.length
  apart : ¬ ownedBy sv p
  above : ∀ i, ownedBy sv i → lo ≤ i
  small : bs.length < 1048576
structure WSt where
  bs : List UInt8
  e : Int
structure PWs (h : Heap) (lo p lim : Nat) (st : WSt) : Prop where
  ex : ∃ sv, PW h lo p sv st.bs lim st.e
def putS (lim : Nat) (may : Bool) (part : List UInt8) (st : WSt) : WSt :=
  if st.e ≠ 0 then st else if may = false then ⟨st.bs, 3⟩ else if lim < st.bs.length + part.length then ⟨st.bs, 4⟩ else ⟨st.bs ++ part, 0⟩
theorem PW.keep {S : Nat → Prop} {h h' : Heap} {lo p : Nat} {sv : Value} {bs : List UInt8} {lim : Nat} {e : Int} (hp : PW h lo p sv bs lim e) (hf : Fr S h h') (hs : ¬ S p) (hb : ∀ i, ownedBy sv i → ¬ S i) : PW h' lo p sv bs lim e :=
  ⟨hf.lt hp.lt, hp.le, by rw [hf.get p hp.lt hs, hp.get], hp.own.keep hf hb, hp.apart, hp.above, hp.small⟩
theorem PWs.keep {S : Nat → Prop} {h h' : Heap} {lo p lim : Nat} {st : WSt} (hp : PWs h lo p lim st) (hf : Fr S h h') (hs : ∀ i, S i → i < lo) : PWs h' lo p lim st :=
  let ⟨sv, hw⟩ := hp.ex
  ⟨sv, hw.keep hf (fun h => by have := hs _ h; have := hw.le; omega) fun i hi h => by have := hs _ h; have := hw.above i hi; omega⟩
theorem PWs.none {h h' : Heap} {lo p lim : Nat} {st : WSt} (hp : PWs h lo p lim st) (hf : Fr (fun _ => False) h h') : PWs h' lo p lim st := hp.keep hf fun _ h => h.elim
theorem PWs.lo_le {h : Heap} {lo p lim : Nat} {st : WSt} (hp : PWs h lo p lim st) : lo ≤ h.n := let ⟨_, hw⟩ := hp.ex; Nat.le_of_lt (Nat.lt_of_le_of_lt hw.le hw.lt)
end Go.Proofs.YtagmnpeilgnbdaaGreat.A

namespace Go.Proofs.YtagmnpeilgnbdaaGreat.A
open Go Go.Vm
set_option maxRecDepth 10000
set_option linter.unusedVariables false
theorem numF_len {n : Nat} (h : n ≤ 9223372036854775807) : (numF n).length ≤ 9 := by
  have := beN_len 8 n (by omega)
  simp [numF]; omega
theorem rd_lit {h : Heap} {c : List Value} {n es : Nat} (hc : c.length = n) : Rd (h.push (.cells c es)) 1 (.slice (some ⟨h.n, 0, none⟩) n n) c n := by
  refine Rd.mk (by simp) ?_
  rw [cellsAt_of (c := c) (by rw [Heap.get_push, if_pos rfl]; rfl) (by omega), List.drop_zero, List.take_of_length_le (by omega)]
theorem NewWriter_ok {h : Heap} {lim : Nat} (hl : lim ≤ 1048576) :
    Runs Tryz.prog T0 (.fn fn_zzcQ) [.int .i64 lim] h (fun r h' => r = .tuple ⟨[.pointer (some ⟨h.n, 0, none⟩), .int .i64 0]⟩ ∧ PWs h' h.n h.n lim ⟨[], 0⟩ ∧ Fr (fun _ => False) h h') (fun _ _ => False) := by
  refine zzcQ_runs ?_
  refine stp ?_
  refine C.if (fun h1 => by omega) (fun _ => ?_)
  refine stp ?_
  refine ⟨rfl, ⟨.slice none 0 0, by simp, Nat.le_refl _, by rw [Heap.get_push, if_pos rfl], .none, fun h => h, fun i h => h.elim, by simp⟩, Fr.refl.push⟩
theorem Done_ok {h : Heap} {lo p lim : Nat} {st : WSt} (hw : PWs h lo p lim st) :
    Runs Tryz.prog T0 (.fn fn_zodQ) [.pointer (some ⟨p, 0, none⟩)] h
      (fun r h' => ∃ v, r = .tuple ⟨[v, .int .i64 st.e]⟩ ∧ Own h' 1 v (bcells (if st.e = 0 then st.bs else [])) (if st.e = 0 then st.bs else []).length ∧ (∀ i, ownedBy v i → h.n ≤ i) ∧ Fr (fun _ => False) h h') (fun _ _ => False) := by
  obtain ⟨bs, e⟩ := st
  obtain ⟨sv, hw⟩ := hw.ex
  have hw : PW h lo p sv bs lim e := hw
  obtain ⟨a0, cap0, rfl, hl0, _⟩ := hw.own.rd
  haveI : HGet h p _ := ⟨hw.get⟩
  refine zodQ_runs ?_
  refine stp ?_
  refine C.ifN (fun he => ?_) (fun he => ?_)
  · refine stp ?_
    rw [if_neg he]
    exact ⟨_, rfl, .none, fun i h => h.elim, Fr.refl⟩
  · subst he
    refine stp ?_
    refine O.call' (Clone_ok hw.own.rd hw.small) (fun r h1 hr => ?_)
    refine stp ?_
    exact ⟨_, rfl, hr.1, hr.2.2, hr.2.1⟩
end Go.Proofs.YtagmnpeilgnbdaaGreat.A

namespace Go.Proofs.YtagmnpeilgnbdaaGreat.A
open Go Go.Vm
set_option maxRecDepth 10000
set_option linter.unusedVariables false
inductive OwnL (h : Heap) (size : Nat) : Value → List Value → Nat → Prop
  | own {v : Value} {c : List Value} {n : Nat} : Own h size v c n → OwnL h size v c n
  | lit {q es n : Nat} {c : List Value} : q < h.n → h.get q = .cells c es → c.length = n * size → OwnL h size (.slice (some ⟨q, 0, none⟩) n n) c n
theorem OwnL.rd {h : Heap} {size : Nat} {v : Value} {c : List Value} {n : Nat} (ho : OwnL h size v c n) : Rd h size v c n := by
  cases ho with
  | own ho => exact ho.rd
  | lit hq hg hl => exact Rd.mk hq (by rw [cellsAt_of (by rw [hg]; rfl) (by omega), List.drop_zero, List.take_of_length_le (by omega)])
theorem OwnL.keep {S : Nat → Prop} {h h' : Heap} {size : Nat} {v : Value} {c : List Value} {n : Nat} (ho : OwnL h size v c n) (hf : Fr S h h') (hs : ∀ b, ownedBy v b → ¬ S b) : OwnL h' size v c n := by
  cases ho with
  | own ho => exact .own (ho.keep hf hs)
  | lit hq hg hl => exact .lit (hf.lt hq) (by rw [hf.get _ hq (hs _ rfl), hg]) hl
section
variable {P : Program} {T : Table} {ts : List Value} {ds : List Deferred} {h : Heap} {rd : Option Nat} {v w : Value} {dst size bytes n m el q : Nat} {zero c d : List Value} {zeros : Bool} {x y : Operand} {chk : List (Option Nat × AOp × Option (Nat × Bool))} {pan : Bool} {rest : List AOper} {Q : QP} {F : Value → List Value}
theorem O.appendL [e1 : Ev ts x v] [e2 : Ev ts y w] [s : LSetF ts dst F] (ho : OwnL h size v c n) (hx : newCells h size zero zeros w = some (m, d)) (hd : d.length = m * size) (h1 : d.all Value.oneCell' = true) (hs : size ≠ 0) (hb : bytes < 1048576) (hsm : n + m < 1048576)
    (hk : ∀ v' h', OwnL h' size v' (c ++ d) (n + m) → Fr (ownedBy v) h h' → (∀ i, ownedBy v' i → ownedBy v i ∨ h.n ≤ i) → RunO P T rest ⟨F v', ds, h', rd⟩ Q) : RunO P T (⟨some dst, .append el size bytes zero zeros x y, none, chk, pan⟩ :: rest) ⟨ts, ds, h, rd⟩ Q := by
  cases ho with
  | own ho => exact O.append ho hx hd h1 hs hb hsm fun v' h' h1 h2 h3 => hk v' h' (.own h1) h2 h3
  | lit hq hg hl =>
    rename_i q es
    have hc : cellsAt h q 0 (n * size) = some c := by rw [cellsAt_of (by rw [hg]; rfl) (by omega), List.drop_zero, List.take_of_length_le (by omega)]
    by_cases hm : m = 0
    · subst hm
      have : d = [] := by simpa using hd
      subst this
      have hop : XOp P ts h (.append el size bytes zero zeros x y) (.slice (some ⟨q, 0, none⟩) n n) (h.set q (.cells c es)) := by
        refine ⟨rfl, ?_⟩
        simp only [xop, e1.eq, e2.eq]
        unfold appendOf
        rw [if_neg hs, hx]
        simp only [Nat.add_zero]
        rw [if_neg (by omega), if_pos (Nat.le_refl _)]
        have : putAt h q (0 + n * size) [] = some (h.set q (.cells c es)) := by
          simp only [putAt, hg]
          rw [if_pos ⟨by simp; omega, rfl⟩, over_nil]
        rw [this]
      haveI : LSet ts dst (.slice (some ⟨q, 0, none⟩) n n) (F (.slice (some ⟨q, 0, none⟩) n n)) := ⟨s.eq _⟩
      refine O.how hop (hk _ _ ?_ (Fr.refl.set fun _ => rfl) fun i hi => .inl hi)
      rw [List.append_nil, Nat.add_zero]
      exact .lit (by simpa using hq) (by rw [Heap.get_set, if_pos rfl]) hl
    · have hop : XOp P ts h (.append el size bytes zero zeros x y) (.slice (some ⟨h.n, 0, some 0⟩) (n + m) (n + m)) (h.push (.cells (c ++ d) size)) := by
        refine ⟨rfl, ?_⟩
        simp only [xop, e1.eq, e2.eq]
        unfold appendOf
        rw [if_neg hs, hx]
        simp only
        rw [if_neg (by omega), if_neg (by omega), hc]
      haveI : LSet ts dst (.slice (some ⟨h.n, 0, some 0⟩) (n + m) (n + m)) (F (.slice (some ⟨h.n, 0, some 0⟩) (n + m) (n + m))) := ⟨s.eq _⟩
      refine O.how hop (hk _ _ (.own (.grown (j := []) (by simp) (by omega) (Nat.le_refl _) (by rw [List.length_append, hl, hd, Nat.add_mul]) (by rw [List.append_nil, List.length_append, hl, hd, Nat.add_mul]) (by rw [Heap.get_push, if_pos rfl, List.append_nil]))) Fr.refl.push fun i hi => ?_)
      cases hi
      exact .inr (Nat.le_refl _)
end
theorem Number_okD {h : Heap} {N : Nat} (hN : N ≤ 9223372036854775807) :
    Runs Tryz.prog T0 (.fn fn_zpQ) [.int .i64 N] h (fun r h' => OwnL h' 1 r (bcells (numF N)) (numF N).length ∧ (∀ i, ownedBy r i → h.n ≤ i) ∧ Fr (fun _ => False) h h') (fun _ _ => False) := by
  refine zpQ_runs ?_
  refine stp ?_
  refine loop2 zpQ_l0_M 0 3 (fun m v0 v3 h' => ∃ (n k : Nat) (ds : List UInt8), n = m ∧ v0 = .int .i64 n ∧ k ≤ 8 ∧ n < 256 ^ (8 - k) ∧ n ≤ N ∧ ds.length = k ∧ Rd h' 1 v3 (bcells ds) ds.length ∧ beN N = beN n ++ ds ∧ Fr (fun _ => False) h h') ?_ N
    ⟨N, 0, [], rfl, rfl, by omega, by simp; omega, Nat.le_refl _, rfl, Rd.nil, by simp, Fr.refl⟩
  rintro m v0 v3 h' x4 x5 x6 x7 x8 x9 x10 x11 x12 ⟨n, k, ds, hnm, rfl, hk, hn, hnN, hds, hrd, hbe, hf⟩
  subst hnm
  refine stp ?_
  refine C.if (fun hpos => ?_) (fun hz => ?_)
  · have hk8 : k < 8 := by
      rcases Nat.lt_or_ge k 8 with h | h
      · exact h
      · obtain rfl : k = 8 := by omega
        simp at hn; omega
    have h256 : n % 256 < 256 := Nat.mod_lt _ (by omega)
    have hw : (IntKind.wrap .u8 (n : Int)) = (((UInt8.ofNat (n % 256)).toNat : Nat) : Int) := by
      rw [wrap_u8, u8nat h256]
      omega
    refine stp ?_
    rw [hw]
    have hp : Fr (fun _ => False) h' (h'.push (.cells [.int .u8 ((UInt8.ofNat (n % 256)).toNat : Nat)] 0)) := Fr.refl.push
    refine O.appendL (.lit (q := h'.n) (es := 0) (c := [.int .u8 ((UInt8.ofNat (n % 256)).toNat : Nat)]) (by simp) (by rw [Heap.get_push, if_pos rfl]) rfl) ((hrd.keep hp fun _ _ => id).new _) (by rw [bcells_len]; omega) (bcells_one _) (by omega) (by omega) (by omega) (fun v' h2 ho2 hf2 hnew2 => ?_)
    refine stp ?_
    refine O.how XOp.shr8 ?_
    refine stp ?_
    have hdiv : ((n : Int) / 256) = ((n / 256 : Nat) : Int) := by omega
    rw [hdiv]
    refine loop2a 0 3 (n / 256) (by omega) ⟨n / 256, k + 1, UInt8.ofNat (n % 256) :: ds, rfl, rfl, by omega, ?_, by omega, by simp [hds], ?_, ?_, ?_⟩
    · have : 256 ^ (8 - k) = 256 ^ (8 - (k + 1)) * 256 := by rw [← Nat.pow_succ]; congr 1; omega
      exact Nat.div_lt_of_lt_mul (by omega)
    · have := ho2.rd
      rw [show 1 + ds.length = (UInt8.ofNat (n % 256) :: ds).length from by simp; omega] at this
      exact this
    · rw [hbe, beN_pos (by omega)]
      simp
    · refine Fr.trans (S := fun _ => False) (hf.trans' hp) hf2 fun i hi e => ?_
      have : h'.n = i := e
      have := hf.n
      omega
  · have hn0 : n = 0 := by omega
    subst hn0
    rw [beN_zero, List.nil_append] at hbe
    obtain ⟨a3, c3, rfl, _, _⟩ := id hrd
    have hw : ((ds.length : Nat) : Int) = (((UInt8.ofNat ds.length).toNat : Nat) : Int) := by
      rw [u8nat (by omega)]
    refine stp ?_
    rw [hw]
    have hp : Fr (fun _ => False) h' (h'.push (.cells [.int .u8 ((UInt8.ofNat ds.length).toNat : Nat)] 0)) := Fr.refl.push
    refine O.appendL (.lit (q := h'.n) (es := 0) (c := [.int .u8 ((UInt8.ofNat ds.length).toNat : Nat)]) (by simp) (by rw [Heap.get_push, if_pos rfl]) rfl) ((hrd.keep hp fun _ _ => id).new _) (by rw [bcells_len]; omega) (bcells_one _) (by omega) (by omega) (by omega) (fun v' h2 ho2 hf2 hnew2 => ?_)
    refine stp ?_
    have hlen : (numF N).length = 1 + ds.length := by simp [numF, hbe]; omega
    refine ⟨?_, fun i hi => ?_, ?_⟩
    · rw [hlen, show bcells (numF N) = [.int .u8 ((UInt8.ofNat ds.length).toNat : Nat)] ++ bcells ds from by rw [numF, hbe]; rfl]
      exact ho2
    · have := hf.n
      rcases hnew2 i hi with e | e
      · have : h'.n = i := e
        omega
      · simp at e; omega
    · refine Fr.trans (S := fun _ => False) (hf.trans' hp) hf2 fun i hi e => ?_
      have : h'.n = i := e
      have := hf.n
      omega
end Go.Proofs.YtagmnpeilgnbdaaGreat.A

namespace Go.Proofs.YtagmnpeilgnbdaaGreat.A
open Go Go.Vm
set_option maxRecDepth 10000
set_option linter.unusedVariables false
structure DW (h : Heap) (lo p : Nat) (sv : Value) (bs : List UInt8) (lim : Nat) (e : Int) : Prop where
  lt : p < h.n
  le : lo ≤ p
  get : h.get p = .cells [.int .i64 lim, sv, .int .i64 e] 0
  own : Own h 1 sv (bcells bs) bs.length
  apart : ¬ ownedBy sv p
  above : ∀ i, ownedBy sv i → lo ≤ i
  small : bs.length < 1048577
structure DWs (h : Heap) (lo p lim : Nat) (st : WSt) : Prop where
  ex : ∃ sv, DW h lo p sv st.bs lim st.e
theorem DW.keep {S : Nat → Prop} {h h' : Heap} {lo p : Nat} {sv : Value} {bs : List UInt8} {lim : Nat} {e : Int} (hp : DW h lo p sv bs lim e) (hf : Fr S h h') (hs : ¬ S p) (hb : ∀ i, ownedBy sv i → ¬ S i) : DW h' lo p sv bs lim e :=
  ⟨hf.lt hp.lt, hp.le, by rw [hf.get p hp.lt hs, hp.get], hp.own.keep hf hb, hp.apart, hp.above, hp.small⟩
theorem DWs.keep {S : Nat → Prop} {h h' : Heap} {lo p lim : Nat} {st : WSt} (hp : DWs h lo p lim st) (hf : Fr S h h') (hs : ∀ i, S i → i < lo) : DWs h' lo p lim st :=
  let ⟨sv, hw⟩ := hp.ex
  ⟨sv, hw.keep hf (fun h => by have := hs _ h; have := hw.le; omega) fun i hi h => by have := hs _ h; have := hw.above i hi; omega⟩
theorem DWs.none {h h' : Heap} {lo p lim : Nat} {st : WSt} (hp : DWs h lo p lim st) (hf : Fr (fun _ => False) h h') : DWs h' lo p lim st := hp.keep hf fun _ h => h.elim
theorem DWs.lo_le {h : Heap} {lo p lim : Nat} {st : WSt} (hp : DWs h lo p lim st) : lo ≤ h.n := let ⟨_, hw⟩ := hp.ex; Nat.le_of_lt (Nat.lt_of_le_of_lt hw.le hw.lt)
def DWrites (h : Heap) (lo p lim : Nat) (st : WSt) (r : Value) (h' : Heap) : Prop := r = .int .i64 st.e ∧ DWs h' lo p lim st ∧ Fr (fun i => i = p) h h'
theorem Put_okD {h : Heap} {lo p lim : Nat} {st : WSt} {v : Value} {l : List UInt8} (hw : DWs h lo p lim st) (hv : Rd h 1 v (bcells l) l.length) (hlim : lim < 1048576 ∨ st.bs.length + l.length < 1048576) (hs : l.length < 2000000) :
    Runs Tryz.prog T0 (.fn fn_zcbQ) [.pointer (some ⟨p, 0, none⟩), v] h (DWrites h lo p lim (putS lim true l st)) (fun _ _ => False) := by
  obtain ⟨bs, e⟩ := st
  obtain ⟨sv, hw⟩ := hw.ex
  have hw : DW h lo p sv bs lim e := hw
  have hsum : bs.length + l.length ≤ lim → bs.length + l.length < 1048576 := fun h => by
    rcases hlim with h' | h'
    · omega
    · exact h'
  clear hlim
  have hle := hw.le
  have hlt := hw.lt
  have hsmall := hw.small
  have hv0 := hv
  obtain ⟨a0, cap0, rfl, hl0, _⟩ := hw.own.rd
  obtain ⟨a1, cap1, rfl, hl1, _⟩ := hv
  haveI i0 : HGet h p _ := ⟨hw.get⟩
  haveI : BLt p h := ⟨hlt⟩
  refine zcbQ_runs ?_
  refine stp ?_
  unfold putS
  refine D.dec (fun he => ?_) (fun he => ?_)
  · subst he
    refine stp ?_
    refine C.if (fun hlong => ?_) (fun hfit => ?_)
    · refine stp ?_
      rw [if_neg (by simp), if_neg (by simp), if_pos (show lim < bs.length + l.length by omega)]
      refine ⟨rfl, ⟨.slice a0 bs.length cap0, by simpa using hlt, hle, by rw [Heap.get_set, if_pos rfl], hw.own.keep (S := fun i => i = p) (Fr.refl.set fun _ => rfl) fun i hi hp => hw.apart (hp ▸ hi), hw.apart, hw.above, hsmall⟩, Fr.refl.set fun _ => rfl⟩
    · refine stp ?_
      have hsum := hsum (by omega)
      rw [if_neg (by simp), if_neg (by simp), if_neg (show ¬ lim < bs.length + l.length by omega)]
      have hp0 : Fr (fun _ => False) h (h.push (.cells [] 0)) := Fr.refl.push
      refine O.append (size := 1) (bytes := 1) (n := 0) (c := []) (m := bs.length) (d := bcells bs) (.lit (q := h.n) (es := 0) (by simp) (by rw [Heap.get_push, if_pos rfl])) ((hw.own.rd.keep hp0 fun _ _ => id).new _) (by rw [bcells_len]; omega) (bcells_one _) (by omega) (by omega) (by omega) (fun v1 h1 ho1 hf1 hnew1 => ?_)
      rw [Nat.zero_add, List.nil_append] at ho1
      have f1 : Fr (fun _ => False) h h1 := Fr.trans (S := fun _ => False) hp0 hf1 fun i hi e => by have : h.n = i := e; omega
      have hn1 := hf1.n
      simp only [Heap.n_push] at hn1
      refine stp ?_
      refine O.append ho1 ((hv0.keep f1 fun _ _ => id).new _) (by rw [bcells_len]; omega) (bcells_one _) (by omega) (by omega) (by omega) (fun v2 h2 ho2 hf2 hnew2 => ?_)
      have hown1 : ∀ i, ownedBy v1 i → h.n ≤ i := fun i hi => by
        rcases hnew1 i hi with e | e
        · have : h.n = i := e; omega
        · simp at e; omega
      have f2 : Fr (fun _ => False) h h2 := Fr.trans (S := fun _ => False) f1 hf2 fun i hi e => by have := hown1 i e; omega
      have hown2 : ∀ i, ownedBy v2 i → h.n ≤ i := fun i hi => (hnew2 i hi).elim (hown1 i) fun e => by omega
      obtain ⟨a2, cap2, rfl, hl2, _⟩ := ho2.rd
      haveI := f2.keep i0 hlt id
      refine stp ?_
      refine ⟨rfl, ⟨.slice a2 (bs.length + l.length) cap2, by simpa using f2.lt hlt, hle, by rw [Heap.get_set, if_pos rfl], ?_, fun e => by have := hown2 _ e; omega, fun i hi => by have := hown2 i hi; omega, by simp; omega⟩, Fr.set (f2.mono fun _ _ h => h.elim) fun _ => rfl⟩
      show Own _ 1 (.slice a2 (bs.length + l.length) cap2) (bcells (bs ++ l)) (bs ++ l).length
      rw [bcells_append, List.length_append]
      exact ho2.keep (S := fun i => i = p) (Fr.refl.set fun _ => rfl) fun i hi e => by have := hown2 i hi; omega
  · refine stp ?_
    refine C.if (fun h0 => absurd h0 he) (fun _ => ?_)
    refine stp ?_
    rw [if_pos (by simpa using he)]
    exact ⟨rfl, ⟨_, hw⟩, Fr.refl⟩
theorem Num_okD {h : Heap} {lo p lim : Nat} {st : WSt} {n : Int} (hw : DWs h lo p lim st) (hn : n ≤ 9223372036854775807) (hlim : lim < 1048576 ∨ st.bs.length + 9 < 1048576) :
    Runs Tryz.prog T0 (.fn fn_zbbQ) [.pointer (some ⟨p, 0, none⟩), .int .i64 n] h (DWrites h lo p lim (putS lim (decide (0 ≤ n)) (numF n.toNat) st)) (fun _ _ => False) := by
  obtain ⟨bs, e⟩ := st
  have hlo := hw.lo_le
  have hw0 := hw
  obtain ⟨sv, hw⟩ := hw.ex
  have hw : DW h lo p sv bs lim e := hw
  have hlt := hw.lt
  obtain ⟨a0, cap0, rfl, hl0, _⟩ := hw.own.rd
  haveI i0 : HGet h p _ := ⟨hw.get⟩
  refine zbbQ_runs ?_
  refine stp ?_
  refine O.dec (fun hneg => ?_) (fun hpos => ?_)
  · rw [decide_eq_false (show ¬ 0 ≤ n by omega)]
    unfold putS
    refine stp ?_
    refine C.if (fun he => ?_) (fun he => ?_)
    · subst he
      refine stp ?_
      rw [if_neg (by simp), if_pos rfl]
      exact ⟨rfl, ⟨.slice a0 bs.length cap0, by simpa using hlt, hw.le, by rw [Heap.get_set, if_pos rfl], hw.own.keep (S := fun i => i = p) (Fr.refl.set fun _ => rfl) fun i hi hp => hw.apart (hp ▸ hi), hw.apart, hw.above, hw.small⟩, Fr.refl.set fun _ => rfl⟩
    · refine stp ?_
      refine C.ifN (fun _ => ?_) (fun h0 => absurd h0 he)
      refine stp ?_
      rw [if_pos (by simpa using he)]
      exact ⟨rfl, ⟨_, hw⟩, Fr.refl⟩
  · rw [decide_eq_true (show 0 ≤ n by omega)]
    refine stp ?_
    refine C.ifN (fun he => ?_) (fun he => ?_)
    · refine stp ?_
      unfold putS
      rw [if_pos (by simpa using he)]
      exact ⟨rfl, ⟨_, hw⟩, Fr.refl⟩
    · subst he
      refine stp ?_
      have e0 : n = ((n.toNat : Nat) : Int) := by omega
      have hfl := numF_len (n := n.toNat) (by omega)
      have kN := Number_okD (h := h) (N := n.toNat) (by omega)
      rw [← e0] at kN
      refine O.call' kN (fun r h1 hr => ?_)
      obtain ⟨ho, hnew, hf⟩ := hr
      refine stp ?_
      refine O.call' (Put_okD (l := numF n.toNat) (hw0.none hf) ho.rd (hlim.imp id fun h => by have h : bs.length + 9 < 1048576 := h; show bs.length + _ < _; omega) (by omega)) (fun r h2 hr => ?_)
      obtain ⟨rfl, hw2, hf2⟩ := hr
      refine stp ?_
      exact ⟨rfl, hw2, Fr.trans' (hf.mono fun _ _ h => h.elim) hf2⟩
theorem Hash_okD {h : Heap} {lo p lim : Nat} {st : WSt} {l : List UInt8} (hw : DWs h lo p lim st) (hl : l.length = 32) (hlim : lim < 1048576 ∨ st.bs.length + 32 < 1048576) :
    Runs Tryz.prog T0 (.fn fn_zzQ) [.pointer (some ⟨p, 0, none⟩), .agg ⟨bcells l⟩] h (DWrites h lo p lim (putS lim true l st)) (fun _ _ => False) := by
  haveI := l32 hl
  refine zzQ_runs ?_
  refine stp ?_
  have hp : Fr (fun _ => False) h ((h.push (.cells (bcells l) 0)).push (.cells [] 0)) := Fr.refl.push.push
  refine O.append (size := 1) (bytes := 1) (n := 0) (c := []) (m := 32) (d := bcells l) (.lit (q := h.n + 1) (es := 0) (by simp) (by rw [Heap.get_push, if_pos (by simp)])) (Rd.new (Rd.mk (by simp; omega) (by rw [cellsAt_of (c := bcells l) (by rw [Heap.get_push, if_neg (by simp), Heap.get_push, if_pos rfl]; rfl) (by rw [bcells_len]; omega), List.drop_zero, List.take_of_length_le (by rw [bcells_len]; omega)])) _) (by rw [bcells_len]; omega) (bcells_one _) (by omega) (by omega) (by omega) (fun v1 h1 ho1 hf1 hnew1 => ?_)
  rw [Nat.zero_add, List.nil_append] at ho1
  have f1 : Fr (fun _ => False) h h1 := Fr.trans (S := fun _ => False) hp hf1 fun i hi e => by have : h.n + 1 = i := e; omega
  refine stp ?_
  refine O.call' (Put_okD (l := l) (hw.none f1) (by rw [hl]; exact ho1.rd) (by rw [hl]; exact hlim) (by omega)) (fun r h2 hr => ?_)
  obtain ⟨rfl, hw2, hf2⟩ := hr
  refine stp ?_
  exact ⟨rfl, hw2, Fr.trans' (f1.mono fun _ _ h => h.elim) hf2⟩
theorem NewWriter_okD {h : Heap} {lim : Nat} (hl : lim ≤ 1048576) :
    Runs Tryz.prog T0 (.fn fn_zoQ) [.int .i64 lim] h (fun r h' => r = .tuple ⟨[.pointer (some ⟨h.n, 0, none⟩), .int .i64 0]⟩ ∧ DWs h' h.n h.n lim ⟨[], 0⟩ ∧ Fr (fun _ => False) h h') (fun _ _ => False) := by
  refine zoQ_runs ?_
  refine stp ?_
  refine C.if (fun h1 => by omega) (fun _ => ?_)
  refine stp ?_
  refine ⟨rfl, ⟨.slice none 0 0, by simp, Nat.le_refl _, by rw [Heap.get_push, if_pos rfl], .none, fun h => h, fun i h => h.elim, by simp⟩, Fr.refl.push⟩
theorem Done_okD {h : Heap} {lo p lim : Nat} {st : WSt} (hw : DWs h lo p lim st) (hs : st.bs.length < 1048576) :
    Runs Tryz.prog T0 (.fn fn_zyQ) [.pointer (some ⟨p, 0, none⟩)] h
      (fun r h' => ∃ v, r = .tuple ⟨[v, .int .i64 st.e]⟩ ∧ Own h' 1 v (bcells (if st.e = 0 then st.bs else [])) (if st.e = 0 then st.bs else []).length ∧ (∀ i, ownedBy v i → h.n ≤ i) ∧ Fr (fun _ => False) h h') (fun _ _ => False) := by
  obtain ⟨bs, e⟩ := st
  obtain ⟨sv, hw⟩ := hw.ex
  have hw : DW h lo p sv bs lim e := hw
  have hs : bs.length < 1048576 := hs
  obtain ⟨a0, cap0, rfl, hl0, _⟩ := hw.own.rd
  haveI : HGet h p _ := ⟨hw.get⟩
  haveI : BLt p h := ⟨hw.lt⟩
  refine zyQ_runs ?_
  refine stp ?_
  refine C.ifN (fun he => ?_) (fun he => ?_)
  · refine stp ?_
    rw [if_neg he]
    exact ⟨_, rfl, .none, fun i h => h.elim, Fr.refl⟩
  · subst he
    refine stp ?_
    have hp0 : Fr (fun _ => False) h (h.push (.cells [] 0)) := Fr.refl.push
    refine O.append (size := 1) (bytes := 1) (n := 0) (c := []) (m := bs.length) (d := bcells bs) (.lit (q := h.n) (es := 0) (by simp) (by rw [Heap.get_push, if_pos rfl])) ((hw.own.rd.keep hp0 fun _ _ => id).new _) (by rw [bcells_len]; omega) (bcells_one _) (by omega) (by omega) (by omega) (fun v1 h1 ho1 hf1 hnew1 => ?_)
    rw [Nat.zero_add, List.nil_append] at ho1
    refine stp ?_
    refine ⟨v1, rfl, ho1, fun i hi => ?_, Fr.trans (S := fun _ => False) hp0 hf1 fun i hi e => by have : h.n = i := e; omega⟩
    rcases hnew1 i hi with e | e
    · have : h.n = i := e; omega
    · simp at e; omega
end Go.Proofs.YtagmnpeilgnbdaaGreat.A

namespace Go.Proofs.YtagmnpeilgnbdaaGreat.A
open Go Go.Vm
set_option maxRecDepth 10000
set_option linter.unusedVariables false
structure PVs (h : Heap) (S : Nat → Prop) (p lim : Nat) (st : WSt) : Prop where
  ex : ∃ sv, PW h 0 p sv st.bs lim st.e ∧ S p ∧ ∀ i, ownedBy sv i → S i
theorem PVs.mk' {h : Heap} {S : Nat → Prop} {p lim : Nat} {bs : List UInt8} {e : Int} {sv : Value} (hp : S p) (ho : ∀ i, ownedBy sv i → S i) (hw : PW h 0 p sv bs lim e) : PVs h S p lim ⟨bs, e⟩ := ⟨sv, hw, hp, ho⟩
def WritesV (h : Heap) (S : Nat → Prop) (p lim : Nat) (st : WSt) (r : Value) (h' : Heap) : Prop := r = .int .i64 st.e ∧ PVs h' S p lim st ∧ Fr S h h'
theorem PVs.keep {S S' : Nat → Prop} {h h' : Heap} {p lim : Nat} {st : WSt} (hw : PVs h S p lim st) (hf : Fr S' h h') (hs : ∀ i, S' i → ¬ S i) : PVs h' S p lim st :=
  let ⟨sv, h1, h2, h3⟩ := hw.ex
  ⟨sv, h1.keep hf (fun h => hs _ h h2) fun i hi h => hs _ h (h3 i hi), h2, h3⟩
theorem PVs.none {S : Nat → Prop} {h h' : Heap} {p lim : Nat} {st : WSt} (hw : PVs h S p lim st) (hf : Fr (fun _ => False) h h') : PVs h' S p lim st := hw.keep hf fun _ h => h.elim
theorem PVs.mono {S S' : Nat → Prop} {h : Heap} {p lim : Nat} {st : WSt} (hw : PVs h S p lim st) (hs : ∀ i, i < h.n → S i → S' i) : PVs h S' p lim st :=
  let ⟨sv, h1, h2, h3⟩ := hw.ex
  ⟨sv, h1, hs _ h1.lt h2, fun i hi => hs i (h1.own.lt hi) (h3 i hi)⟩
theorem PVs.of {h : Heap} {lo p lim : Nat} {st : WSt} (hw : PWs h lo p lim st) : PVs h (fun i => lo ≤ i) p lim st :=
  let ⟨sv, h1⟩ := hw.ex
  ⟨sv, ⟨h1.lt, Nat.zero_le _, h1.get, h1.own, h1.apart, fun _ _ => Nat.zero_le _, h1.small⟩, h1.le, h1.above⟩
theorem PVs.to {h : Heap} {lo p lim : Nat} {st : WSt} (hw : PVs h (fun i => lo ≤ i) p lim st) : PWs h lo p lim st :=
  let ⟨sv, h1, h2, h3⟩ := hw.ex
  ⟨sv, ⟨h1.lt, h2, h1.get, h1.own, h1.apart, h3, h1.small⟩⟩
theorem PVs.lt {h : Heap} {S : Nat → Prop} {p lim : Nat} {st : WSt} (hw : PVs h S p lim st) : p < h.n := let ⟨_, h1, _⟩ := hw.ex; h1.lt
theorem put_okV {h : Heap} {S : Nat → Prop} {p lim : Nat} {st : WSt} {may : Bool} {v : Value} {ls : List (Value × List UInt8)} (hw : PVs h S p lim st) (hS : ∀ i, h.n ≤ i → S i) (hv : Rd h 1 v (ls.map (·.1)) ls.length) (hp : Parts h ls) (hn : ls.length < 1048576) (hs : st.bs.length + (flat ls).length < 1048576) :
    Runs Tryz.prog T0 (.fn fn_ztdQ) [.pointer (some ⟨p, 0, none⟩), .bool may, v] h (WritesV h S p lim (putS lim may (flat ls) st)) (fun _ _ => False) := by
  obtain ⟨bs, e⟩ := st
  obtain ⟨sv, hw, hSp, hSo⟩ := hw.ex
  have hs : bs.length + (flat ls).length < 1048576 := hs
  have hw : PW h 0 p sv bs lim e := hw
  have hlt := hw.lt
  obtain ⟨a0, cap0, rfl, hl0, _⟩ := hw.own.rd
  haveI : HGet h p _ := ⟨hw.get⟩
  refine ztdQ_runs ?_
  refine stp ?_
  refine O.call' (Concat_ok hv hp hn (by omega)) (fun r h1 hr => ?_)
  obtain ⟨ho, hnew, hf⟩ := hr
  obtain ⟨a1, cap1, rfl, hl1, _⟩ := ho.rd
  have hw1 := hw.keep hf id fun _ _ => id
  haveI : HGet h1 p _ := ⟨hw1.get⟩
  have hfl : Fr S h h1 := hf.mono fun _ _ h => h.elim
  refine stp ?_
  refine C.ifN (fun he => ?_) (fun he => ?_)
  · refine stp ?_
    unfold putS
    rw [if_pos (by simpa using he)]
    exact ⟨rfl, ⟨_, hw1, hSp, hSo⟩, hfl⟩
  · subst he
    refine stp ?_
    cases may with
    | false =>
      refine stp ?_
      unfold putS
      rw [if_neg (by simp), if_pos rfl]
      refine ⟨rfl, .mk' hSp hSo ⟨by simpa using hw1.lt, Nat.zero_le _, by rw [Heap.get_set, if_pos rfl], hw1.own.keep (S := fun i => i = p) (Fr.refl.set fun _ => rfl) fun i hi hp => hw1.apart (hp ▸ hi), hw1.apart, fun _ _ => Nat.zero_le _, hw1.small⟩, hfl.set fun _ => hSp⟩
    | true =>
      refine stp ?_
      refine C.if (fun hlong => ?_) (fun hfit => ?_)
      · refine stp ?_
        unfold putS
        rw [if_neg (by simp), if_neg (by simp), if_pos (by simp only; omega)]
        refine ⟨rfl, .mk' hSp hSo ⟨by simpa using hw1.lt, Nat.zero_le _, by rw [Heap.get_set, if_pos rfl], hw1.own.keep (S := fun i => i = p) (Fr.refl.set fun _ => rfl) fun i hi hp => hw1.apart (hp ▸ hi), hw1.apart, fun _ _ => Nat.zero_le _, hw1.small⟩, hfl.set fun _ => hSp⟩
      · refine stp ?_
        refine O.append hw1.own (ho.rd.new [.int .u8 0]) (by rw [bcells_len]; omega) (bcells_one _) (by omega) (by omega) (by omega) (fun v' h2 h3 h4 h5 => ?_)
        obtain ⟨a2, cap2, rfl, hl2, _⟩ := h3.rd
        have hp2 : HGet h2 p _ := h4.keep ⟨hw1.get⟩ hw1.lt hw1.apart
        refine stp ?_
        have hnp : ¬ ownedBy (.slice a2 (bs.length + (flat ls).length) cap2) p := fun hi => by
          rcases h5 p hi with h6 | h6
          · exact hw1.apart h6
          · have := hw1.lt; omega
        unfold putS
        rw [if_neg (by simp), if_neg (by simp), if_neg (by simp only; omega)]
        refine ⟨rfl, .mk' (sv := .slice a2 (bs.length + (flat ls).length) cap2) hSp (fun i hi => ?_) ⟨by have := h4.lt hw1.lt; simpa using this, Nat.zero_le _, by rw [Heap.get_set, if_pos rfl], ?_, hnp, fun _ _ => Nat.zero_le _, by simp; omega⟩, Fr.set (Fr.trans (S := S) hfl h4 fun i hi ho' => hSo i ho') fun _ => hSp⟩
        · rcases h5 i hi with h6 | h6
          · exact hSo i h6
          · have := hf.n; exact hS i (by omega)
        · show Own _ 1 (.slice a2 (bs.length + (flat ls).length) cap2) (bcells (bs ++ flat ls)) (bs ++ flat ls).length
          rw [bcells_append, List.length_append]
          exact h3.keep (S := fun i => i = p) (Fr.refl.set fun _ => rfl) fun i hi hp => hnp (hp ▸ hi)
theorem WNum_okV {h : Heap} {S : Nat → Prop} {p lim : Nat} {st : WSt} {n : Int} (hw : PVs h S p lim st) (hS : ∀ i, h.n ≤ i → S i) (hn : n ≤ 9223372036854775807) (hs : st.bs.length + 9 < 1048576) :
    Runs Tryz.prog T0 (.fn fn_zrdQ) [.pointer (some ⟨p, 0, none⟩), .int .i64 n] h (WritesV h S p lim (putS lim (decide (0 ≤ n)) (numF n.toNat) st)) (fun _ _ => False) := by
  refine zrdQ_runs ?_
  refine stp ?_
  have hm : (if (0 : Int) > n then 0 else n) = ((n.toNat : Nat) : Int) := by split <;> omega
  rw [hm]
  refine O.call' (number_ok (N := n.toNat) (by omega)) (fun r h1 hr => ?_)
  obtain ⟨hrd, hnew, hf⟩ := hr
  have hw1 := hw.none hf
  have hfl := numF_len (n := n.toNat) (by omega)
  obtain ⟨a1, cap1, rfl, hl1, _⟩ := id hrd
  refine stp ?_
  refine O.call' (put_okV (ls := [(.slice a1 (numF n.toNat).length cap1, numF n.toNat)]) (hw1.none Fr.refl.push) (fun i hi => hS i (by have := hf.n; simp at hi; omega)) (rd_lit rfl) ?_ (by simp) (by simp [flat]; omega)) (fun r h2 hr => ?_)
  · intro q hq
    simp at hq
    subst hq
    exact hrd.keep (S := fun _ => False) Fr.refl.push fun _ _ => id
  · refine stp ?_
    rw [show flat [(Value.slice a1 (numF n.toNat).length cap1, numF n.toNat)] = numF n.toNat from by simp [flat]] at hr
    exact ⟨hr.1, hr.2.1, Fr.trans (S := S) (hf.mono fun _ _ h => h.elim) (Fr.trans (S := S) Fr.refl.push hr.2.2 fun _ _ h => h) fun _ _ h => h⟩
theorem WHash_okV {h : Heap} {S : Nat → Prop} {p lim : Nat} {st : WSt} {l : List UInt8} (hw : PVs h S p lim st) (hS : ∀ i, h.n ≤ i → S i) (hl : l.length = 32) (hs : st.bs.length + 32 < 1048576) :
    Runs Tryz.prog T0 (.fn fn_zpdQ) [.pointer (some ⟨p, 0, none⟩), .agg ⟨bcells l⟩] h (WritesV h S p lim (putS lim true l st)) (fun _ _ => False) := by
  haveI := l32 hl
  refine zpdQ_runs ?_
  refine stp ?_
  refine O.call' (put_okV (ls := [(.slice (some ⟨h.n, 0, none⟩) 32 32, l)]) (hw.none Fr.refl.push.push) (fun i hi => hS i (by simp at hi; omega)) (rd_lit rfl) ?_ (by simp) (by simp [flat]; omega)) (fun r h2 hr => ?_)
  · intro q hq
    simp at hq
    subst hq
    rw [hl]
    exact (rd_lit (h := h) (c := bcells l) (es := 0) (n := 32) (by simpa [bcells] using hl)).keep (S := fun _ => False) Fr.refl.push fun _ _ => id
  · refine stp ?_
    rw [show flat [(Value.slice (some ⟨h.n, 0, none⟩) 32 32, l)] = l from by simp [flat]] at hr
    exact ⟨hr.1, hr.2.1, Fr.trans (S := S) Fr.refl.push.push hr.2.2 fun _ _ h => h⟩
end Go.Proofs.YtagmnpeilgnbdaaGreat.A

namespace Go.Proofs.YtagmnpeilgnbdaaGreat.A
open Go Go.Vm
set_option maxRecDepth 10000
set_option linter.unusedVariables false
theorem mkStoreN {P : Program} {ts : List Value} {h : Heap} {a x : Operand} {v : Value} {o r n es : Nat} {sp : Option Nat} {xs c : List Value} (ho : o + xs.length ≤ c.length) (h1 : xs.all Value.oneCell' = true) (hn : n = xs.length) [e : Ev ts a (.pointer (some ⟨r, o, sp⟩))] [f : Ev ts x v] [k : CellsOf v xs] [g : HGet h r (.cells c es)] :
    xop P (eval ts) h (.store n a x) = .ok undef (h.set r (.cells (over c o xs) es)) := by
  have hp : putAt h r o xs = some (h.set r (.cells (over c o xs) es)) := by
    unfold putAt
    rw [g.eq]
    show (if o + xs.length ≤ c.length ∧ xs.all Value.oneCell' = true then some (h.set r (.cells (over c o xs) es)) else none) = _
    rw [if_pos ⟨ho, h1⟩]
  subst hn
  simp only [xop, e.eq, f.eq, k.eq, k.len, hp, if_true]
end Go.Proofs.YtagmnpeilgnbdaaGreat.A

namespace Go.Proofs.YtagmnpeilgnbdaaGreat.A
open Go Go.Vm
set_option maxRecDepth 10000
set_option linter.unusedVariables false
def byteAt (n k : Nat) : UInt8 := UInt8.ofNat (n / 2 ^ (8 * k) % 256)
def word8 (n : Nat) : List UInt8 := [byteAt n 7, byteAt n 6, byteAt n 5, byteAt n 4, byteAt n 3, byteAt n 2, byteAt n 1, byteAt n 0]
theorem word8_len (n : Nat) : (word8 n).length = 8 := rfl
theorem shrU {P : Program} {ts : List Value} {h : Heap} {x y : Operand} {t t' ty : TypeId} {N s : Nat} {q : Int} {J : IntKind} (hq : q = s) (hs : s < 64) [e1 : Ev ts x (.int .u64 (N : Nat))] [e2 : Ev ts y (.int J q)] :
    XOp P ts h (.bin .shr (so (.binOp .shr t x y t') ty) x y) (.int .u64 ((N / 2 ^ s : Nat) : Int)) h := by
  have := XOp.shr (P := P) (ts := ts) (h := h) (x := x) (y := y) (t := t) (t' := t') (ty := ty) (K := .u64) (J := J) (p := (N : Int)) (q := q) (by omega)
  rw [show min q.toNat IntKind.u64.bits = s from by rw [hq, show IntKind.u64.bits = 64 from rfl]; omega, Int.fdiv_eq_ediv_of_nonneg _ (by exact_mod_cast Nat.zero_le _)] at this
  rw [show ((N / 2 ^ s : Nat) : Int) = (N : Int) / 2 ^ s from by rw [Int.natCast_ediv, Int.natCast_pow]; rfl]
  exact this
theorem byte_wrap (N : Nat) : IntKind.wrap .u8 ((N : Nat) : Int) = (((UInt8.ofNat (N % 256)).toNat : Nat) : Int) := by
  rw [wrap_u8, u8nat (Nat.mod_lt _ (by omega))]
  omega
def wk (n k : Nat) : List Value := bcells (List.replicate (8 - k) 0 ++ (word8 n).drop (8 - k))
set_option maxHeartbeats 4000000 in
theorem word_ok {h : Heap} {n : Nat} : Runs Tryz.prog T0 (.fn fn_zeeQ) [.int .u64 n] h (fun r h' => r = .agg ⟨bcells (word8 n)⟩ ∧ Fr (fun _ => False) h h') (fun _ _ => False) := by
  refine zeeQ_runs ?_
  refine stp ?_
  refine loop1 zeeQ_l0_M 5 (fun m v5 h' => ∃ k : Nat, k ≤ 8 ∧ m = 8 - k ∧ v5 = .int .i64 k ∧ h'.get (h.n + 1) = .cells (wk n k) 0 ∧ h'.get h.n = .cells [.int .u8 0, .int .u8 0, .int .u8 0, .int .u8 0, .int .u8 0, .int .u8 0, .int .u8 0, .int .u8 0] 0 ∧ h.n + 1 < h'.n ∧ Fr (fun _ => False) h h') ?_ 8 ⟨0, by omega, rfl, rfl, HGet.new.eq, by rw [Heap.get_push, if_neg (by simp), Heap.get_push, if_pos rfl], by simp, Fr.refl.push.push⟩
  rintro m v5 h' x4 x6 x7 x8 x9 x10 x11 x12 x13 x14 x15 x16 ⟨k, hk, rfl, rfl, hg, hg0, hn, hf⟩
  have hst : ∀ {k : Nat} {b : UInt8}, k < 8 → b = byteAt n k → over (wk n k) (7 - k) [.int .u8 (b.toNat : Nat)] = wk n (k + 1) := by
    intro k b hk hb
    subst hb
    rcases (show k = 0 ∨ k = 1 ∨ k = 2 ∨ k = 3 ∨ k = 4 ∨ k = 5 ∨ k = 6 ∨ k = 7 by omega) with rfl | rfl | rfl | rfl | rfl | rfl | rfl | rfl <;> rfl
  haveI : HGet h' (h.push (.cells [.int .u8 0, .int .u8 0, .int .u8 0, .int .u8 0, .int .u8 0, .int .u8 0, .int .u8 0, .int .u8 0] 0)).n _ := ⟨hg⟩
  haveI : BNe h.n (h.push (.cells [.int .u8 0, .int .u8 0, .int .u8 0, .int .u8 0, .int .u8 0, .int .u8 0, .int .u8 0, .int .u8 0] 0)).n := ⟨by simp⟩
  haveI : HGet h' h.n _ := ⟨hg0⟩
  refine stp ?_
  refine C.if (fun hlt => ?_) (fun hge => ?_)
  · refine stp ?_
    refine O.how (shrU (N := n) (s := 8 * k) (by rw [mul_in (by omega)]; omega) (by omega)) ?_
    refine stp ?_
    rw [byte_wrap]
    have h8 : (7 - (k : Int)).toNat = 7 - k := by omega
    simp only [h8, Nat.zero_add, Nat.mul_one]
    refine O.by0 (mkStoreN (P := Tryz.prog) (h := h') (xs := [.int .u8 (byteAt n k).toNat]) (c := wk n k) (r := h.n + 1) (o := 7 - k) (sp := none) (es := 0) (by simp [wk, bcells_len, word8_len]) rfl rfl (g := ⟨hg⟩)) rfl ?_
    rw [hst (by omega) rfl]
    refine stp ?_
    exact loop1a 5 (8 - (k + 1)) (by omega) ⟨k + 1, by omega, rfl, rfl, by rw [Heap.get_set, if_pos rfl], by rw [Heap.get_set, if_neg (by omega)]; exact hg0, by simpa using hn, hf.set fun e => absurd e (by omega)⟩
  · obtain rfl : k = 8 := by omega
    have e8 : wk n 8 = [.int .u8 (byteAt n 7).toNat, .int .u8 (byteAt n 6).toNat, .int .u8 (byteAt n 5).toNat, .int .u8 (byteAt n 4).toNat, .int .u8 (byteAt n 3).toNat, .int .u8 (byteAt n 2).toNat, .int .u8 (byteAt n 1).toNat, .int .u8 (byteAt n 0).toNat] := rfl
    rw [e8] at hg
    haveI : HGet h' (h.push (.cells [.int .u8 0, .int .u8 0, .int .u8 0, .int .u8 0, .int .u8 0, .int .u8 0, .int .u8 0, .int .u8 0] 0)).n _ := ⟨hg⟩
    refine stp ?_
    exact ⟨rfl, hf.set fun e => absurd e (by omega)⟩
theorem WWord_okV {h : Heap} {S : Nat → Prop} {p lim : Nat} {st : WSt} {n : Nat} (hw : PVs h S p lim st) (hS : ∀ i, h.n ≤ i → S i) (hs : st.bs.length + 8 < 1048576) :
    Runs Tryz.prog T0 (.fn fn_zsdQ) [.pointer (some ⟨p, 0, none⟩), .int .u64 n] h (WritesV h S p lim (putS lim true (word8 n) st)) (fun _ _ => False) := by
  refine zsdQ_runs ?_
  refine stp ?_
  refine O.call' (word_ok (n := n)) (fun r h1 hr => ?_)
  obtain ⟨rfl, hf⟩ := hr
  have hw1 := hw.none hf
  have n1 := hf.n
  rw [show bcells (word8 n) = [.int .u8 (byteAt n 7).toNat, .int .u8 (byteAt n 6).toNat, .int .u8 (byteAt n 5).toNat, .int .u8 (byteAt n 4).toNat, .int .u8 (byteAt n 3).toNat, .int .u8 (byteAt n 2).toNat, .int .u8 (byteAt n 1).toNat, .int .u8 (byteAt n 0).toNat] from rfl]
  refine stp ?_
  refine O.call' (put_okV (ls := [(.slice (some ⟨h1.n, 0, none⟩) 8 8, word8 n)]) (hw1.none Fr.refl.push.push) (fun i hi => hS i (by simp at hi; omega)) (rd_lit rfl) ?_ (by simp) (by simp [flat, word8_len]; omega)) (fun r h2 hr => ?_)
  · intro q hq
    simp at hq
    subst hq
    exact (rd_lit (h := h1) (c := bcells (word8 n)) (es := 0) (n := 8) rfl).keep (S := fun _ => False) Fr.refl.push fun _ _ => id
  · refine stp ?_
    rw [show flat [(Value.slice (some ⟨h1.n, 0, none⟩) 8 8, word8 n)] = word8 n from by simp [flat]] at hr
    exact ⟨hr.1, hr.2.1, Fr.trans (S := S) (hf.mono fun _ _ h => h.elim) (Fr.trans (S := S) Fr.refl.push.push hr.2.2 fun _ _ h => h) fun _ _ h => h⟩
theorem div_step (n k : Nat) : n / 2 ^ (8 * k) / 256 = n / 2 ^ (8 * (k + 1)) := by
  rw [Nat.div_div_eq_div_mul, show 8 * (k + 1) = 8 * k + 8 from by omega, Nat.pow_add]
theorem word8_end (n k : Nat) (hk : k < 8) : byteAt n k :: (word8 n).drop (8 - k) = (word8 n).drop (8 - (k + 1)) := by
  rcases (show k = 0 ∨ k = 1 ∨ k = 2 ∨ k = 3 ∨ k = 4 ∨ k = 5 ∨ k = 6 ∨ k = 7 by omega) with rfl | rfl | rfl | rfl | rfl | rfl | rfl | rfl <;> rfl
set_option maxHeartbeats 4000000 in
theorem RWord8_ok {h : Heap} {n : Nat} : Runs Tryz.prog T0 (.fn fn_zxQ) [.int .u64 n] h (fun r h' => Rd h' 1 r (bcells (word8 n)) 8 ∧ Fr (fun _ => False) h h') (fun _ _ => False) := by
  refine zxQ_runs ?_
  refine stp ?_
  refine loop3 zxQ_l0_M 0 3 4 (fun m v0 v3 v4 h' => ∃ k : Nat, k ≤ 8 ∧ m = 8 - k ∧ v4 = .int .i64 k ∧ v0 = .int .u64 (n / 2 ^ (8 * k) : Nat) ∧ Rd h' 1 v3 (bcells ((word8 n).drop (8 - k))) k ∧ Fr (fun _ => False) h h') ?_ 8 ⟨0, by omega, rfl, rfl, by simp, Rd.nil, Fr.refl⟩
  rintro m v0 v3 v4 h' x5 x6 x7 x8 x9 x10 x11 x12 x13 x14 x15 ⟨k, hk, rfl, rfl, rfl, hr3, hf⟩
  refine stp ?_
  refine C.if (fun hlt => ?_) (fun hge => ?_)
  · refine stp ?_
    rw [byte_wrap]
    refine O.appendL (n := 1) (m := k) (c := [.int .u8 (byteAt n k).toNat]) (.lit (q := h'.n) (es := 0) (by simp) HGet.new.eq rfl) ((hr3.keep (S := fun _ => False) Fr.refl.push fun _ _ => id).new _) (by rw [bcells_len, List.length_drop, word8_len]; omega) (bcells_one _) (by omega) (by omega) (by omega) (fun v' h2 ho2 hf2 hn2 => ?_)
    refine stp ?_
    refine O.how XOp.shr8 ?_
    refine stp ?_
    rw [show (((n / 2 ^ (8 * k) : Nat) : Int) / 256) = ((n / 2 ^ (8 * (k + 1)) : Nat) : Int) from by rw [← div_step]; rfl]
    refine loop3a 0 3 4 (8 - (k + 1)) (by omega) ⟨k + 1, by omega, rfl, by rfl, rfl, ?_, hf.push.trans hf2 fun i hi e => by have : h'.n = i := e; have := hf.n; omega⟩
    rw [← word8_end n k (by omega), Nat.add_comm k 1]
    exact ho2.rd
  · obtain rfl : k = 8 := by omega
    obtain ⟨a, c, rfl, _⟩ := id hr3
    refine stp ?_
    exact ⟨hr3, hf⟩
theorem Word_okD {h : Heap} {lo p lim : Nat} {st : WSt} {n : Nat} (hw : DWs h lo p lim st) (hlim : lim < 1048576 ∨ st.bs.length + 8 < 1048576) :
    Runs Tryz.prog T0 (.fn fn_zdbQ) [.pointer (some ⟨p, 0, none⟩), .int .u64 n] h (DWrites h lo p lim (putS lim true (word8 n) st)) (fun _ _ => False) := by
  refine zdbQ_runs ?_
  refine stp ?_
  refine O.call' (RWord8_ok (n := n)) (fun r h1 hr => ?_)
  obtain ⟨hrd, f1⟩ := hr
  refine stp ?_
  refine O.call' (Put_okD (l := word8 n) (hw.none f1) hrd (by rw [word8_len]; exact hlim) (by simp [word8_len])) (fun r h2 hr => ?_)
  obtain ⟨rfl, hw2, hf2⟩ := hr
  refine stp ?_
  exact ⟨rfl, hw2, Fr.trans' (f1.mono fun _ _ h => h.elim) hf2⟩
end Go.Proofs.YtagmnpeilgnbdaaGreat.A

namespace Go.Proofs.YtagmnpeilgnbdaaGreat.A
open Go Go.Vm
set_option maxRecDepth 10000
set_option linter.unusedVariables false
theorem WKeyG_ok {h : Heap} {S : Nat → Prop} {p lim : Nat} {st : WSt} {k : K4} (hw : PVs h S p lim st) (hS : ∀ i, h.n ≤ i → S i) (hs : st.bs.length + 4 < 1048576) :
    Runs Tryz.prog T0 (.fn fn_zqdQ) [.pointer (some ⟨p, 0, none⟩), .agg ⟨k.cells⟩] h (WritesV h S p lim (putS lim true k.bs st)) (fun _ _ => False) := by
  refine zqdQ_runs ?_
  refine stp ?_
  refine O.call' (put_okV (ls := [(.slice (some ⟨h.n, 0, none⟩) 4 4, k.bs)]) (hw.none Fr.refl.push.push) (fun i hi => hS i (by simp at hi; omega)) (rd_lit rfl) ?_ (by simp) (by simp [flat]; omega)) (fun r h2 hr => ?_)
  · intro q hq
    simp at hq
    subst hq
    exact (rd_lit (h := h) (c := k.cells) (es := 0) (n := 4) rfl).keep (S := fun _ => False) Fr.refl.push fun _ _ => id
  · refine stp ?_
    rw [show flat [(Value.slice (some ⟨h.n, 0, none⟩) 4 4, k.bs)] = k.bs from by simp [flat]] at hr
    exact ⟨hr.1, hr.2.1, Fr.trans (S := S) Fr.refl.push.push hr.2.2 fun _ _ h => h⟩
theorem put0 {lim : Nat} {bs part : List UInt8} (h : bs.length + part.length ≤ lim) : putS lim true part ⟨bs, 0⟩ = ⟨bs ++ part, 0⟩ := by
  unfold putS
  rw [if_neg (by simp), if_neg (by simp), if_neg (by simp only; omega)]
def encG1 (s : Sg) : List UInt8 := s.key ++ (s.hash ++ word8 s.sg.toNat)
theorem encG1_len (s : Sg) : (encG1 s).length = 44 := by
  unfold encG1
  rw [List.length_append, List.length_append, s.hl, word8_len]
  rfl
def encGs (L : List Sg) : List UInt8 := L.flatMap encG1
theorem encGs_len : ∀ L : List Sg, (encGs L).length = L.length * 44
  | [] => rfl
  | s :: L => by rw [show encGs (s :: L) = encG1 s ++ encGs L from rfl, List.length_append, encG1_len, encGs_len L, List.length_cons]; omega
theorem encGs_take {L : List Sg} {k : Nat} (hk : k < L.length) : encGs (L.take (k + 1)) = encGs (L.take k) ++ encG1 (at' L k) := by
  have e : at' L k = L[k] := by simp only [at', List.getD_eq_getElem?_getD, List.getElem?_eq_getElem hk, Option.getD_some]
  unfold encGs
  rw [List.take_succ_eq_append_getElem hk, List.flatMap_append, e, List.flatMap_singleton]
def encG (L : List Sg) : List UInt8 := numF L.length ++ encGs L
theorem encG_len {L : List Sg} (h : L.length < 256) : (encG L).length ≤ 9 + L.length * 44 := by
  unfold encG
  have := numF_len (n := L.length) (by omega)
  rw [List.length_append, encGs_len]
  omega
section
variable {h : Heap} {p m c : Nat} {l : List GEnt} {most : Int} {L : List Sg}
set_option maxHeartbeats 8000000 in
theorem gEncode_ok (ha : TbAt h p m c l most L) (hp : ∀ s ∈ L, 0 ≤ s.sg) :
    Runs Tryz.prog T0 (.fn fn_zsbQ) [.pointer (some ⟨p, 0, none⟩)] h
      (fun r h' => ∃ v, r = .tuple ⟨[v, .int .i64 0]⟩ ∧ Own h' 1 v (bcells (encG L)) (encG L).length ∧ (∀ i, ownedBy v i → h.n ≤ i) ∧ Fr (fun _ => False) h h') (fun _ _ => False) := by
  have hll := ha.len
  have hnl := numF_len (n := L.length) (by omega)
  refine zsbQ_runs ?_
  refine stp ?_
  refine O.call' (gnone_ok ha) (fun r h0 hr => ?_)
  obtain ⟨rfl, rfl⟩ := hr
  refine stp ?_
  refine O.call' (NewWriter_ok (lim := 1048576) (Nat.le_refl _)) (fun r h1 hr => ?_)
  obtain ⟨rfl, hw, f1⟩ := hr
  have ha1 := ha.keep f1 id id
  haveI : HGet h1 p _ := ⟨ha1.g⟩
  haveI : HGet h1 m _ := ⟨ha1.gm⟩
  haveI : BLt p h1 := ⟨ha1.lp⟩
  have n1 := f1.n
  have hg : (gents l).length = L.length := by rw [show (gents l).length = l.length from List.length_map _, ha.ln]
  refine stp ?_
  rw [hg]
  refine O.call' (WNum_okV (n := (L.length : Int)) (PVs.of hw) (fun i hi => by omega) (by omega) (by simp)) (fun r h2 hr => ?_)
  obtain ⟨rfl, hw2, f2⟩ := hr
  rw [show decide (0 ≤ (L.length : Int)) = true from decide_eq_true (by omega), show ((L.length : Int)).toNat = L.length from by omega, put0 (by simp; omega)] at hw2
  have ha2 := ha1.keep f2 (by have := ha.lp; omega) (by have := ha.lm; omega)
  have n2 := f2.n
  refine stp ?_
  refine O.call' (gsorted_ok ha2) (fun r h3 hr => ?_)
  obtain ⟨ho, hnew, f3⟩ := hr
  have n3 := f3.n
  obtain ⟨a, cc, rfl, _, _⟩ := id ho.rd
  have hw3 := (hw2.mono (S' := fun i => h0.n ≤ i ∧ i < h2.n ∨ h3.n ≤ i) (fun i hi e => .inl ⟨e, hi⟩)).none f3
  refine stp ?_
  refine loop1 zsbQ_l0_M 24 (fun q v24 hx => ∃ k : Nat, k ≤ L.length ∧ q = L.length - k ∧ v24 = .int .i64 k ∧ PVs hx (fun i => h0.n ≤ i ∧ i < h2.n ∨ h3.n ≤ i) h0.n 1048576 ⟨numF L.length ++ encGs (L.take k), 0⟩ ∧ Fr (fun i => h0.n ≤ i ∧ i < h2.n ∨ h3.n ≤ i) h3 hx) ?_ L.length ⟨0, by omega, rfl, rfl, by rw [List.take_zero]; simpa [encGs] using hw3, Fr.refl⟩
  rintro m v24 h' x7 x25 x26 x27 x28 x29 x30 x31 x32 x33 x34 x35 x36 x37 x38 x39 x40 ⟨k, hk, rfl, rfl, hwk, hF⟩
  have nF := hF.n
  rcases Nat.lt_or_ge k L.length with hlt | hge
  · haveI q1 : ∀ {ts : List Value} {h : Heap} {O : Oper} {x z : Operand} [Ev ts x (.int .i64 (k : Nat))] [Ev ts z (.int .i64 (L.length : Nat))], XOp Tryz.prog ts h (.bin .lss O x z) (.bool true) h := xlss1 (by omega)
    obtain ⟨q, sx, cap, j, e, hq, hg⟩ := own_atG ho (by omega)
    cases e
    have hqn := hnew q rfl
    haveI : HGet h' q (.cells (gcells L ++ j) 37) := ⟨by rw [hF.get _ hq (by omega)]; exact hg⟩
    haveI : BLt q h' := ⟨hF.lt hq⟩
    haveI : IdxOff 0 (k : Int) 37 (k * 37) := ⟨by omega⟩
    haveI : Sub (gcells L ++ j) (k * 37) 37 (at' L k).cells := gsub hlt
    have hkl : (encGs (L.take k)).length ≤ 255 * 44 := by rw [encGs_len, List.length_take]; omega
    have hwk2 := (hwk.mono (S' := fun i => (h0.n ≤ i ∧ i < h2.n ∨ h3.n ≤ i) ∧ i ≠ h'.n) (fun i hi e => ⟨e, by omega⟩)).none (Fr.refl.push (o := .cells (at' L k).cells 0))
    have hsg : 0 ≤ (at' L k).sg := hp _ (by rw [show at' L k = L[k] from by simp only [at', List.getD_eq_getElem?_getD, List.getElem?_eq_getElem hlt, Option.getD_some]]; exact List.getElem_mem hlt)
    refine stp ?_
    have fG : Fr (fun i => h0.n ≤ i ∧ i < h2.n ∨ h3.n ≤ i) h' (h'.push (.cells (at' L k).cells 0)) := Fr.refl.push
    have nG : (h'.push (.cells (at' L k).cells 0)).n = h'.n + 1 := rfl
    have gG : (h'.push (.cells (at' L k).cells 0)).get h'.n = .cells (at' L k).cells 0 := HGet.new.eq
    generalize h'.push (.cells (at' L k).cells 0) = g at *
    have hb1 : (numF L.length ++ encGs (L.take k)).length ≤ 9 + 255 * 44 := by rw [List.length_append]; omega
    generalize hBB : numF L.length ++ encGs (L.take k) = B at *
    refine O.call' (WKeyG_ok (k := (at' L k).k4) hwk2 (fun i hi => ⟨by omega, by omega⟩) (by simp only; omega)) (fun r g1 hr => ?_)
    obtain ⟨rfl, hwa, fa⟩ := hr
    rw [put0 (by show B.length + 4 ≤ _; omega)] at hwa
    have na := fa.n
    haveI : HGet g1 h'.n (.cells (at' L k).cells 0) := ⟨by rw [fa.get _ (by omega) (fun e => e.2 rfl)]; exact gG⟩
    refine stp ?_
    refine O.call' (WHash_okV (l := (at' L k).hash) hwa (fun i hi => ⟨by omega, by omega⟩) (at' L k).hl (by show (B ++ (at' L k).k4.bs).length + 32 < _; rw [List.length_append]; show B.length + 4 + 32 < _; omega)) (fun r g2 hr => ?_)
    obtain ⟨rfl, hwb, fb⟩ := hr
    rw [put0 (by rw [List.length_append, (at' L k).hl]; show B.length + 4 + 32 ≤ _; omega)] at hwb
    have nb := fb.n
    haveI : HGet g2 h'.n (.cells (at' L k).cells 0) := ⟨by rw [fb.get _ (by omega) (fun e => e.2 rfl), fa.get _ (by omega) (fun e => e.2 rfl)]; exact gG⟩
    have hword := WWord_okV (n := (at' L k).sg.toNat) hwb (fun i hi => ⟨by omega, by omega⟩) (by show (B ++ (at' L k).k4.bs ++ (at' L k).hash).length + 8 < _; rw [List.length_append, List.length_append, (at' L k).hl]; show B.length + 4 + 32 + 8 < _; omega)
    rw [Int.toNat_of_nonneg hsg] at hword
    refine stp ?_
    refine O.call' hword (fun r g3 hr => ?_)
    obtain ⟨rfl, hwc, fc⟩ := hr
    rw [put0 (by rw [List.length_append, List.length_append, (at' L k).hl, word8_len]; show B.length + 4 + 32 + 8 ≤ _; omega)] at hwc
    refine stp ?_
    refine loop1a 24 (L.length - (k + 1)) (by omega) ⟨k + 1, by omega, rfl, rfl, ?_, hF.trans' (fG.trans' ((fa.trans' (fb.trans' fc)).mono fun _ _ e => e.1))⟩
    have hwd := hwc.mono (S' := fun i => h0.n ≤ i ∧ i < h2.n ∨ h3.n ≤ i) (fun i hi e => e.1)
    rw [encGs_take hlt, ← List.append_assoc, hBB]
    simp only [List.append_assoc] at hwd
    exact hwd
  · obtain rfl : k = L.length := by omega
    haveI q1 : ∀ {ts : List Value} {h : Heap} {O : Oper} {x z : Operand} [Ev ts x (.int .i64 (L.length : Nat))] [Ev ts z (.int .i64 (L.length : Nat))], XOp Tryz.prog ts h (.bin .lss O x z) (.bool false) h := xlss0 (by omega)
    refine stp ?_
    rw [List.take_length] at hwk
    have hwe := (hwk.mono (S' := fun i => h0.n ≤ i) (fun i hi e => by omega)).to
    refine O.call' (Done_ok hwe) (fun r h5 hr => ?_)
    obtain ⟨v, rfl, hov, hnv, f5⟩ := hr
    have hov : Own h5 1 v (bcells (encG L)) (encG L).length := hov
    have n5 := f5.n
    obtain ⟨a5, c5, rfl, _, _⟩ := id hov.rd
    refine stp ?_
    exact ⟨_, rfl, hov, fun i hi => by have := hnv i hi; omega, ((f1.trans f2 fun i hi e => by omega).trans' f3).trans (hF.trans' (f5.mono fun _ _ e => e.elim)) fun i hi e => by omega⟩
end
end Go.Proofs.YtagmnpeilgnbdaaGreat.A

namespace Go.Proofs.YtagmnpeilgnbdaaGreat.A
open Go Go.Vm
set_option maxRecDepth 10000
set_option linter.unusedVariables false
theorem bless_num : ∀ {l m : List UInt8}, l.length = m.length → Op.bytesLess l m = decide (bnum l < bnum m)
  | [], [], _ => rfl
  | a :: l, b :: m, h => by
    have hl : l.length = m.length := by simpa using h
    have h1 := bnum_lt l
    have h2 := bnum_lt m
    rw [← hl] at h2
    have hn := num_two (a := a.toNat) (b := b.toNat) h1 h2
    have e1 : bnum (a :: l) = a.toNat * 256 ^ l.length + bnum l := rfl
    have e2 : bnum (b :: m) = b.toNat * 256 ^ l.length + bnum m := by rw [hl]; rfl
    rw [e1, e2]
    simp only [hn.1]
    show (decide (a < b) || (a == b && Op.bytesLess l m)) = _
    rw [bless_num hl]
    by_cases hab : a = b
    · subst hab
      have : ¬ a < a := UInt8.lt_irrefl a
      simp
    · have hab' : a.toNat ≠ b.toNat := fun q => hab (u8eq.2 q)
      have hlt : (a < b) = (a.toNat < b.toNat) := rfl
      simp [hab, hab', hlt]
  | [], b :: m, h => by simp at h
  | a :: l, [], h => by simp at h
theorem bless_bv {l m : List UInt8} (h : l.length = m.length) : Op.bytesLess l m = decide (bv l < bv m) := by rw [bv_eq, bv_eq]; exact bless_num h
instance l4key {s : Sg} : L4 (bcells s.key) := ⟨rfl⟩
set_option maxHeartbeats 8000000 in
theorem RLess_ok {h : Heap} {a b : Sg} : Runs Tryz.prog T0 (.fn fn_zfbQ) [.agg ⟨a.cells⟩, .agg ⟨b.cells⟩] h (fun r h' => r = .bool (ltG a b) ∧ Fr (fun _ => False) h h') (fun _ _ => False) := by
  have gA : ((h.push (.cells a.cells 0)).push (.cells b.cells 0)).get h.n = .cells a.cells 0 := by rw [Heap.get_push, if_neg (by simp), Heap.get_push, if_pos rfl]
  have gB : ((h.push (.cells a.cells 0)).push (.cells b.cells 0)).get (h.n + 1) = .cells b.cells 0 := by rw [Heap.get_push, if_pos (by simp)]
  have n2 : ((h.push (.cells a.cells 0)).push (.cells b.cells 0)).n = h.n + 2 := rfl
  have F2 : Fr (fun _ => False) h ((h.push (.cells a.cells 0)).push (.cells b.cells 0)) := Fr.refl.push.push
  refine zfbQ_runs ?_
  refine stp ?_
  simp only [Heap.n_push]
  generalize (h.push (.cells a.cells 0)).push (.cells b.cells 0) = h2 at *
  haveI : HGet h2 h.n _ := ⟨gA⟩
  haveI : HGet h2 (h.n + 1) _ := ⟨gB⟩
  have cell : ∀ {b o n : Nat} {c out : List Value}, h2.get b = .cells c 0 → Sub c o n out → cellsAt h2 b o n = some out := fun {b o n c out} hg hs => by
    rw [cellsAt_of (c := c) (by rw [hg]; rfl) hs.le, hs.eq]
  have rA4 : Rd h2 1 (.slice (some ⟨h.n, 0, none⟩) 4 4) (bcells a.key) 4 := Rd.mk (n := 4) (by omega) (cell gA subKey)
  have rB4 : Rd h2 1 (.slice (some ⟨h.n + 1, 0, none⟩) 4 4) (bcells b.key) 4 := Rd.mk (n := 4) (by omega) (cell gB subKey)
  have rA32 : Rd h2 1 (.slice (some ⟨h.n, 4, none⟩) 32 32) (bcells a.hash) 32 := Rd.mk (n := 32) (by omega) (cell gA subHash)
  have rB32 : Rd h2 1 (.slice (some ⟨h.n + 1, 4, none⟩) 32 32) (bcells b.hash) 32 := Rd.mk (n := 32) (by omega) (cell gB subHash)
  haveI sA4 : ∀ {ts : List Value} {x : Operand} [Ev ts x (.slice (some ⟨h.n, 0, none⟩) 4 4)], XOp Tryz.prog ts h2 (.bytesToStr x) (.string ⟨⟨a.key⟩⟩) h2 := XOp.mkStr rA4
  haveI sB4 : ∀ {ts : List Value} {x : Operand} [Ev ts x (.slice (some ⟨h.n + 1, 0, none⟩) 4 4)], XOp Tryz.prog ts h2 (.bytesToStr x) (.string ⟨⟨b.key⟩⟩) h2 := XOp.mkStr rB4
  haveI sA32 : ∀ {ts : List Value} {x : Operand} [Ev ts x (.slice (some ⟨h.n, 4, none⟩) 32 32)], XOp Tryz.prog ts h2 (.bytesToStr x) (.string ⟨⟨a.hash⟩⟩) h2 := XOp.mkStr rA32
  haveI sB32 : ∀ {ts : List Value} {x : Operand} [Ev ts x (.slice (some ⟨h.n + 1, 4, none⟩) 32 32)], XOp Tryz.prog ts h2 (.bytesToStr x) (.string ⟨⟨b.hash⟩⟩) h2 := XOp.mkStr rB32
  refine stp ?_
  rw [same_bytes]
  have hkk : bv a.key = bv b.key ↔ a.key = b.key := ⟨bv_inj rfl, fun e => by rw [e]⟩
  have hhh : bv a.hash = bv b.hash ↔ a.hash = b.hash := ⟨bv_inj (by rw [a.hl, b.hl]), fun e => by rw [e]⟩
  by_cases hk : a.key = b.key
  · rw [decide_eq_true hk]
    refine stp ?_
    rw [same_bytes]
    by_cases hh : a.hash = b.hash
    · rw [decide_eq_true hh]
      refine stp ?_
      refine ⟨?_, F2⟩
      unfold ltG
      simp [hkk, hhh, hk, hh]
    · rw [decide_eq_false hh]
      refine stp ?_
      refine ⟨?_, F2⟩
      rw [ByteArray.toList_eq, ByteArray.toList_eq]
      show Value.bool (Op.bytesLess a.hash b.hash) = _
      rw [bless_bv (by rw [a.hl, b.hl])]
      unfold ltG
      simp [hkk, hhh, hk, hh]
  · rw [decide_eq_false hk]
    refine stp ?_
    refine ⟨?_, F2⟩
    rw [ByteArray.toList_eq, ByteArray.toList_eq]
    show Value.bool (Op.bytesLess a.key b.key) = _
    rw [bless_bv (l := a.key) (m := b.key) rfl]
    unfold ltG
    simp [hkk, hk]
end Go.Proofs.YtagmnpeilgnbdaaGreat.A

namespace Go.Proofs.YtagmnpeilgnbdaaGreat.A
open Go Go.Vm
set_option maxRecDepth 10000
set_option linter.unusedVariables false
structure DbAt (h : Heap) (w : Nat) (v : Value) (most : Int) (L : List Sg) : Prop where
  g : h.get w = .cells [.int .i64 most, v] 0
  lw : w < h.n
  ow : Own h 37 v (gcells L) L.length
  ap : ¬ ownedBy v w
  len : L.length < 256
theorem DbAt.keep {S : Nat → Prop} {h h' : Heap} {w : Nat} {v : Value} {most : Int} {L : List Sg} (a : DbAt h w v most L) (hf : Fr S h h') (h1 : ¬ S w) (h2 : ∀ i, ownedBy v i → ¬ S i) : DbAt h' w v most L :=
  ⟨by rw [hf.get _ a.lw h1]; exact a.g, hf.lt a.lw, a.ow.keep hf h2, a.ap, a.len⟩
theorem same_sg {a b : Sg} : same a.cells b.cells = decide (a = b) := by
  by_cases h : a = b
  · subst h
    rw [same_self]
    simp
  · rw [decide_eq_false h]
    exact same_ne.2 fun q => h (Sg.cells_inj q)
theorem at_eq {L : List Sg} {k : Nat} (hk : k < L.length) : at' L k = L[k] := by simp only [at', List.getD_eq_getElem?_getD, List.getElem?_eq_getElem hk, Option.getD_some]
instance grG {s : Sg} : GrL s.cells := ⟨by
  have := groundG s
  simpa [ground, groundA] using this⟩
section
variable {h : Heap} {w : Nat} {v : Value} {most : Int} {L : List Sg} {s : Sg}
set_option maxHeartbeats 4000000 in
theorem RHasG_ok (ha : DbAt h w v most L) : Runs Tryz.prog T0 (.fn fn_zibQ) [.pointer (some ⟨w, 0, none⟩), .agg ⟨s.cells⟩] h (fun r h' => r = .bool (decide (s ∈ L)) ∧ Fr (fun _ => False) h h') (fun _ _ => False) := by
  have hll := ha.len
  have F1 : Fr (fun _ => False) h (h.push (.cells s.cells 0)) := Fr.refl.push
  have ha1 := ha.keep F1 id (fun _ _ => id)
  have gs : (h.push (.cells s.cells 0)).get h.n = .cells s.cells 0 := HGet.new.eq
  have ns : (h.push (.cells s.cells 0)).n = h.n + 1 := rfl
  refine zibQ_runs ?_
  refine stp ?_
  generalize h.push (.cells s.cells 0) = h1 at *
  obtain ⟨av, cv, rfl, _, _⟩ := id ha1.ow.rd
  haveI : HGet h1 w _ := ⟨ha1.g⟩
  haveI : HGet h1 h.n _ := ⟨gs⟩
  haveI : BLt w h1 := ⟨ha1.lw⟩
  refine loop1 zibQ_l0_M 5 (fun q v5 hx => ∃ k : Nat, k ≤ L.length ∧ q = L.length - k ∧ v5 = .int .i64 k ∧ hx = h1 ∧ ∀ i, i < k → at' L i ≠ s) ?_ L.length ⟨0, by omega, rfl, rfl, rfl, fun i hi => by omega⟩
  rintro m v5 h' x4 x6 x7 x8 x9 x10 x11 x12 x13 x14 x15 x16 x17 x18 x19 x20 x21 x22 x23 ⟨k, hk, rfl, rfl, rfl, hno⟩
  rcases Nat.lt_or_ge k L.length with hlt | hge
  · haveI q1 : ∀ {ts : List Value} {h : Heap} {O : Oper} {x z : Operand} [Ev ts x (.int .i64 (k : Nat))] [Ev ts z (.int .i64 (L.length : Nat))], XOp Tryz.prog ts h (.bin .lss O x z) (.bool true) h := xlss1 (by omega)
    obtain ⟨q, sx, cap, j, e, hq, hg⟩ := own_atG ha1.ow (by omega)
    cases e
    haveI : HGet h' q (.cells (gcells L ++ j) 37) := ⟨hg⟩
    haveI : IdxOff 0 (k : Int) 37 (k * 37) := ⟨by omega⟩
    haveI : Sub (gcells L ++ j) (k * 37) 37 (at' L k).cells := gsub hlt
    refine stp ?_
    rw [same_sg]
    refine C.if (fun he => ?_) (fun he => ?_)
    · refine stp ?_
      exact ⟨by rw [decide_eq_true (by rw [← he]; exact at_mem hlt)], F1⟩
    · refine stp ?_
      refine loop1a 5 (L.length - (k + 1)) (by omega) ⟨k + 1, by omega, rfl, rfl, rfl, fun i hi => ?_⟩
      rcases Nat.lt_or_ge i k with q | q
      · exact hno i q
      · obtain rfl : i = k := by omega
        exact he
  · obtain rfl : k = L.length := by omega
    haveI q1 : ∀ {ts : List Value} {h : Heap} {O : Oper} {x z : Operand} [Ev ts x (.int .i64 (L.length : Nat))] [Ev ts z (.int .i64 (L.length : Nat))], XOp Tryz.prog ts h (.bin .lss O x z) (.bool false) h := xlss0 (by omega)
    refine stp ?_
    have hns : s ∉ L := fun hs => by
      obtain ⟨i, hi, e⟩ := List.mem_iff_getElem.1 hs
      exact hno i hi (by rw [at_eq hi]; exact e)
    exact ⟨by rw [decide_eq_false hns], F1⟩
end
end Go.Proofs.YtagmnpeilgnbdaaGreat.A

namespace Go.Proofs.YtagmnpeilgnbdaaGreat.A
open Go Go.Vm
set_option maxRecDepth 10000
set_option linter.unusedVariables false
class OwnI (h : Heap) (size : Nat) (v : Value) : Prop where
  ok : ∃ c n, Own h size v c n
instance {h : Heap} {size : Nat} {v : Value} {o : AObj} [k : OwnI h size v] : OwnI (h.push o) size v := ⟨by
  obtain ⟨c, n, h1⟩ := k.ok
  exact ⟨c, n, h1.keep (S := fun _ => False) Fr.refl.push fun _ _ => id⟩⟩
section
variable {P : Program} {ts : List Value} {h h' : Heap} {size n i : Nat} {v : Value} {c : List Value} {x lo hi : Operand} {p : Int}
theorem own_lo (hs : size ≠ 0) (ho : Own h size v c n) (i : Nat) (hi : i ≤ n) (hp : p = i) :
    ∃ v', (∀ b, blockOf v' b → ownedBy v b) ∧ Rd h size v' (c.drop (i * size)) (n - i) ∧ ∀ {P : Program} {ts : List Value} {h' : Heap} {x lo : Operand} [Ev ts x v] [Ev ts lo (.int .i64 p)] [OwnI h' size v], XOp P ts h' (.sliceSl size x (some lo) none none) v' h' := by
  have ix : ∀ {lim : Nat} {i : Nat}, i ≤ lim → idx (lim + 1) (.int .i64 i) = some i := fun hl => by rw [idx_in (by omega)]; simp
  subst hp
  cases ho with
  | none =>
    obtain rfl : i = 0 := by omega
    refine ⟨.slice none 0 0, fun b hb => hb.elim, by simpa using Rd.nil, fun {P ts h' x lo} e1 e2 k => ⟨rfl, ?_⟩⟩
    simp only [xop, e1.eq, sliceOf, bnd, e2.eq, ix (Nat.le_refl 0)]
    rfl
  | lit hq hg =>
    rename_i q es
    obtain rfl : i = 0 := by omega
    refine ⟨.slice (some ⟨q, 0, none⟩) 0 0, fun b hb => absurd rfl hb.2, by simpa using Rd.nil, fun {P ts h' x lo} e1 e2 k => ⟨rfl, ?_⟩⟩
    simp only [xop, e1.eq, sliceOf, bnd, e2.eq, ix (Nat.le_refl 0)]
    rfl
  | grown hq hn hle hl hl2 hg =>
    rename_i q k cap jj
    have hl3 := hl2
    rw [List.length_append] at hl3
    have hca : cellsAt h q 0 (n * size) = some c := by
      rw [cellsAt_of (by rw [hg]; rfl) (by rw [List.length_append]; omega), List.drop_zero, ← hl, List.take_left]
    have hmul : i * size + (n - i) * size = n * size := by rw [← Nat.add_mul]; congr 1; omega
    have nb1 : ∀ {e : Operand → Value}, bnd e cap n none = some n := rfl
    by_cases hi0 : i = 0
    · subst hi0
      refine ⟨.slice (some ⟨q, 0, some k⟩) n cap, fun b hb => hb.1, ?_, fun {P ts h' x lo} e1 e2 k => ⟨rfl, ?_⟩⟩
      · rw [Nat.zero_mul, List.drop_zero]
        exact Rd.mk hq hca
      · simp only [xop, e1.eq, sliceOf, bnd, e2.eq, ix (Nat.zero_le n)]
        rw [if_neg (by omega)]
        simp
    · by_cases hin : i = cap
      · refine ⟨.slice (some ⟨0, 0, some k⟩) 0 0, fun b hb => absurd rfl hb.2, ?_, fun {P ts h' x lo} e1 e2 k => ⟨rfl, ?_⟩⟩
        · have : n - i = 0 := by omega
          rw [this, List.drop_eq_nil_of_le (by rw [hl]; have := Nat.mul_le_mul_right size (show n ≤ i by omega); omega)]
          exact Rd.nil
        · simp only [xop, e1.eq, sliceOf, bnd, e2.eq, ix hi]
          rw [if_neg (by omega)]
          simp only [hi0, if_false]
          rw [if_pos hin.symm]
      · refine ⟨.slice (some ⟨q, 0 + i * size, some k⟩) (n - i) (cap - i), fun b hb => hb.1, ?_, fun {P ts h' x lo} e1 e2 kk => ⟨rfl, ?_⟩⟩
        · refine Rd.mk hq ?_
          have h5 := cellsAt_sub (k := i * size) (m := (n - i) * size) hca (by omega)
          rw [h5, List.take_of_length_le (by rw [List.length_drop]; omega)]
        · obtain ⟨c', n', ho'⟩ := kk.ok
          simp only [xop, e1.eq, sliceOf, bnd, e2.eq, ix hi]
          rw [if_neg (by omega)]
          cases ho' with
          | grown hq' hn' hle' hl' hl2' hg' => simp only [hi0, if_false, if_neg (Ne.symm hin), hg', if_true]
theorem own_hi (ho : Own h size v c n) (i : Nat) (hi : i ≤ n) (hp : p = i) :
    ∃ v', (∀ b, blockOf v' b → ownedBy v b) ∧ Rd h size v' (c.take (i * size)) i ∧ ∀ {P : Program} {ts : List Value} {h' : Heap} {x hi : Operand} [Ev ts x v] [Ev ts hi (.int .i64 p)], XOp P ts h' (.sliceSl size x none (some hi) none) v' h' := by
  have ix : ∀ {lim : Nat} {i : Nat}, i ≤ lim → idx (lim + 1) (.int .i64 i) = some i := fun hl => by rw [idx_in (by omega)]; simp
  subst hp
  cases ho with
  | none =>
    obtain rfl : i = 0 := by omega
    refine ⟨.slice none 0 0, fun b hb => hb.elim, by simpa using Rd.nil, fun {P ts h' x lo} e1 e2 => ⟨rfl, ?_⟩⟩
    simp only [xop, e1.eq, sliceOf, bnd, e2.eq, ix (Nat.le_refl 0)]
    rfl
  | lit hq hg =>
    rename_i q es
    obtain rfl : i = 0 := by omega
    refine ⟨.slice (some ⟨q, 0, none⟩) 0 0, fun b hb => absurd rfl hb.2, by simpa using Rd.nil, fun {P ts h' x lo} e1 e2 => ⟨rfl, ?_⟩⟩
    simp only [xop, e1.eq, sliceOf, bnd, e2.eq, ix (Nat.le_refl 0)]
    rfl
  | grown hq hn hle hl hl2 hg =>
    rename_i q k cap jj
    have h3 : i ≤ cap := by omega
    have hmul : i * size ≤ n * size := Nat.mul_le_mul_right _ hi
    refine ⟨.slice (some ⟨q, 0, some k⟩) i cap, fun b hb => hb.1, ?_, fun {P ts h' x lo} e1 e2 => ⟨rfl, ?_⟩⟩
    · refine Rd.mk hq ?_
      have hca : cellsAt h q 0 (n * size) = some c := by
        rw [cellsAt_of (by rw [hg]; rfl) (by rw [List.length_append]; omega), List.drop_zero, ← hl, List.take_left]
      have h5 := cellsAt_sub (k := 0) (m := i * size) hca (by omega)
      simpa using h5
    · simp only [xop, e1.eq, sliceOf, bnd, e2.eq, ix h3]
      rw [if_neg (by omega)]
      simp
end
end Go.Proofs.YtagmnpeilgnbdaaGreat.A

namespace Go.Proofs.YtagmnpeilgnbdaaGreat.A
open Go Go.Vm
set_option maxRecDepth 10000
set_option linter.unusedVariables false
section
variable {P : Program} {T : Table} {ts : List Value} {ds : List Deferred} {h : Heap} {rd : Option Nat} {dst size bytes n m el : Nat} {zero : List Value} {zeros : Bool} {x y : Operand} {v w : Value} {c d : List Value} {chk : List (Option Nat × AOp × Option (Nat × Bool))} {pan : Bool} {rest : List AOper} {Q : QP} {F : Value → List Value}
theorem D.appendC [e1 : Ev ts x v] [e2 : Ev ts y w] [s : LSetF ts dst F] (ho : Own h size v c n) (hx : newCells h size zero zeros w = some (m, d)) (hd : d.length = m * size) (h1 : d.all Value.oneCell' = true) (hs : size ≠ 0) (hb : bytes < 1048576) (hsm : n + m < 1048576)
    (hk : ∀ v' h', Own h' size v' (c ++ d) (n + m) → Fr (ownedBy v) h h' → (∀ i, ownedBy v' i → ownedBy v i ∨ h.n ≤ i) → chk.all (stable P (F v') h') = true ∧ RunD P T rest ⟨F v', ds, h', rd⟩ Q) : RunD P T (⟨some dst, .append el size bytes zero zeros x y, none, chk, pan⟩ :: rest) ⟨ts, ds, h, rd⟩ Q := by
  obtain ⟨v', h', hx, h2, h3, h4⟩ := append_own hs hb hsm ho hx hd h1
  exact RunD.cons rfl (RunX.ok (h' := h') (v := v') (fun call => by rw [xo_plain rfl]; simp only [xop, e1.eq, e2.eq, hx]) (by
    show chk.all (stable P (lset ts dst v') h') = true ∧ RunD P T rest ⟨lset ts dst v', ds, h', rd⟩ Q
    rw [s.eq]; exact hk v' h' h2 h3 h4))
end
end Go.Proofs.YtagmnpeilgnbdaaGreat.A

namespace Go.Proofs.YtagmnpeilgnbdaaGreat.A
open Go Go.Vm
set_option maxRecDepth 10000
set_option linter.unusedVariables false
theorem ins_atG {L : List Sg} {s : Sg} {k : Nat} (hk : k ≤ L.length) (h1 : ∀ y ∈ L.take k, ltG y s = true) (h2 : ∀ hk : k < L.length, ltG L[k] s = false) : L.take k ++ s :: L.drop k = insG s L := by
  have e1 : L.takeWhile (ltG · s) = L.take k := by
    conv => lhs; rw [← List.take_append_drop k L]
    rw [List.takeWhile_append_of_pos h1]
    have : (L.drop k).takeWhile (ltG · s) = [] := by
      rcases Nat.lt_or_ge k L.length with q | q
      · rw [List.drop_eq_getElem_cons q, List.takeWhile_cons_of_neg (by simp [h2 q])]
      · rw [List.drop_eq_nil_of_le q]; rfl
    rw [this, List.append_nil]
  have e2 : L.dropWhile (ltG · s) = L.drop k := by
    conv => lhs; rw [← List.take_append_drop k L]
    rw [List.dropWhile_append_of_pos h1]
    rcases Nat.lt_or_ge k L.length with q | q
    · rw [List.drop_eq_getElem_cons q, List.dropWhile_cons_of_neg (by simp [h2 q])]
    · rw [List.drop_eq_nil_of_le q]; rfl
  unfold insG
  rw [e1, e2]
theorem gc_take (L : List Sg) (k : Nat) : (gcells L).take (k * 37) = gcells (L.take k) := by
  rcases Nat.lt_or_ge k L.length with q | q
  · have h1 : (gcells (L.take k)).length = k * 37 := by rw [gcells_len, List.length_take]; congr 1; omega
    conv => lhs; rw [← List.take_append_drop k L, gcells_append, ← h1, List.take_left]
  · rw [List.take_of_length_le q, List.take_of_length_le (by rw [gcells_len]; omega)]
theorem gc_drop (L : List Sg) (k : Nat) : (gcells L).drop (k * 37) = gcells (L.drop k) := by
  rcases Nat.lt_or_ge k L.length with q | q
  · have h1 : (gcells (L.take k)).length = k * 37 := by rw [gcells_len, List.length_take]; congr 1; omega
    conv => lhs; rw [← List.take_append_drop k L, gcells_append, ← h1, List.drop_left]
  · rw [List.drop_eq_nil_of_le q, List.drop_eq_nil_of_le (by rw [gcells_len]; omega)]
    rfl
section
variable {h : Heap} {w : Nat} {v : Value} {most : Int} {L : List Sg} {s : Sg}
set_option maxHeartbeats 64000000 in
theorem RAddG_ok (hs : DbAt h w v most L) (hso : SrtG L) (hl : L.length < 255) :
    Runs Tryz.prog T0 (.fn fn_zgbQ) [.pointer (some ⟨w, 0, none⟩), .agg ⟨s.cells⟩] h
      (fun r h' => r = .int .i64 (addG most L s).2 ∧ (∃ v', DbAt h' w v' most (addG most L s).1 ∧ (∀ j, ownedBy v' j → ownedBy v j ∨ h.n ≤ j)) ∧ Fr (fun j => j = w) h h') (fun _ _ => False) := by
  have hp := hs.lw
  have hou := hs.ow
  have hgp := hs.g
  obtain ⟨a, c, eu, _, hc⟩ := id hou.rd
  subst eu
  haveI : HGet h w _ := ⟨hgp⟩
  haveI : BLt w h := ⟨hp⟩
  refine zgbQ_runs ?_
  refine stp ?_
  have g0 : (h.push (.cells s.cells 0)).get h.n = .cells s.cells 0 := HGet.new.eq
  have F0 : Fr (fun _ => False) h (h.push (.cells s.cells 0)) := Fr.refl.push
  have n0 : (h.push (.cells s.cells 0)).n = h.n + 1 := rfl
  generalize h.push (.cells s.cells 0) = h0 at *
  have hs0 := hs.keep F0 id (fun _ _ => id)
  refine O.call' (RHasG_ok hs0 (s := s)) (fun r h1 hr => ?_)
  obtain ⟨rfl, f1⟩ := hr
  have hs1 := hs0.keep f1 id (fun _ _ => id)
  have F1 : Fr (fun _ => False) h h1 := F0.trans' f1
  have g1 : h1.get h.n = .cells s.cells 0 := by rw [f1.get _ (by omega) id]; exact g0
  have n1 := f1.n
  have gp1 : h1.get w = .cells [.int .i64 most, .slice a L.length c] 0 := hs1.g
  have hou1 := hs1.ow
  haveI : HGet h1 h.n _ := ⟨g1⟩
  haveI : HGet h1 w _ := ⟨gp1⟩
  haveI : BLt h.n h1 := ⟨by omega⟩
  haveI : BLt w h1 := ⟨by omega⟩
  refine stp ?_
  unfold addG
  refine C.if (fun hin => ?_) (fun hin => ?_)
  · rw [if_pos hin]
    refine stp ?_
    exact ⟨rfl, ⟨_, hs1, fun _ => .inl⟩, F1.mono fun _ _ e => e.elim⟩
  rw [if_neg hin]
  refine stp ?_
  refine C.if (fun hm => ?_) (fun hm => ?_)
  · rw [if_pos hm]
    refine stp ?_
    exact ⟨rfl, ⟨_, hs1, fun _ => .inl⟩, F1.mono fun _ _ e => e.elim⟩
  rw [if_neg hm]
  refine stp ?_
  refine loop1 zgbQ_l0_M 5 (fun q v5 hx => ∃ k : Nat, k ≤ L.length ∧ q = L.length - k ∧ v5 = .int .i64 k ∧ Fr (fun _ => False) h1 hx ∧ ∀ y ∈ L.take k, ltG y s = true) ?_ L.length ⟨0, by omega, rfl, rfl, Fr.refl, by simp⟩
  rintro m v5 h' x22 x23 x24 x25 x26 x27 x28 x29 x30 x31 x32 x33 x34 x35 x36 x37 x38 x39 x40 x41 ⟨k, hk, rfl, rfl, hF, hbe⟩
  have hs2 := hs1.keep hF id (fun _ _ => id)
  have nF := hF.n
  haveI : HGet h' h.n (.cells s.cells 0) := ⟨by rw [hF.get _ (by omega) id]; exact g1⟩
  haveI : HGet h' w _ := ⟨hs2.g⟩
  haveI : BLt h.n h' := ⟨by omega⟩
  haveI : BLt w h' := ⟨by omega⟩
  by_cases hgo : ∃ hk : k < L.length, ltG L[k] s = true
  · obtain ⟨hlt, hgo⟩ := hgo
    have hmo : ∀ y ∈ L.take (k + 1), ltG y s = true := fun y hy => by
      rw [List.take_succ_eq_append_getElem (by omega)] at hy
      rcases List.mem_append.1 hy with hy | hy
      · exact hbe y hy
      · rw [List.mem_singleton.1 hy]; exact hgo
    haveI q1 : ∀ {ts : List Value} {h : Heap} {Q : Oper} {x z : Operand} [Ev ts x (.int .i64 (k : Nat))] [Ev ts z (.int .i64 (L.length : Nat))], XOp Tryz.prog ts h (.bin .lss Q x z) (.bool true) h := xlss1 (by omega)
    obtain ⟨q, sx, cap, j, e, hq, hg⟩ := own_atG hs2.ow (by omega)
    cases e
    haveI : HGet h' q (.cells (gcells L ++ j) 37) := ⟨hg⟩
    haveI : BLt q h' := ⟨hq⟩
    haveI : Sub (gcells L ++ j) (k * 37) 37 (at' L k).cells := gsub hlt
    haveI q2 : ∀ {ts : List Value} {h : Heap} {x z : Operand} [Ev ts x (.slice (some ⟨q, 0, some sx⟩) L.length c)] [Ev ts z (.int .i64 (k : Nat))], XOp Tryz.prog ts h (.indexSl 37 x z) (.pointer (some ⟨q, k * 37, none⟩)) h := fun {ts h x z} _ _ => by
      haveI : IdxOff 0 (k : Int) 37 (k * 37) := ⟨by omega⟩
      exact XOp.mkIndexSl (by omega)
    refine stp ?_
    refine D.callT (RLess_ok (a := at' L k) (b := s)) (fun r h3 hr => rfl) (fun r h3 hr => ?_)
    obtain ⟨rfl, f3⟩ := hr
    rw [at_eq hlt, hgo]
    refine stp ?_
    exact loop1a 5 (L.length - (k + 1)) (by omega) ⟨k + 1, by omega, rfl, rfl, hF.trans' f3, hmo⟩
  have hend : ∀ hk : k < L.length, ltG L[k] s = false := fun hk => by
    cases hq : ltG L[k] s with
    | false => rfl
    | true => exact absurd ⟨by omega, hq⟩ hgo
  have hins := ins_atG (by omega) hbe hend
  refine RunC.seq ?_
  refine cut1 zgbQ_l0_M (.exit 1) (fun v hz => v = .int .i64 k ∧ Fr (fun _ => False) h' hz) ?_ ?_
  · rcases Nat.lt_or_ge k L.length with hlt | hge
    · have hgo := hend hlt
      haveI q1 : ∀ {ts : List Value} {h : Heap} {Q : Oper} {x z : Operand} [Ev ts x (.int .i64 (k : Nat))] [Ev ts z (.int .i64 (L.length : Nat))], XOp Tryz.prog ts h (.bin .lss Q x z) (.bool true) h := xlss1 (by omega)
      obtain ⟨q, sx, cap, j, e, hq, hg⟩ := own_atG hs2.ow (by omega)
      cases e
      haveI : HGet h' q (.cells (gcells L ++ j) 37) := ⟨hg⟩
      haveI : BLt q h' := ⟨hq⟩
      haveI : Sub (gcells L ++ j) (k * 37) 37 (at' L k).cells := gsub hlt
      haveI q2 : ∀ {ts : List Value} {h : Heap} {x z : Operand} [Ev ts x (.slice (some ⟨q, 0, some sx⟩) L.length c)] [Ev ts z (.int .i64 (k : Nat))], XOp Tryz.prog ts h (.indexSl 37 x z) (.pointer (some ⟨q, k * 37, none⟩)) h := fun {ts h x z} _ _ => by
        haveI : IdxOff 0 (k : Int) 37 (k * 37) := ⟨by omega⟩
        exact XOp.mkIndexSl (by omega)
      refine stp ?_
      refine D.callT (RLess_ok (a := at' L k) (b := s)) (fun r h3 hr => rfl) (fun r h3 hr => ?_)
      obtain ⟨rfl, f3⟩ := hr
      rw [at_eq hlt, hgo]
      refine stp ?_
      exact cutQ1.out 5 ⟨rfl, f3⟩
    · haveI q1 : ∀ {ts : List Value} {h : Heap} {Q : Oper} {x z : Operand} [Ev ts x (.int .i64 (k : Nat))] [Ev ts z (.int .i64 (L.length : Nat))], XOp Tryz.prog ts h (.bin .lss Q x z) (.bool false) h := xlss0 (by omega)
      refine stp ?_
      exact cutQ1.out 5 ⟨rfl, Fr.refl⟩
  intro vk hz x22 x23 x24 x25 x26 x27 x28 x29 x30 x31 x32 x33 x34 x35 x36 x37 x38 x39 x40 x41 ⟨e1, hFz⟩
  subst e1
  clear hgo hend hbe
  have hs3 := hs2.keep hFz id (fun _ _ => id)
  have hou3 := hs3.ow
  have nz := hFz.n
  have Fz : Fr (fun _ => False) h1 hz := hF.trans' hFz
  have gs3 : hz.get h.n = .cells s.cells 0 := by rw [Fz.get _ (by omega) id]; exact g1
  have gw3 : hz.get w = .cells [.int .i64 most, .slice a L.length c] 0 := hs3.g
  haveI : HGet hz h.n (.cells s.cells 0) := ⟨gs3⟩
  haveI : HGet hz w _ := ⟨gw3⟩
  haveI : BLt h.n hz := ⟨by omega⟩
  haveI : BLt w hz := ⟨by omega⟩
  obtain ⟨w1, b1, r1, x1⟩ := own_hi hou3 (p := (k : Int)) k (by omega) rfl
  obtain ⟨w2, b2, r2, x2⟩ := own_lo (by decide) hou3 (p := (k : Int)) k (by omega) rfl
  rw [gc_take] at r1
  rw [gc_drop] at r2
  have z1 := gcells_one (L.take k)
  have z2 := gcells_one (L.drop k)
  have l1 : (L.take k).length = k := by rw [List.length_take]; omega
  have l2 : (L.drop k).length = L.length - k := List.length_drop
  have l1' : (gcells (L.take k)).length = k * 37 := by rw [gcells_len, l1]
  have l2' : (gcells (L.drop k)).length = (L.length - k) * 37 := by rw [gcells_len, l2]
  have lsc := s.len
  haveI := @x1
  haveI := @x2
  haveI oB0 : OwnI hz 37 (.slice a L.length c) := ⟨_, _, hou3⟩
  refine stp ?_
  refine O.append (n := 0) (m := L.length - k) (c := []) (d := gcells (L.drop k)) (.lit (by simp) (by rw [Heap.get_push, if_pos rfl])) ((r2.keep (Fr.refl.push (S := fun _ => False)) fun _ _ => id).new _) l2' z2 (by omega) (by omega) (by omega) (fun vr h2 o2 f2 m2 => ?_)
  simp only [Heap.n_push] at *
  have G0 : Fr (fun _ => False) hz (hz.push (.cells [] 0)) := Fr.refl.push
  have Fx : Fr (fun _ => False) hz h2 := G0.trans f2 fun i hi e => by
    have e : hz.n = i := e
    omega
  have F2 : Fr (fun _ => False) h h2 := (F1.trans' Fz).trans' Fx
  have gp2 : h2.get w = .cells [.int .i64 most, .slice a L.length c] 0 := by rw [Fx.get _ (by omega) id]; exact gw3
  have g2 : h2.get h.n = .cells s.cells 0 := by rw [Fx.get _ (by omega) id]; exact gs3
  have q2 := Fx.n
  have r1 := r1.keep Fx fun _ _ => id
  haveI : HGet h2 w _ := ⟨gp2⟩
  haveI : HGet h2 h.n _ := ⟨g2⟩
  haveI : BLt w h2 := ⟨by omega⟩
  haveI : BLt h.n h2 := ⟨by omega⟩
  have keepP : ∀ {hx : Heap}, Fr (fun _ => False) h2 hx → HGet hx w (.cells [.int .i64 most, .slice a L.length c] 0) ∧ HGet hx h.n (.cells s.cells 0) ∧ BLt w hx ∧ BLt h.n hx := fun G => ⟨G.keep ⟨gp2⟩ (by omega) id, G.keep ⟨g2⟩ (by omega) id, ⟨G.lt (by omega)⟩, ⟨G.lt (by omega)⟩⟩
  have elen : 0 + k + 1 + (0 + (L.length - k)) = (insG s L).length := by rw [insG_len]; omega
  have ecells : ([] ++ gcells (L.take k)) ++ s.cells ++ ([] ++ gcells (L.drop k)) = gcells (insG s L) := by
    rw [List.nil_append, List.nil_append, ← hins, gcells_append, gcells_cons, List.append_assoc]
  have fin : ∀ {hx : Heap} {v : Value}, Fr (fun _ => False) h2 hx → Own hx 37 v (([] ++ gcells (L.take k)) ++ s.cells ++ ([] ++ gcells (L.drop k))) (0 + k + 1 + (0 + (L.length - k))) → (∀ i, ownedBy v i → h2.n ≤ i) → (Value.int .i64 0 = .int .i64 (insG s L, (0 : Int)).2 ∧ (∃ v', DbAt (hx.set w (.cells [.int .i64 most, v] 0)) w v' most (insG s L, (0 : Int)).1 ∧ (∀ j, ownedBy v' j → ownedBy (.slice a L.length c) j ∨ h.n ≤ j)) ∧ Fr (fun j => j = w) h (hx.set w (.cells [.int .i64 most, v] 0))) := fun {hx v} G ho hm => by
    have fS : Fr (fun i => i = w) hx (hx.set w (.cells [.int .i64 most, v] 0)) := Fr.refl.set fun _ => rfl
    rw [ecells, elen] at ho
    have hnp : ∀ i, ownedBy v i → i ≠ w := fun i hi e => by have := hm i hi; omega
    exact ⟨rfl, ⟨v, ⟨by rw [Heap.get_set, if_pos rfl], fS.lt (G.lt (F2.lt hp)), ho.keep fS fun i hi e => hnp i hi e, fun e => hnp w e rfl, by show (insG s L).length < 256; rw [insG_len]; omega⟩, fun j hj => .inr (by have := hm j hj; omega)⟩, ((F2.trans' G).mono fun _ _ e => e.elim).trans' fS⟩
  refine stp ?_
  refine RunC.regionM ?_ (RunC.regionM ?_ (RunC.regionM ?_ RunC.regionM0))
  · refine stp ?_
    have G_0 : Fr (fun _ => False) h2 h2 := Fr.refl
    refine D.one ?_ ?_
    · repeat refine stab_cons inferInstance ?_
      rfl
    have G_1 : Fr (fun _ => False) h2 ((h2).push (.cells [] 0)) := G_0.push
    have N63 : h2.n ≤ (h2).n := G_0.n
    have o63 : Own ((h2).push (.cells [] 0)) 37 (.slice (some ⟨(h2).n, 0, none⟩) 0 0) [] 0 := .lit (by simp) (by rw [Heap.get_push, if_pos rfl])
    refine stp ?_
    have M63 : ∀ i, ownedBy (.slice (some ⟨(h2).n, 0, none⟩) 0 0) i → h2.n ≤ i := fun i hi => by
      have hi : (h2).n = i := hi
      omega
    refine D.appendC o63 ((r1.keep G_1 fun _ _ => id).new _) l1' z1 (by omega) (by omega) (by omega) (fun v70 h70 o70 f70 m70 => ?_)
    have G_2 : Fr (fun _ => False) h2 h70 := G_1.trans f70 fun i hi e => by have := M63 i e; omega
    have M70 : ∀ i, ownedBy v70 i → h2.n ≤ i := fun i hi => by
      have := G_1.n
      rcases m70 i hi with e | e
      · exact M63 i e
      · (try simp only [Heap.n_push] at e this)
        omega
    obtain ⟨i1, i2, i3, i4⟩ := keepP G_2
    refine ⟨?_, ?_⟩
    · repeat refine stab_cons inferInstance ?_
      rfl
    refine stp ?_
    refine D.one ?_ ?_
    · repeat refine stab_cons inferInstance ?_
      rfl
    have G_3 : Fr (fun _ => False) h2 ((h70).push (.cells s.cells 0)) := G_2.push
    have l72 : Rd ((h70).push (.cells s.cells 0)) 37 (.slice (some ⟨(h70).n, 0, none⟩) 1 1) s.cells 1 := Rd.mk (size := 37) (n := 1) (cap := 1) (sp := none) (o := 0) (by simp) (by rw [cellsAt_of (c := s.cells) (by rw [Heap.get_push, if_pos rfl]; rfl) (by rw [s.len]; decide), List.drop_zero, List.take_of_length_le (by rw [s.len]; decide)])
    have o70 := o70.keep (S := fun _ => False) (h' := (h70).push (.cells s.cells 0)) Fr.refl.push fun _ _ => id
    refine stp ?_
    refine D.appendC o70 (l72.new _) (by rw [s.len]) s.ones (by omega) (by omega) (by omega) (fun v73 h73 o73 f73 m73 => ?_)
    have G_4 : Fr (fun _ => False) h2 h73 := G_3.trans f73 fun i hi e => by have := M70 i e; omega
    have M73 : ∀ i, ownedBy v73 i → h2.n ≤ i := fun i hi => by
      have := G_3.n
      rcases m73 i hi with e | e
      · exact M70 i e
      · (try simp only [Heap.n_push] at e this)
        omega
    obtain ⟨i1, i2, i3, i4⟩ := keepP G_4
    refine ⟨?_, ?_⟩
    · repeat refine stab_cons inferInstance ?_
      rfl
    refine stp ?_
    refine D.appendC o73 ((o2.keep G_4 fun _ _ => id).rd.new _) (by rw [List.nil_append, l2']; omega) (by rw [List.nil_append]; exact z2) (by omega) (by omega) (by omega) (fun v75 h75 o75 f75 m75 => ?_)
    have G_5 : Fr (fun _ => False) h2 h75 := G_4.trans f75 fun i hi e => by have := M73 i e; omega
    have M75 : ∀ i, ownedBy v75 i → h2.n ≤ i := fun i hi => by
      have := G_4.n
      rcases m75 i hi with e | e
      · exact M73 i e
      · (try simp only [Heap.n_push] at e this)
        omega
    obtain ⟨i1, i2, i3, i4⟩ := keepP G_5
    refine ⟨?_, ?_⟩
    · repeat refine stab_cons inferInstance ?_
      rfl
    obtain ⟨a9, c9, e9, _, _⟩ := id o75.rd
    subst e9
    refine stp ?_
    exact fin G_5 o75 M75
  · refine stp ?_
    have G_0 : Fr (fun _ => False) h2 h2 := Fr.refl
    refine D.one ?_ ?_
    · repeat refine stab_cons inferInstance ?_
      rfl
    have G_1 : Fr (fun _ => False) h2 ((h2).push (.cells [] 0)) := G_0.push
    have N63 : h2.n ≤ (h2).n := G_0.n
    have o63 : Own ((h2).push (.cells [] 0)) 37 (.slice (some ⟨(h2).n, 0, none⟩) 0 0) [] 0 := .lit (by simp) (by rw [Heap.get_push, if_pos rfl])
    refine stp ?_
    have M63 : ∀ i, ownedBy (.slice (some ⟨(h2).n, 0, none⟩) 0 0) i → h2.n ≤ i := fun i hi => by
      have hi : (h2).n = i := hi
      omega
    refine D.one ?_ ?_
    · repeat refine stab_cons inferInstance ?_
      rfl
    have G_2 : Fr (fun _ => False) h2 (((h2).push (.cells [] 0)).push (.cells s.cells 0)) := G_1.push
    have l72 : Rd (((h2).push (.cells [] 0)).push (.cells s.cells 0)) 37 (.slice (some ⟨((h2).push (.cells [] 0)).n, 0, none⟩) 1 1) s.cells 1 := Rd.mk (size := 37) (n := 1) (cap := 1) (sp := none) (o := 0) (by simp) (by rw [cellsAt_of (c := s.cells) (by rw [Heap.get_push, if_pos rfl]; rfl) (by rw [s.len]; decide), List.drop_zero, List.take_of_length_le (by rw [s.len]; decide)])
    have o63 := o63.keep (S := fun _ => False) (h' := ((h2).push (.cells [] 0)).push (.cells s.cells 0)) Fr.refl.push fun _ _ => id
    refine stp ?_
    refine D.appendC o63 ((r1.keep G_2 fun _ _ => id).new _) l1' z1 (by omega) (by omega) (by omega) (fun v70 h70 o70 f70 m70 => ?_)
    have G_3 : Fr (fun _ => False) h2 h70 := G_2.trans f70 fun i hi e => by have := M63 i e; omega
    have M70 : ∀ i, ownedBy v70 i → h2.n ≤ i := fun i hi => by
      have := G_2.n
      rcases m70 i hi with e | e
      · exact M63 i e
      · (try simp only [Heap.n_push] at e this)
        omega
    have l72 := l72.keep f70 fun i hi e => by
      have e : _ = i := e
      have hi := hi.1
      simp only [Heap.n_push] at e hi
      omega
    obtain ⟨i1, i2, i3, i4⟩ := keepP G_3
    refine ⟨?_, ?_⟩
    · repeat refine stab_cons inferInstance ?_
      rfl
    refine stp ?_
    refine D.appendC o70 (l72.new _) (by rw [s.len]) s.ones (by omega) (by omega) (by omega) (fun v73 h73 o73 f73 m73 => ?_)
    have G_4 : Fr (fun _ => False) h2 h73 := G_3.trans f73 fun i hi e => by have := M70 i e; omega
    have M73 : ∀ i, ownedBy v73 i → h2.n ≤ i := fun i hi => by
      have := G_3.n
      rcases m73 i hi with e | e
      · exact M70 i e
      · (try simp only [Heap.n_push] at e this)
        omega
    obtain ⟨i1, i2, i3, i4⟩ := keepP G_4
    refine ⟨?_, ?_⟩
    · repeat refine stab_cons inferInstance ?_
      rfl
    refine stp ?_
    refine D.appendC o73 ((o2.keep G_4 fun _ _ => id).rd.new _) (by rw [List.nil_append, l2']; omega) (by rw [List.nil_append]; exact z2) (by omega) (by omega) (by omega) (fun v75 h75 o75 f75 m75 => ?_)
    have G_5 : Fr (fun _ => False) h2 h75 := G_4.trans f75 fun i hi e => by have := M73 i e; omega
    have M75 : ∀ i, ownedBy v75 i → h2.n ≤ i := fun i hi => by
      have := G_4.n
      rcases m75 i hi with e | e
      · exact M73 i e
      · (try simp only [Heap.n_push] at e this)
        omega
    obtain ⟨i1, i2, i3, i4⟩ := keepP G_5
    refine ⟨?_, ?_⟩
    · repeat refine stab_cons inferInstance ?_
      rfl
    obtain ⟨a9, c9, e9, _, _⟩ := id o75.rd
    subst e9
    refine stp ?_
    exact fin G_5 o75 M75
  · refine stp ?_
    have G_0 : Fr (fun _ => False) h2 h2 := Fr.refl
    refine D.one ?_ ?_
    · repeat refine stab_cons inferInstance ?_
      rfl
    have G_1 : Fr (fun _ => False) h2 ((h2).push (.cells s.cells 0)) := G_0.push
    have l72 : Rd ((h2).push (.cells s.cells 0)) 37 (.slice (some ⟨(h2).n, 0, none⟩) 1 1) s.cells 1 := Rd.mk (size := 37) (n := 1) (cap := 1) (sp := none) (o := 0) (by simp) (by rw [cellsAt_of (c := s.cells) (by rw [Heap.get_push, if_pos rfl]; rfl) (by rw [s.len]; decide), List.drop_zero, List.take_of_length_le (by rw [s.len]; decide)])
    refine stp ?_
    refine D.one ?_ ?_
    · repeat refine stab_cons inferInstance ?_
      rfl
    have G_2 : Fr (fun _ => False) h2 (((h2).push (.cells s.cells 0)).push (.cells [] 0)) := G_1.push
    have N63 : h2.n ≤ ((h2).push (.cells s.cells 0)).n := G_1.n
    have o63 : Own (((h2).push (.cells s.cells 0)).push (.cells [] 0)) 37 (.slice (some ⟨((h2).push (.cells s.cells 0)).n, 0, none⟩) 0 0) [] 0 := .lit (by simp) (by rw [Heap.get_push, if_pos rfl])
    have l72 := l72.keep (S := fun _ => False) (h' := ((h2).push (.cells s.cells 0)).push (.cells [] 0)) Fr.refl.push fun _ _ => id
    refine stp ?_
    have M63 : ∀ i, ownedBy (.slice (some ⟨((h2).push (.cells s.cells 0)).n, 0, none⟩) 0 0) i → h2.n ≤ i := fun i hi => by
      have hi : ((h2).push (.cells s.cells 0)).n = i := hi
      omega
    refine D.appendC o63 ((r1.keep G_2 fun _ _ => id).new _) l1' z1 (by omega) (by omega) (by omega) (fun v70 h70 o70 f70 m70 => ?_)
    have G_3 : Fr (fun _ => False) h2 h70 := G_2.trans f70 fun i hi e => by have := M63 i e; omega
    have M70 : ∀ i, ownedBy v70 i → h2.n ≤ i := fun i hi => by
      have := G_2.n
      rcases m70 i hi with e | e
      · exact M63 i e
      · (try simp only [Heap.n_push] at e this)
        omega
    have l72 := l72.keep f70 fun i hi e => by
      have e : _ = i := e
      have hi := hi.1
      simp only [Heap.n_push] at e hi
      omega
    obtain ⟨i1, i2, i3, i4⟩ := keepP G_3
    refine ⟨?_, ?_⟩
    · repeat refine stab_cons inferInstance ?_
      rfl
    refine stp ?_
    refine D.appendC o70 (l72.new _) (by rw [s.len]) s.ones (by omega) (by omega) (by omega) (fun v73 h73 o73 f73 m73 => ?_)
    have G_4 : Fr (fun _ => False) h2 h73 := G_3.trans f73 fun i hi e => by have := M70 i e; omega
    have M73 : ∀ i, ownedBy v73 i → h2.n ≤ i := fun i hi => by
      have := G_3.n
      rcases m73 i hi with e | e
      · exact M70 i e
      · (try simp only [Heap.n_push] at e this)
        omega
    obtain ⟨i1, i2, i3, i4⟩ := keepP G_4
    refine ⟨?_, ?_⟩
    · repeat refine stab_cons inferInstance ?_
      rfl
    refine stp ?_
    refine D.appendC o73 ((o2.keep G_4 fun _ _ => id).rd.new _) (by rw [List.nil_append, l2']; omega) (by rw [List.nil_append]; exact z2) (by omega) (by omega) (by omega) (fun v75 h75 o75 f75 m75 => ?_)
    have G_5 : Fr (fun _ => False) h2 h75 := G_4.trans f75 fun i hi e => by have := M73 i e; omega
    have M75 : ∀ i, ownedBy v75 i → h2.n ≤ i := fun i hi => by
      have := G_4.n
      rcases m75 i hi with e | e
      · exact M73 i e
      · (try simp only [Heap.n_push] at e this)
        omega
    obtain ⟨i1, i2, i3, i4⟩ := keepP G_5
    refine ⟨?_, ?_⟩
    · repeat refine stab_cons inferInstance ?_
      rfl
    obtain ⟨a9, c9, e9, _, _⟩ := id o75.rd
    subst e9
    refine stp ?_
    exact fin G_5 o75 M75
end
end Go.Proofs.YtagmnpeilgnbdaaGreat.A

namespace Go.Proofs.YtagmnpeilgnbdaaGreat.A
open Go Go.Vm
set_option maxRecDepth 10000
set_option linter.unusedVariables false
theorem sub_in {c m r : List Value} {o n i j : Nat} (h1 : Sub c o n m) (h2 : Sub m i j r) : Sub c (o + i) j r := by
  have e1 := h1.eq
  have e2 := h2.eq
  have l1 := h1.le
  have l2 := h2.le
  have lm : m.length = n := by rw [← e1, List.length_take, List.length_drop]; omega
  refine ⟨by omega, ?_⟩
  rw [← e2, ← e1, List.drop_take, List.take_take, List.drop_drop, Nat.min_eq_left (by omega)]
section
variable {h : Heap} {w : Nat} {v : Value} {most : Int} {L : List Sg} {hs : List UInt8}
set_option maxHeartbeats 16000000 in
theorem RWhoG_ok (ha : DbAt h w v most L) (hl : hs.length = 32) :
    Runs Tryz.prog T0 (.fn fn_zjbQ) [.pointer (some ⟨w, 0, none⟩), .agg ⟨bcells hs⟩] h
      (fun r h' => Own h' 4 r (kcells (whoG hs L)) (whoG hs L).length ∧ (∀ i, ownedBy r i → h.n ≤ i) ∧ Fr (fun _ => False) h h') (fun _ _ => False) := by
  have hll := ha.len
  haveI : L32 (bcells hs) := ⟨by rw [bcells_len, hl]⟩
  haveI : Sub (bcells hs) 0 32 (bcells hs) := ⟨by rw [bcells_len, hl]; decide, by rw [List.drop_zero, List.take_of_length_le (by rw [bcells_len, hl]; decide)]⟩
  have F1 : Fr (fun _ => False) h (h.push (.cells (bcells hs) 0)) := Fr.refl.push
  have ha1 := ha.keep F1 id (fun _ _ => id)
  have gs : (h.push (.cells (bcells hs) 0)).get h.n = .cells (bcells hs) 0 := HGet.new.eq
  have ns : (h.push (.cells (bcells hs) 0)).n = h.n + 1 := rfl
  refine zjbQ_runs ?_
  refine stp ?_
  generalize h.push (.cells (bcells hs) 0) = h1 at *
  obtain ⟨av, cv, rfl, _, _⟩ := id ha1.ow.rd
  refine loop2 zjbQ_l0_M 5 6 (fun q v5 v6 hx => ∃ k : Nat, k ≤ L.length ∧ q = L.length - k ∧ v6 = .int .i64 k ∧ Own hx 4 v5 (kcells (whoG hs (L.take k))) (whoG hs (L.take k)).length ∧ (∀ i, ownedBy v5 i → h1.n ≤ i) ∧ Fr (fun _ => False) h1 hx) ?_ L.length ⟨0, by omega, rfl, rfl, by rw [List.take_zero]; exact .none, fun i (hi : ownedBy (.slice none 0 0) i) => False.elim hi, Fr.refl⟩
  rintro m v5 v6 h' x7 x8 x9 x10 x11 x12 x13 x14 x15 x16 x17 x18 x19 x20 x21 x22 x23 x24 x25 x26 x27 x28 x29 x30 x31 x32 x33 x34 x35 x36 x37 x38 x39 x40 x41 x42 x43 x44 x45 x46 x47 x48 x49 x50 x51 x52 x53 x54 x55 x56 x57 x58 ⟨k, hk, rfl, rfl, ho, hn5, hF⟩
  have ha2 := ha1.keep hF id (fun _ _ => id)
  have nF := hF.n
  haveI : HGet h' w _ := ⟨ha2.g⟩
  haveI : HGet h' h.n (.cells (bcells hs) 0) := ⟨by rw [hF.get _ (by omega) id]; exact gs⟩
  haveI : BLt w h' := ⟨ha2.lw⟩
  haveI : BLt h.n h' := ⟨by omega⟩
  have hwl := who_len (hs := hs) (L := L) (k := k) (by omega)
  obtain ⟨a5, c5, e5, _, _⟩ := id ho.rd
  subst e5
  rcases Nat.lt_or_ge k L.length with hlt | hge
  · haveI q1 : ∀ {ts : List Value} {h : Heap} {O : Oper} {x z : Operand} [Ev ts x (.int .i64 (k : Nat))] [Ev ts z (.int .i64 (L.length : Nat))], XOp Tryz.prog ts h (.bin .lss O x z) (.bool true) h := xlss1 (by omega)
    obtain ⟨q, sx, cap, j, e, hq, hg⟩ := own_atG ha2.ow (by omega)
    cases e
    haveI : HGet h' q (.cells (gcells L ++ j) 37) := ⟨hg⟩
    haveI : BLt q h' := ⟨hq⟩
    have hsub : Sub (gcells L ++ j) (k * 37) 37 (at' L k).cells := gsub hlt
    haveI s4 : Sub (gcells L ++ j) (k * 37 + 4) 32 (bcells (at' L k).hash) := sub_in hsub subHash
    obtain ⟨kk, hk4⟩ : ∃ kk : K4, (at' L k).k4 = kk := ⟨_, rfl⟩
    haveI s0 : Sub (gcells L ++ j) (k * 37 + 0) 4 kk.cells := by rw [← hk4]; exact sub_in hsub subKey
    haveI s00 : Sub (gcells L ++ j) (k * 37) 4 kk.cells := s0
    haveI q2 : ∀ {ts : List Value} {h : Heap} {x z : Operand} [Ev ts x (.slice (some ⟨q, 0, some sx⟩) L.length cv)] [Ev ts z (.int .i64 (k : Nat))], XOp Tryz.prog ts h (.indexSl 37 x z) (.pointer (some ⟨q, k * 37, none⟩)) h := fun {ts h x z} _ _ => by
      haveI : IdxOff 0 (k : Int) 37 (k * 37) := ⟨by omega⟩
      exact XOp.mkIndexSl (by omega)
    have again : ∀ {hx : Heap} {v5 : Value}, Own hx 4 v5 (kcells (whoG hs (L.take (k + 1)))) (whoG hs (L.take (k + 1))).length → (∀ i, ownedBy v5 i → h1.n ≤ i) → Fr (fun i => h1.n ≤ i) h' hx → ∃ k' : Nat, k' ≤ L.length ∧ L.length - (k + 1) = L.length - k' ∧ Value.int .i64 ((k : Int) + 1) = .int .i64 k' ∧ Own hx 4 v5 (kcells (whoG hs (L.take k'))) (whoG hs (L.take k')).length ∧ (∀ i, ownedBy v5 i → h1.n ≤ i) ∧ Fr (fun _ => False) h1 hx := fun ho hn f => ⟨k + 1, by omega, rfl, rfl, ho, hn, hF.trans f fun i hi e => by omega⟩
    by_cases hh : (at' L k).hash = hs
    · have hwt := who_take (hs := hs) (L := L) hlt
      rw [if_pos hh, hk4] at hwt
      generalize whoG hs (L.take k) = out at *
      rcases List.eq_nil_or_concat out with rfl | ⟨out', k', rfl⟩
      · haveI q3 : ∀ {ts : List Value} {h : Heap} {O : Oper} {x z : Operand} [Ev ts x (.int .i64 (([] : List K4).length : Nat))] [Ev ts z (.int .i64 0)], XOp Tryz.prog ts h (.bin .eql O x z) (.bool true) h := xeql1 rfl
        refine stp ?_
        rw [same_bytes, decide_eq_true hh]
        refine stp ?_
        refine O.append (ho.keep Fr.refl.push fun _ _ => id) (one_key (k := kk)) rfl rfl (by decide) (by decide) (by omega) (fun v6 h6 o6 f6 n6 => ?_)
        have hpk : pushK ([]) kk = ([]) ++ [kk] := by simp [pushK]
        have hpl : (pushK ([]) kk).length = ([] : List K4).length + 1 := by rw [hpk]; exact List.length_append
        refine stp ?_
        refine loop2a 5 6 (L.length - (k + 1)) (by omega) (again ?_ (fun i hi => ?_) ((Fr.trans' Fr.refl.push f6).mono fun i _ e => hn5 i e))
        · rw [hwt, hpl, hpk, kcells_append, show kcells [kk] = kk.cells from List.append_nil _]
          exact o6
        · rcases n6 i hi with h7 | h7
          · exact hn5 i h7
          · simp only [Heap.n_push] at h7
            omega
      · rw [List.concat_eq_append] at *
        haveI q3 : ∀ {ts : List Value} {h : Heap} {O : Oper} {x z : Operand} [Ev ts x (.int .i64 ((out' ++ [k']).length : Nat))] [Ev ts z (.int .i64 0)], XOp Tryz.prog ts h (.bin .eql O x z) (.bool false) h := xeql0 (by simp; omega)
        obtain ⟨q5, sx5, cap5, j5, e5, hq5, hg5⟩ := own_atK ho (by simp)
        cases e5
        haveI : HGet h' q5 (.cells (kcells (out' ++ [k']) ++ j5) 4) := ⟨hg5⟩
        haveI : BLt q5 h' := ⟨hq5⟩
        haveI : Sub (kcells (out' ++ [k']) ++ j5) (out'.length * 4) 4 k'.cells := ksub_last
        haveI q4 : ∀ {ts : List Value} {h : Heap} {x z : Operand} [Ev ts x (.slice (some ⟨q5, 0, some sx5⟩) (out' ++ [k']).length c5)] [Ev ts z (.int .i64 (((out' ++ [k']).length : Int) - 1))], XOp Tryz.prog ts h (.indexSl 4 x z) (.pointer (some ⟨q5, out'.length * 4, none⟩)) h := fun {ts h x z} _ _ => by
          haveI : IdxOff 0 (((out' ++ [k']).length : Int) - 1) 4 (out'.length * 4) := ⟨by simp⟩
          exact XOp.mkIndexSl (by simp; omega)
        refine stp ?_
        rw [same_bytes, decide_eq_true hh]
        refine stp ?_
        rw [same_bytes]
        by_cases hkk : k' = kk
        · rw [decide_eq_true (by rw [hkk])]
          refine stp ?_
          have hpk : pushK (out' ++ [k']) kk = out' ++ [k'] := by rw [← hkk]; simp [pushK]
          rw [hpk] at hwt
          exact loop2a 5 6 (L.length - (k + 1)) (by omega) (again (by rw [hwt]; exact ho) hn5 Fr.refl)
        · rw [decide_eq_false (fun e => hkk (K4.ext' e))]
          refine stp ?_
          refine O.append (ho.keep Fr.refl.push fun _ _ => id) (one_key (k := kk)) rfl rfl (by decide) (by decide) (by omega) (fun v6 h6 o6 f6 n6 => ?_)
          have hpk : pushK (out' ++ [k']) kk = (out' ++ [k']) ++ [kk] := by simp [pushK, hkk]
          have hpl : (pushK (out' ++ [k']) kk).length = (out' ++ [k'] : List K4).length + 1 := by rw [hpk]; exact List.length_append
          refine stp ?_
          refine loop2a 5 6 (L.length - (k + 1)) (by omega) (again ?_ (fun i hi => ?_) ((Fr.trans' Fr.refl.push f6).mono fun i _ e => hn5 i e))
          · rw [hwt, hpl, hpk, kcells_append, show kcells [kk] = kk.cells from List.append_nil _]
            exact o6
          · rcases n6 i hi with h7 | h7
            · exact hn5 i h7
            · simp only [Heap.n_push] at h7
              omega
    · have hwt := who_take (hs := hs) (L := L) hlt
      rw [if_neg hh] at hwt
      refine stp ?_
      rw [same_bytes, decide_eq_false hh]
      refine stp ?_
      exact loop2a 5 6 (L.length - (k + 1)) (by omega) (again (by rw [hwt]; exact ho) hn5 Fr.refl)
  · obtain rfl : k = L.length := by omega
    haveI q1 : ∀ {ts : List Value} {h : Heap} {O : Oper} {x z : Operand} [Ev ts x (.int .i64 (L.length : Nat))] [Ev ts z (.int .i64 (L.length : Nat))], XOp Tryz.prog ts h (.bin .lss O x z) (.bool false) h := xlss0 (by omega)
    refine stp ?_
    simp only [List.take_length] at ho hn5 ⊢
    exact ⟨ho, fun i hi => by have := hn5 i hi; omega, F1.trans' hF⟩
end
end Go.Proofs.YtagmnpeilgnbdaaGreat.A

namespace Go.Proofs.YtagmnpeilgnbdaaGreat.A
open Go Go.Vm
set_option maxRecDepth 10000
set_option linter.unusedVariables false
theorem KeyG_okD {h : Heap} {lo p lim : Nat} {st : WSt} {k : K4} (hw : DWs h lo p lim st) (hlim : lim < 1048576 ∨ st.bs.length + 4 < 1048576) :
    Runs Tryz.prog T0 (.fn fn_zabQ) [.pointer (some ⟨p, 0, none⟩), .agg ⟨k.cells⟩] h (DWrites h lo p lim (putS lim true k.bs st)) (fun _ _ => False) := by
  refine zabQ_runs ?_
  refine stp ?_
  have hp : Fr (fun _ => False) h ((h.push (.cells k.cells 0)).push (.cells [] 0)) := Fr.refl.push.push
  refine O.append (size := 1) (bytes := 1) (n := 0) (c := []) (m := 4) (d := k.cells) (.lit (q := h.n + 1) (es := 0) (by simp) (by rw [Heap.get_push, if_pos (by simp)])) (Rd.new (Rd.mk (by simp; omega) (by rw [cellsAt_of (c := k.cells) (by rw [Heap.get_push, if_neg (by simp), Heap.get_push, if_pos rfl]; rfl) (by simp [bcells_len]), List.drop_zero, List.take_of_length_le (by simp [bcells_len])])) _) rfl rfl (by omega) (by omega) (by omega) (fun v1 h1 ho1 hf1 hnew1 => ?_)
  rw [Nat.zero_add, List.nil_append] at ho1
  have f1 : Fr (fun _ => False) h h1 := Fr.trans (S := fun _ => False) hp hf1 fun i hi e => by have : h.n + 1 = i := e; omega
  obtain ⟨a1, c1, rfl, _, _⟩ := id ho1.rd
  refine stp ?_
  refine O.call' (Put_okD (l := k.bs) (hw.none f1) ho1.rd hlim (by simp)) (fun r h2 hr => ?_)
  obtain ⟨rfl, hw2, hf2⟩ := hr
  refine stp ?_
  exact ⟨rfl, hw2, Fr.trans' (f1.mono fun _ _ h => h.elim) hf2⟩
theorem gget {L : List Sg} {j : List Value} {k : Nat} (hk : k < L.length) : CGet (gcells L ++ j) (k * 37 + 36) (.int .u64 (at' L k).sg) := by
  have e : gcells L ++ j = (gcells (L.take k) ++ (bcells (at' L k).key ++ bcells (at' L k).hash)) ++ (.int .u64 (at' L k).sg :: (gcells (L.drop (k + 1)) ++ j)) := by
    conv => lhs; rw [gsplit hk]
    rw [gcells_append, gcells_cons, show (at' L k).cells = bcells (at' L k).key ++ (bcells (at' L k).hash ++ [.int .u64 (at' L k).sg]) from rfl]
    simp only [List.append_assoc, List.cons_append, List.nil_append]
  have hl : (gcells (L.take k) ++ (bcells (at' L k).key ++ bcells (at' L k).hash)).length = k * 37 + 36 := by
    rw [List.length_append, List.length_append, gcells_len, List.length_take, bcells_len, bcells_len, (at' L k).hl]
    show min k L.length * 37 + (4 + 32) = _
    rw [Nat.min_eq_left (by omega)]
  rw [e]
  refine ⟨?_, by rw [List.length_append, hl, List.length_cons]; omega⟩
  rw [← hl]
  exact lget_app _ _ 0
section
variable {h : Heap} {w : Nat} {v : Value} {most : Int} {L : List Sg}
set_option maxHeartbeats 8000000 in
theorem REncodeG_ok (ha : DbAt h w v most L) (hp : ∀ s ∈ L, 0 ≤ s.sg) :
    Runs Tryz.prog T0 (.fn fn_zhbQ) [.pointer (some ⟨w, 0, none⟩)] h
      (fun r h' => ∃ v, r = .tuple ⟨[v, .int .i64 0]⟩ ∧ Own h' 1 v (bcells (encG L)) (encG L).length ∧ (∀ i, ownedBy v i → h.n ≤ i) ∧ Fr (fun _ => False) h h') (fun _ _ => False) := by
  have hll := ha.len
  have hnl := numF_len (n := L.length) (by omega)
  refine zhbQ_runs ?_
  refine stp ?_
  refine O.call' (NewWriter_okD (lim := 1048576) (Nat.le_refl _)) (fun r h1 hr => ?_)
  obtain ⟨rfl, hw, f1⟩ := hr
  have ha1 := ha.keep f1 id (fun _ _ => id)
  have n1 := f1.n
  obtain ⟨av, cv, rfl, _, _⟩ := id ha1.ow.rd
  haveI : HGet h1 w _ := ⟨ha1.g⟩
  haveI : BLt w h1 := ⟨ha1.lw⟩
  refine stp ?_
  refine O.call' (Num_okD (n := (L.length : Int)) hw (by omega) (.inr (by simp))) (fun r h2 hr => ?_)
  obtain ⟨rfl, hw2, f2⟩ := hr
  rw [show decide (0 ≤ (L.length : Int)) = true from decide_eq_true (by omega), show ((L.length : Int)).toNat = L.length from by omega, put0 (by simp; omega)] at hw2
  have hlw := ha.lw
  have hlo : ∀ i, ownedBy (.slice av L.length cv) i → i < h.n := fun i hi => ha.ow.lt hi
  have ha2 := ha1.keep f2 (by omega) (fun i hi e => by have := hlo i hi; omega)
  have n2 := f2.n
  refine stp ?_
  refine loop1 zhbQ_l0_M 6 (fun q v6 hx => ∃ k : Nat, k ≤ L.length ∧ q = L.length - k ∧ v6 = .int .i64 k ∧ DWs hx h.n h.n 1048576 ⟨numF L.length ++ encGs (L.take k), 0⟩ ∧ Fr (fun i => i = h.n) h2 hx) ?_ L.length ⟨0, by omega, rfl, rfl, by rw [List.take_zero]; simpa [encGs] using hw2, Fr.refl⟩
  rintro m v6 h' x18 x19 x20 x21 x22 x23 x24 x25 x26 x27 x28 x29 x30 x31 x32 x33 x34 x35 x36 x37 x38 x39 x40 x41 x42 x43 x44 x45 x46 x47 x48 x49 x50 x51 x52 x53 x54 x55 x56 ⟨k, hk, rfl, rfl, hwk, hF⟩
  have nF := hF.n
  have keep : ∀ {hx : Heap}, Fr (fun i => i = h.n) h2 hx → DbAt hx w (.slice av L.length cv) most L := fun f => ha2.keep f (by omega) (fun i hi e => by have := hlo i hi; omega)
  have ha3 := keep hF
  haveI : HGet h' w _ := ⟨ha3.g⟩
  haveI : BLt w h' := ⟨ha3.lw⟩
  rcases Nat.lt_or_ge k L.length with hlt | hge
  · haveI q1 : ∀ {ts : List Value} {h : Heap} {O : Oper} {x z : Operand} [Ev ts x (.int .i64 (k : Nat))] [Ev ts z (.int .i64 (L.length : Nat))], XOp Tryz.prog ts h (.bin .lss O x z) (.bool true) h := xlss1 (by omega)
    obtain ⟨q, sx, cap, j, e, hq, hg⟩ := own_atG ha3.ow (by omega)
    cases e
    have hqo : q < h.n := hlo q rfl
    have hq2 : h2.get q = .cells (gcells L ++ j) 37 := by rw [← hF.get _ (by omega) (by omega)]; exact hg
    haveI : HGet h' q (.cells (gcells L ++ j) 37) := ⟨hg⟩
    haveI : BLt q h' := ⟨hq⟩
    have hsub : Sub (gcells L ++ j) (k * 37) 37 (at' L k).cells := gsub hlt
    haveI s4 : Sub (gcells L ++ j) (k * 37 + 4) 32 (bcells (at' L k).hash) := sub_in hsub subHash
    obtain ⟨kk, hk4⟩ : ∃ kk : K4, (at' L k).k4 = kk := ⟨_, rfl⟩
    haveI s0 : Sub (gcells L ++ j) (k * 37 + 0) 4 kk.cells := by rw [← hk4]; exact sub_in hsub subKey
    haveI s00 : Sub (gcells L ++ j) (k * 37) 4 kk.cells := s0
    haveI s36 : CGet (gcells L ++ j) (k * 37 + 36) (.int .u64 (at' L k).sg) := gget hlt
    haveI q2 : ∀ {ts : List Value} {h : Heap} {x z : Operand} [Ev ts x (.slice (some ⟨q, 0, some sx⟩) L.length cv)] [Ev ts z (.int .i64 (k : Nat))], XOp Tryz.prog ts h (.indexSl 37 x z) (.pointer (some ⟨q, k * 37, none⟩)) h := fun {ts h x z} _ _ => by
      haveI : IdxOff 0 (k : Int) 37 (k * 37) := ⟨by omega⟩
      exact XOp.mkIndexSl (by omega)
    have hkl : (encGs (L.take k)).length ≤ 255 * 44 := by rw [encGs_len, List.length_take]; omega
    have hb1 : (numF L.length ++ encGs (L.take k)).length ≤ 9 + 255 * 44 := by rw [List.length_append]; omega
    have hsg : 0 ≤ (at' L k).sg := hp _ (by rw [at_eq hlt]; exact List.getElem_mem hlt)
    generalize hBB : numF L.length ++ encGs (L.take k) = B at *
    refine stp ?_
    refine O.call' (KeyG_okD (k := kk) hwk (.inr (by simp only; omega))) (fun r g1 hr => ?_)
    obtain ⟨rfl, hwa, fa⟩ := hr
    rw [put0 (by show B.length + 4 ≤ _; omega)] at hwa
    have na := fa.n
    have Fa := hF.trans' fa
    haveI : HGet g1 w _ := ⟨(keep Fa).g⟩
    haveI : BLt w g1 := ⟨(keep Fa).lw⟩
    haveI : HGet g1 q (.cells (gcells L ++ j) 37) := ⟨by rw [Fa.get _ (by omega) (by omega)]; exact hq2⟩
    refine stp ?_
    refine O.call' (Hash_okD (l := (at' L k).hash) hwa (at' L k).hl (.inr (by show (B ++ kk.bs).length + 32 < _; rw [List.length_append]; show B.length + 4 + 32 < _; omega))) (fun r g2 hr => ?_)
    obtain ⟨rfl, hwb, fb⟩ := hr
    rw [put0 (by rw [List.length_append, (at' L k).hl]; show B.length + 4 + 32 ≤ _; omega)] at hwb
    have nb := fb.n
    have Fb := Fa.trans' fb
    haveI : HGet g2 w _ := ⟨(keep Fb).g⟩
    haveI : BLt w g2 := ⟨(keep Fb).lw⟩
    haveI : HGet g2 q (.cells (gcells L ++ j) 37) := ⟨by rw [Fb.get _ (by omega) (by omega)]; exact hq2⟩
    have hword := Word_okD (n := (at' L k).sg.toNat) hwb (.inr (by show (B ++ kk.bs ++ (at' L k).hash).length + 8 < _; rw [List.length_append, List.length_append, (at' L k).hl]; show B.length + 4 + 32 + 8 < _; omega))
    rw [Int.toNat_of_nonneg hsg] at hword
    refine stp ?_
    refine O.call' hword (fun r g3 hr => ?_)
    obtain ⟨rfl, hwc, fc⟩ := hr
    rw [put0 (by rw [List.length_append, List.length_append, (at' L k).hl, word8_len]; show B.length + 4 + 32 + 8 ≤ _; omega)] at hwc
    refine stp ?_
    refine loop1a 6 (L.length - (k + 1)) (by omega) ⟨k + 1, by omega, rfl, rfl, ?_, Fb.trans' fc⟩
    rw [encGs_take hlt, ← List.append_assoc, hBB]
    simp only [List.append_assoc] at hwc
    rw [← hk4] at hwc
    exact hwc
  · obtain rfl : k = L.length := by omega
    haveI q1 : ∀ {ts : List Value} {h : Heap} {O : Oper} {x z : Operand} [Ev ts x (.int .i64 (L.length : Nat))] [Ev ts z (.int .i64 (L.length : Nat))], XOp Tryz.prog ts h (.bin .lss O x z) (.bool false) h := xlss0 (by omega)
    refine stp ?_
    rw [List.take_length] at hwk
    refine O.call' (Done_okD hwk (by show (encG L).length < _; have := encG_len (L := L) (by omega); omega)) (fun r h5 hr => ?_)
    obtain ⟨v, rfl, hov, hnv, f5⟩ := hr
    have hov : Own h5 1 v (bcells (encG L)) (encG L).length := hov
    have n5 := f5.n
    obtain ⟨a5, c5, rfl, _, _⟩ := id hov.rd
    refine stp ?_
    exact ⟨_, rfl, hov, fun i hi => by have := hnv i hi; omega, (f1.trans f2 fun i hi e => by omega).trans (hF.trans' (f5.mono fun _ _ e => e.elim)) fun i hi e => by omega⟩
end
end Go.Proofs.YtagmnpeilgnbdaaGreat.A

namespace Go.Proofs.YtagmnpeilgnbdaaGreat.A
open Go Go.Vm
set_option maxRecDepth 10000
set_option linter.unusedVariables false
section
variable {h : Heap} {a b : Value} {L : List Sg} {K : List K4}
set_option maxHeartbeats 4000000 in
theorem SameSigs_same (ha : Own h 37 a (gcells L) L.length) (hb : Own h 37 b (gcells L) L.length) (hl : L.length < 100000) :
    Runs Tryz.prog T0 (.fn fn_ziQ) [a, b] h (fun r h' => r = .bool true ∧ h' = h) (fun _ _ => False) := by
  obtain ⟨aa, ca, rfl, _, _⟩ := id ha.rd
  obtain ⟨ab, cb, rfl, _, _⟩ := id hb.rd
  refine ziQ_runs ?_
  haveI q0 : ∀ {ts : List Value} {h : Heap} {O : Oper} {x z : Operand} [Ev ts x (.int .i64 (L.length : Nat))] [Ev ts z (.int .i64 (L.length : Nat))], XOp Tryz.prog ts h (.bin .eql O x z) (.bool true) h := xeql1 rfl
  refine stp ?_
  refine loop2 ziQ_l0_M 5 6 (fun q v5 v6 hx => ∃ k : Nat, k ≤ L.length ∧ q = L.length - k ∧ v5 = .bool true ∧ v6 = .int .i64 k ∧ hx = h) ?_ L.length ⟨0, by omega, rfl, rfl, rfl, rfl⟩
  rintro m v5 v6 h' x12 x13 x14 x15 x16 x17 x18 x19 x20 x21 x22 x23 x24 x25 x26 x27 x28 x29 ⟨k, hk, rfl, rfl, rfl, rfl⟩
  rcases Nat.lt_or_ge k L.length with hlt | hge
  · haveI q1 : ∀ {ts : List Value} {h : Heap} {O : Oper} {x z : Operand} [Ev ts x (.int .i64 (k : Nat))] [Ev ts z (.int .i64 (L.length : Nat))], XOp Tryz.prog ts h (.bin .lss O x z) (.bool true) h := xlss1 (by omega)
    obtain ⟨q, sx, cap, j, e, hq, hg⟩ := own_atG ha (by omega)
    obtain ⟨q', sx', cap', j', e', hq', hg'⟩ := own_atG hb (by omega)
    cases e
    cases e'
    haveI : HGet h' q (.cells (gcells L ++ j) 37) := ⟨hg⟩
    haveI : HGet h' q' (.cells (gcells L ++ j') 37) := ⟨hg'⟩
    haveI : Sub (gcells L ++ j) (k * 37) 37 (at' L k).cells := gsub hlt
    haveI : Sub (gcells L ++ j') (k * 37) 37 (at' L k).cells := gsub hlt
    haveI : IdxOff 0 (k : Int) 37 (k * 37) := ⟨by omega⟩
    refine stp ?_
    rw [same_self]
    exact loop2a 5 6 (L.length - (k + 1)) (by omega) ⟨k + 1, by omega, rfl, rfl, rfl, rfl⟩
  · obtain rfl : k = L.length := by omega
    haveI q1 : ∀ {ts : List Value} {h : Heap} {O : Oper} {x z : Operand} [Ev ts x (.int .i64 (L.length : Nat))] [Ev ts z (.int .i64 (L.length : Nat))], XOp Tryz.prog ts h (.bin .lss O x z) (.bool false) h := xlss0 (by omega)
    refine stp ?_
    exact ⟨rfl, rfl⟩
theorem ksub {l : List K4} {j : List Value} {i : Nat} (hi : i < l.length) : Sub (kcells l ++ j) (i * 4) 4 (l[i]).cells := by
  have e : l = l.take i ++ l[i] :: l.drop (i + 1) := by rw [List.getElem_cons_drop, List.take_append_drop]
  have h1 : (kcells (l.take i)).length = i * 4 := by rw [kcells_len, List.length_take, Nat.min_eq_left (by omega)]
  have h2 : kcells l ++ j = kcells (l.take i) ++ ((l[i]).cells ++ (kcells (l.drop (i + 1)) ++ j)) := by
    conv => lhs; rw [e]
    rw [kcells_append, show kcells (l[i] :: l.drop (i + 1)) = (l[i]).cells ++ kcells (l.drop (i + 1)) from rfl]
    simp only [List.append_assoc]
  refine ⟨by rw [List.length_append, kcells_len]; omega, ?_⟩
  rw [h2, ← h1, List.drop_left]
  rfl
set_option maxHeartbeats 4000000 in
theorem sameKeys_same (ha : Own h 4 a (kcells K) K.length) (hb : Own h 4 b (kcells K) K.length) (hl : K.length < 100000) :
    Runs Tryz.prog T0 (.fn fn_zlQ) [a, b] h (fun r h' => r = .bool true ∧ h' = h) (fun _ _ => False) := by
  obtain ⟨aa, ca, rfl, _, _⟩ := id ha.rd
  obtain ⟨ab, cb, rfl, _, _⟩ := id hb.rd
  refine zlQ_runs ?_
  haveI q0 : ∀ {ts : List Value} {h : Heap} {O : Oper} {x z : Operand} [Ev ts x (.int .i64 (K.length : Nat))] [Ev ts z (.int .i64 (K.length : Nat))], XOp Tryz.prog ts h (.bin .eql O x z) (.bool true) h := xeql1 rfl
  refine stp ?_
  refine loop2 zlQ_l0_M 5 6 (fun q v5 v6 hx => ∃ k : Nat, k ≤ K.length ∧ q = K.length - k ∧ v5 = .bool true ∧ v6 = .int .i64 k ∧ hx = h) ?_ K.length ⟨0, by omega, rfl, rfl, rfl, rfl⟩
  rintro m v5 v6 h' x12 x13 x14 x15 x16 x17 x18 x19 x20 x21 x22 x23 x24 x25 x26 x27 x28 x29 ⟨k, hk, rfl, rfl, rfl, rfl⟩
  rcases Nat.lt_or_ge k K.length with hlt | hge
  · haveI q1 : ∀ {ts : List Value} {h : Heap} {O : Oper} {x z : Operand} [Ev ts x (.int .i64 (k : Nat))] [Ev ts z (.int .i64 (K.length : Nat))], XOp Tryz.prog ts h (.bin .lss O x z) (.bool true) h := xlss1 (by omega)
    obtain ⟨q, sx, cap, j, e, hq, hg⟩ := own_atK ha (by omega)
    obtain ⟨q', sx', cap', j', e', hq', hg'⟩ := own_atK hb (by omega)
    cases e
    cases e'
    obtain ⟨kk, hkk⟩ : ∃ kk : K4, K[k] = kk := ⟨_, rfl⟩
    haveI : HGet h' q (.cells (kcells K ++ j) 4) := ⟨hg⟩
    haveI : HGet h' q' (.cells (kcells K ++ j') 4) := ⟨hg'⟩
    haveI : Sub (kcells K ++ j) (k * 4) 4 kk.cells := by rw [← hkk]; exact ksub hlt
    haveI : Sub (kcells K ++ j') (k * 4) 4 kk.cells := by rw [← hkk]; exact ksub hlt
    haveI : IdxOff 0 (k : Int) 4 (k * 4) := ⟨by omega⟩
    refine stp ?_
    rw [same_self]
    exact loop2a 5 6 (K.length - (k + 1)) (by omega) ⟨k + 1, by omega, rfl, rfl, rfl, rfl⟩
  · obtain rfl : k = K.length := by omega
    haveI q1 : ∀ {ts : List Value} {h : Heap} {O : Oper} {x z : Operand} [Ev ts x (.int .i64 (K.length : Nat))] [Ev ts z (.int .i64 (K.length : Nat))], XOp Tryz.prog ts h (.bin .lss O x z) (.bool false) h := xlss0 (by omega)
    refine stp ?_
    exact ⟨rfl, rfl⟩
end
end Go.Proofs.YtagmnpeilgnbdaaGreat.A

namespace Go.Proofs.YtagmnpeilgnbdaaGreat.A
open Go Go.Vm
set_option maxRecDepth 10000
set_option linter.unusedVariables false
theorem SameBytes_ok {h : Heap} {v w : Value} {a b : List UInt8} (hv : Rd h 1 v (bcells a) a.length) (hw : Rd h 1 w (bcells b) b.length) :
    Runs Tryz.prog T0 (.fn fn_zhQ) [v, w] h (fun r h' => r = .bool (decide (a = b)) ∧ h' = h) (fun _ _ => False) := by
  refine zhQ_runs ?_
  refine stp ?_
  refine O.how (XOp.mkStr hv) ?_
  refine stp ?_
  refine O.how (XOp.mkStr hw) ?_
  refine stp ?_
  refine ⟨?_, rfl⟩
  congr 1
  rw [ByteArray.toList_eq, ByteArray.toList_eq]
  show (a == b) = decide (a = b)
  by_cases e : a = b
  · subst e; simp
  · simp [e]
end Go.Proofs.YtagmnpeilgnbdaaGreat.A

namespace Go.Proofs.YtagmnpeilgnbdaaGreat.A
open Go Go.Vm
set_option maxRecDepth 10000
set_option linter.unusedVariables false
theorem bcells_set : ∀ {l : List UInt8} {i : Nat} {b : UInt8}, i < l.length → over (bcells l) i [.int .u8 (b.toNat : Nat)] = bcells (l.set i b)
  | [], i, b, h => by simp at h
  | v :: l, 0, b, _ => by
    show _ :: over (bcells l) 0 [] = _
    rw [over_nil]; rfl
  | v :: l, i + 1, b, h => by
    show _ :: over (bcells l) i _ = _
    rw [bcells_set (by simpa using h)]; rfl
end Go.Proofs.YtagmnpeilgnbdaaGreat.A

namespace Go.Proofs.YtagmnpeilgnbdaaGreat.A
open Go Go.Vm
set_option maxRecDepth 10000
set_option linter.unusedVariables false
def u8of (n : Int) : UInt8 := UInt8.ofNat (IntKind.u8.wrap n).toNat
theorem u8of_eq (n : Int) : IntKind.u8.wrap n = ((u8of n).toNat : Nat) := by
  unfold u8of
  rw [wrap_u8, UInt8.toNat_ofNat']
  omega
theorem over_pre : ∀ (l m : List Value) (k : Nat) (v : Value), k < l.length → over (l ++ m) k [v] = over l k [v] ++ m
  | [], _, _, _, h => by simp at h
  | a :: l, m, 0, v, _ => by
    show v :: over (l ++ m) 0 [] = (v :: over l 0 []) ++ m
    rw [over_nil, over_nil]; rfl
  | a :: l, m, k + 1, v, h => by
    show a :: over (l ++ m) k [v] = (a :: over l k [v]) ++ m
    rw [over_pre l m k v (by simpa using h)]; rfl
theorem lget_pre : ∀ (l m : List Value) (k : Nat), k < l.length → lget (l ++ m) k = lget l k
  | [], _, _, h => by simp at h
  | a :: l, m, 0, _ => rfl
  | a :: l, m, k + 1, h => lget_pre l m k (by simpa using h)
theorem byte_cell {h : Heap} {q es k : Nat} {l : List UInt8} {j : List Value} (hg : h.get q = .cells (bcells l ++ j) es) (hk : k < l.length) : Cell h q k (.int .u8 ((l.getD k 0).toNat : Nat)) := ⟨by
  rw [cellsAt_of (c := bcells l ++ j) (by rw [hg]; rfl) (by simp [bcells_len]; omega), take_one _ _ (by simp [bcells_len]; omega), lget_pre _ _ _ (by rw [bcells_len]; exact hk), (bcells_get hk).eq]⟩
theorem byte_put {h : Heap} {q es k : Nat} {l : List UInt8} {j : List Value} (hg : h.get q = .cells (bcells l ++ j) es) (hk : k < l.length) (n : Int) : Put h q k [.int .u8 (IntKind.u8.wrap n)] (h.set q (.cells (bcells (l.set k (u8of n)) ++ j) es)) := ⟨by
  simp only [putAt, hg]
  rw [if_pos ⟨by simp [bcells_len]; omega, rfl⟩, over_pre _ _ _ _ (by rw [bcells_len]; exact hk), u8of_eq, bcells_set hk]⟩
theorem OverBytes_ok {h : Heap} {v : Value} {l : List UInt8} {n : Nat} (ho : Own h 1 v (bcells l) n) (hs : n < 1048576) : Runs Tryz.prog T0 (.fn fn_zgQ) [v] h
    (fun r h' => Fr (ownedBy v) h h') (fun _ _ => False) := by
  have hlen := ho.len
  rw [bcells_len, Nat.mul_one] at hlen
  refine zgQ_runs ?_
  refine stp ?_
  have hsl : ∃ a cap, v = .slice a n cap ∧ (0 < n → ∃ q k, a = some ⟨q, 0, some k⟩) := by
    clear hlen
    generalize bcells l = c at ho
    cases ho with
    | none => exact ⟨_, _, rfl, fun h => by omega⟩
    | lit _ _ => exact ⟨_, _, rfl, fun h => by omega⟩
    | grown _ _ _ _ _ _ => exact ⟨_, _, rfl, fun _ => ⟨_, _, rfl⟩⟩
  have hin : ∃ j es, ∀ q k cap, v = .slice (some ⟨q, 0, some k⟩) n cap → q < h.n ∧ h.get q = .cells (bcells l ++ j) es := by
    clear hlen hsl
    generalize bcells l = c at ho
    cases ho with
    | none => exact ⟨[], 0, fun q k cap h => by cases h⟩
    | lit _ _ => exact ⟨[], 0, fun q k cap h => by cases h⟩
    | grown hq _ _ _ _ hg => exact ⟨_, _, fun q k cap h => by cases h; exact ⟨hq, hg⟩⟩
  obtain ⟨a, cap, rfl, ha⟩ := hsl
  obtain ⟨j, es, hin⟩ := hin
  refine loop1 zgQ_l0_M 2 (fun m v2 h' => ∃ k : Nat, k ≤ n ∧ m = n - k ∧ v2 = .int .i64 k ∧ (∃ l' : List UInt8, l'.length = n ∧ ∀ q s, a = some ⟨q, 0, some s⟩ → h'.get q = .cells (bcells l' ++ j) es) ∧ Fr (ownedBy (.slice a n cap)) h h') ?_ n ⟨0, by omega, rfl, rfl, ⟨l, hlen, fun q s e => by subst e; exact (hin q s cap rfl).2⟩, Fr.refl⟩
  rintro m v2 h' x3 x4 x5 x6 x7 x8 x9 x10 x11 x12 x13 x14 x15 x16 ⟨k, hk, rfl, rfl, ⟨l', hl', hg⟩, hf⟩
  refine stp ?_
  refine C.if (fun hlt => ?_) (fun hge => ?_)
  · have hk : k < n := by omega
    obtain ⟨q, s, rfl⟩ := ha (by omega)
    have hgq := hg q s rfl
    have hq := (hin q s cap rfl).1
    haveI := byte_cell hgq (k := k) (by omega)
    haveI := byte_put hgq (k := k) (by omega)
    haveI : BLt q h' := ⟨hf.lt hq⟩
    have hw : ∀ z : UInt8, (l'.set k z).length = n := fun z => by rw [List.length_set]; exact hl'
    refine stp ?_
    refine O.how XOp.xorI ?_
    refine stp ?_
    refine loop1a 2 (n - (k + 1)) (by omega) ⟨k + 1, by omega, rfl, rfl, ⟨_, hw _, fun q' s' e => by cases e; rw [Heap.get_set, if_pos rfl]⟩, hf.set fun _ => rfl⟩
  · refine stp ?_
    exact hf
end Go.Proofs.YtagmnpeilgnbdaaGreat.A

namespace Go.Proofs.YtagmnpeilgnbdaaGreat.A
open Go Go.Vm
set_option maxRecDepth 10000
set_option linter.unusedVariables false
theorem own_setG {h : Heap} {v : Value} {M : List Sg} {k : Nat} (x : Sg) (ho : Own h 37 v (gcells M) M.length) (hk : k < M.length) : ∃ (q s cap : Nat) (j : List Value), v = .slice (some ⟨q, 0, some s⟩) M.length cap ∧ q < h.n ∧ h.get q = .cells (gcells M ++ j) 37 ∧ Own (h.set q (.cells (gcells (M.set k x) ++ j) 37)) 37 v (gcells (M.set k x)) (M.set k x).length := by
  have hl : (M.set k x).length = M.length := List.length_set
  have hc : (gcells (M.set k x)).length = (gcells M).length := by rw [gcells_len, gcells_len, hl]
  rw [hl]
  generalize gcells (M.set k x) = c' at *
  generalize gcells M = c at *
  generalize M.length = n at *
  cases ho with
  | none => omega
  | lit => omega
  | grown hq h0 hle h1 h2 hg =>
    rename_i q kk cap j
    exact ⟨q, kk, cap, j, rfl, hq, hg, .grown (j := j) (by simpa using hq) h0 hle (by rw [hc]; exact h1) (by rw [List.length_append, hc, ← List.length_append]; exact h2) (by rw [Heap.get_set, if_pos rfl])⟩
theorem own_setK {h : Heap} {v : Value} {M : List K4} {k : Nat} (x : K4) (ho : Own h 4 v (kcells M) M.length) (hk : k < M.length) : ∃ (q s cap : Nat) (j : List Value), v = .slice (some ⟨q, 0, some s⟩) M.length cap ∧ q < h.n ∧ h.get q = .cells (kcells M ++ j) 4 ∧ Own (h.set q (.cells (kcells (M.set k x) ++ j) 4)) 4 v (kcells (M.set k x)) (M.set k x).length := by
  have hl : (M.set k x).length = M.length := List.length_set
  have hc : (kcells (M.set k x)).length = (kcells M).length := by rw [kcells_len, kcells_len, hl]
  rw [hl]
  generalize kcells (M.set k x) = c' at *
  generalize kcells M = c at *
  generalize M.length = n at *
  cases ho with
  | none => omega
  | lit => omega
  | grown hq h0 hle h1 h2 hg =>
    rename_i q kk cap j
    exact ⟨q, kk, cap, j, rfl, hq, hg, .grown (j := j) (by simpa using hq) h0 hle (by rw [hc]; exact h1) (by rw [List.length_append, hc, ← List.length_append]; exact h2) (by rw [Heap.get_set, if_pos rfl])⟩
theorem kover {l : List K4} {j : List Value} {i : Nat} {x : K4} (hi : i < l.length) : Over (kcells l ++ j) (i * 4) x.cells (kcells (l.set i x) ++ j) := by
  have h1 : (kcells (l.take i)).length = i * 4 := by rw [kcells_len, List.length_take, Nat.min_eq_left (by omega)]
  have e : l = l.take i ++ l[i] :: l.drop (i + 1) := by rw [List.getElem_cons_drop, List.take_append_drop]
  refine ⟨by rw [List.length_append, kcells_len]; show i * 4 + 4 ≤ _; omega, ?_⟩
  have h2 : kcells l ++ j = kcells (l.take i) ++ ((l[i]).cells ++ (kcells (l.drop (i + 1)) ++ j)) := by
    conv => lhs; rw [e]
    rw [kcells_append, show kcells (l[i] :: l.drop (i + 1)) = (l[i]).cells ++ kcells (l.drop (i + 1)) from rfl]
    simp only [List.append_assoc]
  rw [h2, over_mid2 _ _ _ _ _ h1 (show (l[i]).cells.length = x.cells.length from rfl) (fun e => by have := congrArg List.length e; simp [bcells_len] at this), List.set_eq_take_append_cons_drop, if_pos hi, kcells_append, show kcells (x :: l.drop (i + 1)) = x.cells ++ kcells (l.drop (i + 1)) from rfl]
  simp only [List.append_assoc]
section
variable {h : Heap} {p m c w : Nat} {l : List GEnt} {v : Value} {most : Int} {L : List Sg} {s : Sg}
set_option maxHeartbeats 16000000 in
theorem stands_ok (ha : TbAt h p m c l most L) (hd : DbAt h w v most L) (hp : ∀ s ∈ L, 0 ≤ s.sg) :
    Runs Tryz.prog T0 (.fn fn_zmQ) [.pointer (some ⟨p, 0, none⟩), .pointer (some ⟨w, 0, none⟩), .agg ⟨s.cells⟩] h
      (fun r h' => r = .bool true ∧ Fr (fun _ => False) h h') (fun _ _ => False) := by
  have hll := ha.len
  have F0 : Fr (fun _ => False) h (h.push (.cells s.cells 0)) := Fr.refl.push
  have gs : (h.push (.cells s.cells 0)).get h.n = .cells s.cells 0 := HGet.new.eq
  have ns : (h.push (.cells s.cells 0)).n = h.n + 1 := rfl
  refine zmQ_runs ?_
  refine stp ?_
  have ha0 := ha.keep F0 id id
  have hd0 := hd.keep F0 id (fun _ _ => id)
  generalize h.push (.cells s.cells 0) = h0 at *
  haveI : HGet h0 h.n _ := ⟨gs⟩
  haveI : BLt h.n h0 := ⟨by omega⟩
  refine stp ?_
  refine D.callX (gList_ok ha0) (fun r h1 hr => ?_) (fun r h1 hr => ?_) (fun _ _ hx => hx.elim)
  · obtain ⟨ho, hnew, f1⟩ := hr
    haveI : HGet h1 h.n (.cells s.cells 0) := ⟨by rw [f1.get _ (by omega) id]; exact gs⟩
    repeat refine stab_cons inferInstance ?_
    rfl
  obtain ⟨ho1, hnew1, f1⟩ := hr
  obtain ⟨a1, c1, rfl, _, _⟩ := id ho1.rd
  have ha1 := ha0.keep f1 id id
  have F1 := F0.trans' f1
  have n1 := f1.n
  refine stp ?_
  refine D.callX (gWho_ok ha1 s.hl) (fun r h2 hr => rfl) (fun r h2 hr => ?_) (fun _ _ hx => hx.elim)
  obtain ⟨ho2, hnew2, f2⟩ := hr
  obtain ⟨a2, c2, rfl, _, _⟩ := id ho2.rd
  have ha2 := ha1.keep f2 id id
  have F2 := F1.trans' f2
  have n2 := f2.n
  refine stp ?_
  refine O.call' (gEncode_ok ha2 hp) (fun r h3 hr => ?_)
  obtain ⟨v3, rfl, ho3, hnew3, f3⟩ := hr
  obtain ⟨a3, c3, rfl, _, _⟩ := id ho3.rd
  have ha3 := ha2.keep f3 id id
  have F3 := F2.trans' f3
  have n3 := f3.n
  have hd3 := hd.keep F3 id (fun _ _ => id)
  refine stp ?_
  refine O.call' (REncodeG_ok hd3 hp) (fun r h4 hr => ?_)
  obtain ⟨v4, rfl, ho4, hnew4, f4⟩ := hr
  obtain ⟨a4, c4, rfl, _, _⟩ := id ho4.rd
  have F4 := F3.trans' f4
  have n4 := f4.n
  have hd4 := hd.keep F4 id (fun _ _ => id)
  have ha4 := ha3.keep f4 id id
  obtain ⟨av, cv, rfl, _, _⟩ := id hd4.ow.rd
  haveI : HGet h4 w _ := ⟨hd4.g⟩
  haveI : BLt w h4 := ⟨hd4.lw⟩
  refine stp ?_
  have p1 : Own h4 37 (.slice a1 L.length c1) (gcells L) L.length := ((ho1.keep f2 fun _ _ => id).keep f3 fun _ _ => id).keep f4 fun _ _ => id
  have p2 : Own h4 4 (.slice a2 (whoG s.hash L).length c2) (kcells (whoG s.hash L)) (whoG s.hash L).length := (ho2.keep f3 fun _ _ => id).keep f4 fun _ _ => id
  have p3 : Own h4 1 (.slice a3 (encG L).length c3) (bcells (encG L)) (encG L).length := ho3.keep f4 fun _ _ => id
  have hwl := who_len (hs := s.hash) (L := L) (k := L.length) (Nat.le_refl _)
  rw [List.take_length] at hwl
  have g4 : h4.get h.n = .cells s.cells 0 := by rw [f4.get _ (by omega) id, f3.get _ (by omega) id, f2.get _ (by omega) id, f1.get _ (by omega) id]; exact gs
  haveI : HGet h4 h.n _ := ⟨g4⟩
  haveI : BLt h.n h4 := ⟨by omega⟩
  refine D.callX (SameSigs_same p1 hd4.ow (by omega)) (fun r h5 hr => rfl) (fun r h5 hr => ?_) (fun _ _ hx => hx.elim)
  obtain ⟨rfl, rfl⟩ := hr
  refine stp ?_
  refine D.callT (RWhoG_ok hd4 s.hl) (fun r h6 hr => ?_) (fun r h6 hr => ?_)
  · repeat refine stab_consT inferInstance ?_
    rfl
  obtain ⟨ho6, hnew6, f6⟩ := hr
  obtain ⟨a6, c6, rfl, _, _⟩ := id ho6.rd
  refine stp ?_
  refine D.callT (sameKeys_same (p2.keep f6 fun _ _ => id) ho6 (by omega)) (fun r h7 hr => rfl) (fun r h7 hr => ?_)
  obtain ⟨rfl, rfl⟩ := hr
  have n6 := f6.n
  have ha6 := ha4.keep f6 id id
  have hd6 := hd4.keep f6 id (fun _ _ => id)
  have g6 : h7.get h.n = .cells s.cells 0 := by rw [f6.get _ (by omega) id]; exact g4
  haveI : HGet h7 h.n _ := ⟨g6⟩
  haveI : BLt h.n h7 := ⟨by omega⟩
  haveI : HGet h7 w _ := ⟨hd6.g⟩
  haveI : BLt w h7 := ⟨hd6.lw⟩
  refine stp ?_
  refine D.callT (gHas_ok ha6) (fun r h8 hr => ?_) (fun r h8 hr => ?_)
  · obtain ⟨rfl, f8⟩ := hr
    haveI : HGet h8 h.n (.cells s.cells 0) := ⟨by rw [f8.get _ (by omega) id]; exact g6⟩
    repeat refine stab_consT inferInstance ?_
    rfl
  obtain ⟨rfl, f8⟩ := hr
  have hd8 := hd6.keep f8 id (fun _ _ => id)
  have ha8 := ha6.keep f8 id id
  refine stp ?_
  refine D.callT (RHasG_ok hd8 (s := s)) (fun r h9 hr => rfl) (fun r h9 hr => ?_)
  obtain ⟨rfl, f9⟩ := hr
  have hd9 := hd8.keep f9 id (fun _ _ => id)
  have ha9 := ha8.keep f9 id id
  haveI : HGet h9 w _ := ⟨hd9.g⟩
  haveI : BLt w h9 := ⟨hd9.lw⟩
  refine stp ?_
  haveI q0 : ∀ {ts : List Value} {h : Heap} {O : Oper} {x z : Operand} [Ev ts x (.int .i64 (L.length : Nat))] [Ev ts z (.int .i64 (L.length : Nat))], XOp Tryz.prog ts h (.bin .eql O x z) (.bool true) h := xeql1 rfl
  haveI q00 : ∀ {ts : List Value} {h : Heap} {O : Oper} {x z : Operand} [Ev ts x (.int .i64 0)] [Ev ts z (.int .i64 0)], XOp Tryz.prog ts h (.bin .eql O x z) (.bool true) h := xeql1 rfl
  refine D.callT (gLen_ok ha9) (fun r h10 hr => ?_) (fun r h10 hr => ?_)
  · obtain ⟨rfl, rfl⟩ := hr
    repeat refine stab_consT inferInstance ?_
    rfl
  obtain ⟨rfl, rfl⟩ := hr
  refine stp ?_
  have e4 : (encG L).length = (encG L).length := rfl
  have r3 := (p3.keep f6 fun _ _ => id).keep f8 fun _ _ => id
  have r4 := (ho4.keep f6 fun _ _ => id).keep f8 fun _ _ => id
  refine D.callT (SameBytes_ok (a := encG L) (b := encG L) (r3.keep f9 fun _ _ => id).rd (r4.keep f9 fun _ _ => id).rd) (fun r h11 hr => rfl) (fun r h11 hr => ?_)
  obtain ⟨rfl, rfl⟩ := hr
  rw [decide_eq_true rfl]
  refine stp ?_
  have o1 := ((p1.keep f6 fun _ _ => id).keep f8 fun _ _ => id).keep f9 fun _ _ => id
  have o2 := ((p2.keep f6 fun _ _ => id).keep f8 fun _ _ => id).keep f9 fun _ _ => id
  have o3 := r3.keep f9 fun _ _ => id
  refine loop1 zmQ_l0_M 14 (fun q v14 hx => ∃ (k : Nat) (M : List Sg), M.length = L.length ∧ k ≤ L.length ∧ q = L.length - k ∧ v14 = .int .i64 k ∧ Own hx 37 (.slice a1 L.length c1) (gcells M) M.length ∧ Fr (ownedBy (.slice a1 L.length c1)) h11 hx) ?_ L.length ⟨0, L, rfl, by omega, rfl, rfl, o1, Fr.refl⟩
  rintro m v14 h' x75 x76 x77 x78 x79 x80 x81 x82 x83 x84 ⟨k, M, hML, hk, rfl, rfl, hoM, hFM⟩
  rcases Nat.lt_or_ge k L.length with hlt | hge
  · haveI q1 : ∀ {ts : List Value} {h : Heap} {O : Oper} {x z : Operand} [Ev ts x (.int .i64 (k : Nat))] [Ev ts z (.int .i64 (L.length : Nat))], XOp Tryz.prog ts h (.bin .lss O x z) (.bool true) h := xlss1 (by omega)
    obtain ⟨q, sx, cap, j, e, hq, hg, hset⟩ := own_setG (k := k) ⟨0, 0, 0, 0, List.replicate 32 0, 77, rfl⟩ hoM (by omega)
    injection e with e1 e2 e3
    subst e1
    haveI : HGet h' q (.cells (gcells M ++ j) 37) := ⟨hg⟩
    haveI : BLt q h' := ⟨hq⟩
    haveI : IdxOff 0 (k : Int) 37 (k * 37) := ⟨by omega⟩
    haveI : Over (gcells M ++ j) (k * 37) (z32 ++ [Value.int .u8 0, .int .u8 0, .int .u8 0, .int .u8 0, .int .u64 77]) (gcells (M.set k ⟨0, 0, 0, 0, List.replicate 32 0, 77, rfl⟩) ++ j) := gover (l := M) (x := ⟨0, 0, 0, 0, List.replicate 32 0, 77, rfl⟩) (by omega)
    refine stp ?_
    exact loop1a 14 (L.length - (k + 1)) (by omega) ⟨k + 1, _, by rw [List.length_set]; exact hML, by omega, rfl, rfl, hset, hFM.set fun _ => rfl⟩
  · obtain rfl : k = L.length := by omega
    haveI q1 : ∀ {ts : List Value} {h : Heap} {O : Oper} {x z : Operand} [Ev ts x (.int .i64 (L.length : Nat))] [Ev ts z (.int .i64 (L.length : Nat))], XOp Tryz.prog ts h (.bin .lss O x z) (.bool false) h := xlss0 (by omega)
    refine stp ?_
    have hKw : (whoG s.hash L).length < 256 := by omega
    have o2b : Own h' 4 (.slice a2 (whoG s.hash L).length c2) (kcells (whoG s.hash L)) (whoG s.hash L).length := o2.keep hFM fun i hi e => by
      have q1 := hnew2 i hi
      have q2 := ho1.lt e
      omega
    have hel := encG_len (L := L) hll
    generalize whoG s.hash L = K at *
    refine loop1 zmQ_l1_M 15 (fun q v15 hx => ∃ (k : Nat) (M : List K4), M.length = K.length ∧ k ≤ K.length ∧ q = K.length - k ∧ v15 = .int .i64 k ∧ Own hx 4 (.slice a2 K.length c2) (kcells M) M.length ∧ Fr (ownedBy (.slice a2 K.length c2)) h' hx) ?_ K.length ⟨0, K, rfl, by omega, rfl, rfl, o2b, Fr.refl⟩
    rintro m v15 h' x85 x86 x87 x88 x89 x90 x91 x92 x93 x94 ⟨k, M2, hML2, hk2, rfl, rfl, hoM2, hFM2⟩
    rcases Nat.lt_or_ge k K.length with hlt | hge
    · haveI q1 : ∀ {ts : List Value} {h : Heap} {O : Oper} {x z : Operand} [Ev ts x (.int .i64 (k : Nat))] [Ev ts z (.int .i64 (K.length : Nat))], XOp Tryz.prog ts h (.bin .lss O x z) (.bool true) h := xlss1 (by omega)
      obtain ⟨q, sx, cap, j, e, hq, hg, hset⟩ := own_setK (k := k) ⟨7, 0, 0, 0⟩ hoM2 (by omega)
      injection e with e1 e2 e3
      subst e1
      haveI : HGet h' q (.cells (kcells M2 ++ j) 4) := ⟨hg⟩
      haveI : BLt q h' := ⟨hq⟩
      haveI : IdxOff 0 (k : Int) 4 (k * 4) := ⟨by omega⟩
      haveI : Over (kcells M2 ++ j) (k * 4) [Value.int .u8 7, .int .u8 0, .int .u8 0, .int .u8 0] (kcells (M2.set k ⟨7, 0, 0, 0⟩) ++ j) := kover (l := M2) (x := ⟨7, 0, 0, 0⟩) (by omega)
      refine stp ?_
      exact loop1a 15 (K.length - (k + 1)) (by omega) ⟨k + 1, _, by rw [List.length_set]; exact hML2, by omega, rfl, rfl, hset, hFM2.set fun _ => rfl⟩
    · obtain rfl : k = K.length := by omega
      haveI q1 : ∀ {ts : List Value} {h : Heap} {O : Oper} {x z : Operand} [Ev ts x (.int .i64 (K.length : Nat))] [Ev ts z (.int .i64 (K.length : Nat))], XOp Tryz.prog ts h (.bin .lss O x z) (.bool false) h := xlss0 (by omega)
      refine stp ?_
      have o3c := (o3.keep hFM fun i hi e => by
        have q1 := hnew3 i hi
        have q2 := ho1.lt e
        omega).keep hFM2 fun i hi e => by
        have q1 := hnew3 i hi
        have q2 := ho2.lt e
        omega
      refine O.call' (OverBytes_ok o3c (by omega)) (fun r hz hr => ?_)
      refine stp ?_
      refine ⟨rfl, Fr.trans (S := fun _ => False) (Fr.trans (S := fun _ => False) (Fr.trans (S := fun _ => False) (((F4.trans' f6).trans' f8).trans' f9) hFM fun i hi e => ?_) hFM2 fun i hi e => ?_) hr fun i hi e => ?_⟩
      · have := hnew1 i e
        omega
      · have := hnew2 i e
        omega
      · have := hnew3 i e
        omega
end
end Go.Proofs.YtagmnpeilgnbdaaGreat.A

namespace Go.Proofs.YtagmnpeilgnbdaaGreat.A
open Go Go.Vm
set_option maxRecDepth 10000
set_option linter.unusedVariables false
theorem big_ok {h : Heap} {v : Value} {l : List UInt8} (hr : Rd h 1 v (bcells l) l.length) (hl : l.length ≤ 8) :
    Runs Tryz.prog T0 (.fn fn_zudQ) [v] h (fun r h' => r = .int .u64 (bigN l) ∧ h' = h) (fun _ _ => False) := by
  obtain ⟨a, cap, rfl, hlen, hc⟩ := hr
  refine zudQ_runs ?_
  refine stpDP ?_
  refine loop2 zudQ_l0_M 2 7 (fun m v2 v7 h' => ∃ k : Nat, k ≤ l.length ∧ m = l.length - k ∧ v7 = .int .i64 k ∧ v2 = .int .u64 (bigN (l.take k)) ∧ h' = h) ?_ l.length ⟨0, by omega, rfl, rfl, rfl, rfl⟩
  rintro m v2 v7 h' x4 x8 x9 x10 x11 x12 x13 x14 x15 x16 ⟨k, hk, rfl, rfl, rfl, rfl⟩
  refine stpDP ?_
  refine C.if (fun hlt => ?_) (fun hge => ?_)
  · obtain ⟨b, o, sp, rfl, hb, hcc⟩ := hc (by omega)
    rw [Nat.mul_one] at hcc
    haveI := Go.Vm.byte_cell (k := k) hcc (by omega)
    have h8 := bigN_take_lt (l := l) (k := k) (by omega)
    have hbt := (l.getD k 0).toNat_lt
    have hs := bigN_take (l := l) (k := k) (by omega)
    refine stpDP ?_
    refine O.how (XOp.shl8 ⟨by omega, by omega⟩) ?_
    refine stpDP ?_
    refine O.how (XOp.orByte (by omega) (by omega)) ?_
    refine stpDP ?_
    refine loop2a 2 7 (l.length - (k + 1)) (by omega) ⟨k + 1, by omega, rfl, rfl, by rw [hs], rfl⟩
  · obtain rfl : k = l.length := by omega
    refine stpDP ?_
    rw [List.take_length]
    exact ⟨rfl, rfl⟩
end Go.Proofs.YtagmnpeilgnbdaaGreat.A

namespace Go.Proofs.YtagmnpeilgnbdaaGreat.A
open Go Go.Vm
set_option maxRecDepth 10000
set_option linter.unusedVariables false
def thrown (e a : Int) : List PanicEntry := [{ v := .iface ty_wire_wrong (.agg ⟨[.int .i64 e, .int .i64 a]⟩), recovered := false }]
theorem must_yes {h : Heap} {e a : Int} : Runs Tryz.prog T0 (.fn fn_zvdQ) [.bool true, .int .i64 e, .int .i64 a] h (fun r h' => h' = h) (fun _ _ => False) := by
  refine zvdQ_runs ?_
  refine stp ?_
  rfl
theorem must_no {h : Heap} {e a : Int} : Runs Tryz.prog T0 (.fn fn_zvdQ) [.bool false, .int .i64 e, .int .i64 a] h (fun r h' => False) (fun c h' => c = thrown e a ∧ h' = h) := by
  refine zvdQ_runs ?_
  refine stp ?_
  exact ⟨rfl, rfl⟩
theorem must_ok {h : Heap} {b : Bool} {e a : Int} : Runs Tryz.prog T0 (.fn fn_zvdQ) [.bool b, .int .i64 e, .int .i64 a] h (fun r h' => b = true ∧ h' = h) (fun c h' => b = false ∧ c = thrown e a ∧ h' = h) := by
  cases b with
  | true => exact must_yes.mono (fun _ _ h => ⟨rfl, h⟩) (fun _ _ h => h.elim)
  | false => exact must_no.mono (fun _ _ h => h.elim) (fun _ _ h => ⟨rfl, h⟩)
structure PR (h : Heap) (p : Nat) (sv : Value) (bs : List UInt8) (pl : Nat) (e fa : Int) : Prop where
  at_le : pl ≤ bs.length
  small : bs.length < 1048576
  lt : p < h.n
  get : h.get p = .cells [sv, .int .i64 pl, .int .i64 e, .int .i64 fa, .bool true] 0
  own : Own h 1 sv (bcells bs) bs.length
  apart : ¬ ownedBy sv p
theorem PR.keep {S : Nat → Prop} {h h' : Heap} {p : Nat} {sv : Value} {bs : List UInt8} {pl : Nat} {e fa : Int} (hp : PR h p sv bs pl e fa) (hf : Fr S h h') (hs : ¬ S p) (hb : ∀ i, ownedBy sv i → ¬ S i) : PR h' p sv bs pl e fa :=
  ⟨hp.at_le, hp.small, hf.lt hp.lt, by rw [hf.get p hp.lt hs, hp.get], hp.own.keep hf hb, hp.apart⟩
theorem PR.none {h h' : Heap} {p : Nat} {sv : Value} {bs : List UInt8} {pl : Nat} {e fa : Int} (hp : PR h p sv bs pl e fa) (hf : Fr (fun _ => False) h h') : PR h' p sv bs pl e fa := hp.keep hf id fun _ _ => id
theorem PR.turn {h : Heap} {p : Nat} {sv : Value} {bs : List UInt8} {pl pl' : Nat} {e fa e' fa' : Int} (hp : PR h p sv bs pl e fa) (hl : pl' ≤ bs.length) :
    PR (h.set p (.cells [sv, .int .i64 pl', .int .i64 e', .int .i64 fa', .bool true] 0)) p sv bs pl' e' fa' :=
  ⟨hl, hp.small, by simpa using hp.lt, by rw [Heap.get_set, if_pos rfl], hp.own.keep (S := fun i => i = p) (Fr.refl.set fun _ => rfl) fun b hb hbp => hp.apart (hbp ▸ hb), hp.apart⟩
theorem takeU64_ok {h : Heap} {p : Nat} {sv : Value} {bs : List UInt8} {pl n : Nat} {fa a0 : Int} {fid : FuncId} {first captured : List Value} {R : RP} (hr : PR h p sv bs pl 0 fa) (hn : n < 1048576)
    (hm : ∀ h1 v, Fr (fun i => i = p) h h1 → PR h1 p sv bs (pl + n) 0 fa → pl + n ≤ bs.length → (∀ i, blockOf v i → ownedBy sv i) → Rd h1 1 v (bcells ((bs.drop pl).take n)) n → Runs Tryz.prog T0 (.fn fid) (first ++ [v] ++ captured) h1 R (fun _ _ => False)) :
    Runs Tryz.prog T0 (.fn fn_zdeQ) [.pointer (some ⟨p, 0, none⟩), .int .i64 n, .int .i64 a0, .func (.func fid) ⟨first⟩ ⟨captured⟩] h R (fun c h' => bs.length < pl + n ∧ c = thrown 6 a0 ∧ h' = h) := by
  have hr' := hr
  obtain ⟨hle, hsm, hp, hget, hown, hnot⟩ := hr
  obtain ⟨a, cap, rfl, hlen, _⟩ := hown.rd
  haveI : HGet h p _ := ⟨hget⟩
  refine zdeQ_runs ?_
  refine stp ?_
  refine D.callX must_ok (fun v h' hv => rfl) (fun v h' hv => ?_) (fun c h' hx => ⟨rfl, ?_⟩)
  · obtain ⟨hle2, rfl⟩ := hv
    have hle2 : (n : Int) ≤ bs.length - pl := of_decide_eq_true hle2
    refine stp ?_
    have hp2 := hr'.turn (pl' := pl + n) (e' := 0) (fa' := fa) (by omega)
    refine D.slice pl (pl + n) (by omega) hp2.own (by omega) (by omega) (by omega) (by omega) (fun v' hbl hrd => ?_)
    rw [Nat.mul_one, Nat.mul_one, bcells_drop, bcells_take, Nat.add_sub_cancel_left] at hrd
    refine D.callX (hm _ v' (Fr.refl.set fun _ => rfl) hp2 (by omega) hbl hrd) (fun _ _ _ => rfl) (fun r h2 hr => ?_) (fun _ _ hx => hx.elim)
    refine stp ?_
    exact hr
  · obtain ⟨hlt, rfl, rfl⟩ := hx
    have hlt : ¬ (n : Int) ≤ bs.length - pl := of_decide_eq_false hlt
    refine stp ?_
    exact ⟨by omega, rfl, rfl⟩
end Go.Proofs.YtagmnpeilgnbdaaGreat.A
