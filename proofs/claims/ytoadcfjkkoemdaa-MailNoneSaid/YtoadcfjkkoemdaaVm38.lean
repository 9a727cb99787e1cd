/- A small machine over an abstract heap: calls that are put off. -/
import Derived.Test.YtoadcfjkkoemdaaVm37
set_option linter.unusedSimpArgs false
set_option linter.unusedVariables false
namespace Go.Vm

section
variable {P : Program} {T : Table} {ts ts' : List Value} {ds : List Deferred} {h h' : Heap} {rd : Option Nat} {op : AOp} {v : Value} {d : Nat} {chk : List (Option Nat × AOp × Option (Nat × Bool))} {pan : Bool} {rest : List AOper} {Q : QS} {F : Value → List Value} {up up' : FrameMode}

theorem S.one [k : XOp P ts h op v h'] [s : LSet ts d v ts'] (hr : RunTO P T rest ⟨⟨ts', ds, h', rd⟩, up⟩ Q) : RunTO P T (⟨some d, op, none, chk, pan⟩ :: rest) ⟨⟨ts, ds, h, rd⟩, up⟩ Q :=
  RunTO.cons rfl k.nd k.nr (RunXn.ok k.run (by show RunTO P T rest ⟨⟨lset ts d v, ds, h', rd⟩, up⟩ Q; rw [s.eq]; exact hr))
theorem S.one0 [k : XOp P ts h op v h'] (hr : RunTO P T rest ⟨⟨ts, ds, h', rd⟩, up⟩ Q) : RunTO P T (⟨none, op, none, chk, pan⟩ :: rest) ⟨⟨ts, ds, h, rd⟩, up⟩ Q :=
  RunTO.cons rfl k.nd k.nr (RunXn.ok k.run hr)
theorem S.rec [s : LSetF ts d F] (hu : recovered up = (v, up')) (hr : RunTO P T rest ⟨⟨F v, ds, h, rd⟩, up'⟩ Q) : RunTO P T (⟨some d, .recover, none, chk, pan⟩ :: rest) ⟨⟨ts, ds, h, rd⟩, up⟩ Q :=
  RunTO.recover rfl rfl (by
    show RunTO P T rest ⟨⟨lset ts d (recovered up).1, ds, h, rd⟩, (recovered up).2⟩ Q
    rw [hu, s.eq]; exact hr)
theorem S.nil (hq : Q .normal ⟨⟨ts, ds, h, rd⟩, up⟩) : RunTO P T [] ⟨⟨ts, ds, h, rd⟩, up⟩ Q := RunTO.nil hq
theorem S.panic {x : Operand} {t : TypeId} {dst : Option Nat} [e : Ev ts x (.iface t v)] (hq : Q (.panic [{ v := .iface t v, recovered := false }]) ⟨⟨ts, ds, h, rd⟩, up⟩) : RunTO P T (⟨dst, .panic x, none, chk, pan⟩ :: rest) ⟨⟨ts, ds, h, rd⟩, up⟩ Q :=
  RunTO.cons rfl (fun _ _ e => by cases e) (by intro e; cases e) (RunXn.pan (fun call => by rw [xo_plain rfl]; simp only [xop, e.eq]) hq)
theorem S.end {rs : List (Nat × Option (Option Nat))} {R : FrameMode → Heap → Prop} {X : List PanicEntry → FrameMode → Heap → Prop} [k : ResO h ts rs v] (hr : R up h) : doneQ rs R X .normal ⟨⟨ts, [], h, rd⟩, up⟩ := doneQ.onEnd rfl ⟨v, k.eq⟩ hr
theorem S.ret {rs : List (Nat × Option (Option Nat))} {R : FrameMode → Heap → Prop} {X : List PanicEntry → FrameMode → Heap → Prop} [k : ResO h ts rs v] (hr : R up h) : doneQ rs R X .ret ⟨⟨ts, [], h, rd⟩, up⟩ := doneQ.onRet rfl ⟨v, k.eq⟩ hr
theorem S.next {b : ACode} (hr : RunT P T b ⟨⟨ts, ds, h, rd⟩, up⟩ Q) : thenT P T b Q .normal ⟨⟨ts, ds, h, rd⟩, up⟩ := thenT.next hr
theorem S.ifT {c : Operand} {t e : ACode} [k : Ev ts c (.bool true)] (ht : RunT P T t ⟨⟨ts, ds, h, rd⟩, up⟩ Q) : RunT P T (.cond c t e) ⟨⟨ts, ds, h, rd⟩, up⟩ Q := RunT.condT k.eq ht
theorem S.ifF {c : Operand} {t e : ACode} [k : Ev ts c (.bool false)] (ht : RunT P T e ⟨⟨ts, ds, h, rd⟩, up⟩ Q) : RunT P T (.cond c t e) ⟨⟨ts, ds, h, rd⟩, up⟩ Q := RunT.condF k.eq ht

/-- a region that draws its order, in a call that was put off -/
theorem RunT.drawn {ops : List AOper} {s : StS} {Q : QS} (h : RunD P (fun f => T f) ops s.s (fun e s' => Q e { s := s', up := s.up })) (hno : ∀ o ∈ ops, (∀ f a, o.op ≠ .callV f a) ∧ (∀ r n a, o.op ≠ .invoke r n a)) : RunT P T (.regionD ops) s Q := by
  have same : ∀ (call : Caller) (ops : List AOper) (s : St), (∀ o ∈ ops, (∀ f a, o.op ≠ .callV f a) ∧ (∀ r n a, o.op ≠ .invoke r n a)) → xopsD P (noY call) ops s = xopsD P call ops s := by
    intro call ops
    induction ops with
    | nil => intro s _; rfl
    | cons o rest ih =>
      intro s hno
      have hx : ∀ ts h, xo P (noY call) ts h o.op = xo P call ts h o.op := by
        intro ts h
        have := hno o (by simp)
        cases ho : o.op with
        | callV f a => exact absurd ho (this.1 f a)
        | invoke r n a => exact absurd ho (this.2 r n a)
        | _ => rfl
      have ih' := fun s => ih s fun o ho => hno o (by simp [ho])
      simp only [xopsD, hx, ih']
  refine RunT.regionD ?_
  unfold RunD at h
  obtain ⟨n, L, h⟩ := h
  exact ⟨n, L, fun o ho => h o (by rw [same _ _ _ hno] at ho; exact ho)⟩

theorem RunDf.mono {f : FuncId} {args : List Value} {u : FrameMode} {R R' : FrameMode → Heap → Prop} {X X' : List PanicEntry → FrameMode → Heap → Prop} (hd : RunDf P T f args u h R X) (h1 : ∀ u h, R u h → R' u h) (h2 : ∀ c u h, X c u h → X' c u h) : RunDf P T f args u h R' X' := by
  unfold RunDf at *
  obtain ⟨n, L, hd⟩ := hd
  refine ⟨n, L, fun o ho => ?_⟩
  have := hd o ho
  cases o with
  | ret u h => exact h1 _ _ this
  | pan c u h => exact h2 _ _ _ this
  | bad => exact this

/-- leaving a function: the last deferred call first -/
theorem B.deferred {rs : List (Nat × Option (Option Nat))} {R : RP} {X : XP} {f : FuncId} {captured : List Value} {args : Array Value}
    (hd : RunDf P T f (args.toList ++ captured) .returning h (fun u' h' => RunL P T rs ts ds (settle u') h' R X) (fun chain u' h' => RunL P T rs ts ds (raised u' chain) h' R X)) :
    bodyQ P T rs R X .ret ⟨ts, { target := .fn (.func f) ⟨captured⟩, args := args } :: ds, h, rd⟩ := bodyQ.onRet (RunL.cons (by intro e; cases e) hd)
theorem B.deferredP {rs : List (Nat × Option (Option Nat))} {R : RP} {X : XP} {f : FuncId} {captured : List Value} {args : Array Value} {c : List PanicEntry}
    (hd : RunDf P T f (args.toList ++ captured) (.panicking c) h (fun u' h' => RunL P T rs ts ds (settle u') h' R X) (fun chain u' h' => RunL P T rs ts ds (raised u' chain) h' R X)) :
    bodyQ P T rs R X (.panic c) ⟨ts, { target := .fn (.func f) ⟨captured⟩, args := args } :: ds, h, rd⟩ := bodyQ.onPanic (RunL.cons (by intro e; cases e) hd)
theorem L.nil {rs : List (Nat × Option (Option Nat))} {R : RP} {X : XP} [k : ResO h ts rs v] (hr : R v h) : RunL P T rs ts [] .returning h R X := RunL.nil k.eq hr
end

section
variable {P : Program} {T : Table} {ts : List Value} {ds : List Deferred} {h : Heap} {rd : Option Nat} {d : Nat} {rest : List AOper} {Q : QP}
/-- a call is put off -/
theorem O.defer0 {f : Operand} {args : List Operand} {fid : FuncId} {first captured vs mid : List Value} {chk : List (Option Nat × AOp × Option (Nat × Bool))} {pan : Bool} [e : Ev ts f (.func (.func fid) ⟨first⟩ ⟨captured⟩)] [k : EvL ts args vs] [a1 : App2 first vs mid]
    (hr : RunO P T rest ⟨ts, { target := .fn (.func fid) ⟨captured⟩, args := ⟨mid⟩ } :: ds, h, rd⟩ Q) : RunO P T (⟨none, .defer f args, none, chk, pan⟩ :: rest) ⟨ts, ds, h, rd⟩ Q :=
  RunO.defer rfl rfl (by simp only [deferOf, e.eq, k.eq, a1.eq]) hr
end
end Go.Vm
