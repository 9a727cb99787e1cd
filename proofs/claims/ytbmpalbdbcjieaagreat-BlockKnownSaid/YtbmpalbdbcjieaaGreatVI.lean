/- A small machine over an abstract heap: shifts, bits, division; the cells of slices of bytes. -/
import Derived.Test.YtbmpalbdbcjieaaGreatVH
import Derived.Test.YtbmpalbdbcjieaaGreatVG
import Derived.ChangeArms
import Derived.DataShut
import Derived.OpenShut
import Derived.Laws.StructEq
set_option linter.unusedSimpArgs false
set_option linter.unusedVariables false
namespace Go.Vm
open Go.IntWalk
section
variable {P : Program} {ts : List Value} {h h' : Heap} {x y a b c i : Operand} {u v w : Value} {l l' out : List Value} {o n k size len r off m : Nat} {sp : Option Nat} {K J : IntKind} {p q : Int} {A B : Bool} {t t' ty : TypeId}
theorem bin_raw_ne {op : BinOp} {O : Oper} (hop : ∀ k a b, binInt op k a b = none) (e1 : eval ts x = u) (e2 : eval ts y = v) : xop P (eval ts) h (.bin op O x y) = rawOp P (eval ts) O h :=
  bin_raw (fun k a b _ _ => hop k a b) e1 e2
theorem XOp.shl (hq : 0 ≤ q) [e1 : Ev ts x (.int K p)] [e2 : Ev ts y (.int J q)] : XOp P ts h (.bin .shl (so (.binOp .shl t x y t') ty) x y) (.int K (K.wrap (p * 2 ^ (min q.toNat K.bits)))) h :=
  ⟨rfl, (bin_raw_ne (fun _ _ _ => rfl) e1.eq e2.eq).trans (raw_bin e1.eq e2.eq rfl rfl (by
    show pr P (Op.shift .shl K p J q) = _
    unfold Op.shift
    rw [if_neg (by omega)]; rfl) rfl)⟩
theorem XOp.shr (hq : 0 ≤ q) [e1 : Ev ts x (.int K p)] [e2 : Ev ts y (.int J q)] : XOp P ts h (.bin .shr (so (.binOp .shr t x y t') ty) x y) (.int K (p.fdiv (2 ^ (min q.toNat K.bits)))) h :=
  ⟨rfl, (bin_raw_ne (fun _ _ _ => rfl) e1.eq e2.eq).trans (raw_bin e1.eq e2.eq rfl rfl (by
    show pr P (Op.shift .shr K p J q) = _
    unfold Op.shift
    rw [if_neg (by omega)]; rfl) rfl)⟩
theorem XOp.orI [e1 : Ev ts x (.int K p)] [e2 : Ev ts y (.int K q)] : XOp P ts h (.bin .or (so (.binOp .or t x y t') ty) x y) (.int K (K.wrap ((BitVec.ofInt K.bits p ||| BitVec.ofInt K.bits q).toNat : Nat))) h :=
  ⟨rfl, (bin_raw_ne (fun _ _ _ => rfl) e1.eq e2.eq).trans (raw_bin e1.eq e2.eq rfl rfl (by
    show pr P (if K ≠ K then _ else _) = _
    rw [if_neg (by simp)]; rfl) rfl)⟩
theorem XOp.andI [e1 : Ev ts x (.int K p)] [e2 : Ev ts y (.int K q)] : XOp P ts h (.bin .and (so (.binOp .and t x y t') ty) x y) (.int K (K.wrap ((BitVec.ofInt K.bits p &&& BitVec.ofInt K.bits q).toNat : Nat))) h :=
  ⟨rfl, (bin_raw_ne (fun _ _ _ => rfl) e1.eq e2.eq).trans (raw_bin e1.eq e2.eq rfl rfl (by
    show pr P (if K ≠ K then _ else _) = _
    rw [if_neg (by simp)]; rfl) rfl)⟩
theorem XOp.xorI [e1 : Ev ts x (.int K p)] [e2 : Ev ts y (.int K q)] : XOp P ts h (.bin .xor (so (.binOp .xor t x y t') ty) x y) (.int K (K.wrap ((BitVec.ofInt K.bits p ^^^ BitVec.ofInt K.bits q).toNat : Nat))) h :=
  ⟨rfl, (bin_raw_ne (fun _ _ _ => rfl) e1.eq e2.eq).trans (raw_bin e1.eq e2.eq rfl rfl (by
    show pr P (if K ≠ K then _ else _) = _
    rw [if_neg (by simp)]; rfl) rfl)⟩
theorem XOp.quoI (hq : q ≠ 0) [e1 : Ev ts x (.int K p)] [e2 : Ev ts y (.int K q)] : XOp P ts h (.bin .quo (so (.binOp .quo t x y t') ty) x y) (.int K (K.wrap (p.tdiv q))) h :=
  ⟨rfl, (bin_raw_ne (fun _ _ _ => rfl) e1.eq e2.eq).trans (raw_bin e1.eq e2.eq rfl rfl (by
    show pr P (if K ≠ K then _ else Op.intDiv .quo K p q) = _
    rw [if_neg (by simp)]
    unfold Op.intDiv
    rw [if_neg hq]; rfl) rfl)⟩
theorem XOp.remI (hq : q ≠ 0) [e1 : Ev ts x (.int K p)] [e2 : Ev ts y (.int K q)] : XOp P ts h (.bin .rem (so (.binOp .rem t x y t') ty) x y) (.int K (p.tmod q)) h :=
  ⟨rfl, (bin_raw_ne (fun _ _ _ => rfl) e1.eq e2.eq).trans (raw_bin e1.eq e2.eq rfl rfl (by
    show pr P (if K ≠ K then _ else Op.intDiv .rem K p q) = _
    rw [if_neg (by simp)]
    unfold Op.intDiv
    rw [if_neg hq]; rfl) rfl)⟩
end
section
variable {P : Program} {T : Table} {ts : List Value} {ds : List Deferred} {h : Heap} {rd : Option Nat} {v : Value} {d size n i j : Nat} {c : List Value} {x lo hi : Operand} {p q : Int} {K J : IntKind} {chk : List (Option Nat × AOp × Option (Nat × Bool))} {pan : Bool} {rest : List AOper} {Q : QP} {F : Value → List Value}
theorem O.slice (i j : Nat) (hs : size ≠ 0) (ho : Own h size v c n) [e1 : Ev ts x v] [e2 : Ev ts lo (.int K p)] [e3 : Ev ts hi (.int J q)] [s : LSetF ts d F] (hp : p = i) (hq : q = j) (hij : i ≤ j) (hj : j ≤ n)
    (hk : ∀ v', (∀ b, blockOf v' b → ownedBy v b) → Rd h size v' ((c.drop (i * size)).take ((j - i) * size)) (j - i) → RunO P T rest ⟨F v', ds, h, rd⟩ Q) : RunO P T (⟨some d, .sliceSl size x (some lo) (some hi) none, none, chk, pan⟩ :: rest) ⟨ts, ds, h, rd⟩ Q := by
  obtain ⟨v', hx, hbl, hr⟩ := slice_own (e := eval ts) (lo := lo) (hi := hi) (K := K) (J := J) hs ho (by rw [e2.eq, hp]) (by rw [e3.eq, hq]) hij hj
  exact RunO.cons rfl (fun _ _ e => by cases e) (RunX.ok (h' := h) (v := v') (fun call => by rw [xo_plain rfl]; simp only [xop, e1.eq, hx]) (by
    show RunO P T rest ⟨lset ts d v', ds, h, rd⟩ Q
    rw [s.eq]; exact hk v' hbl hr))
theorem D.slice (i j : Nat) (hs : size ≠ 0) (ho : Own h size v c n) [e1 : Ev ts x v] [e2 : Ev ts lo (.int K p)] [e3 : Ev ts hi (.int J q)] [s : LSetF ts d F] (hp : p = i) (hq : q = j) (hij : i ≤ j) (hj : j ≤ n)
    (hk : ∀ v', (∀ b, blockOf v' b → ownedBy v b) → Rd h size v' ((c.drop (i * size)).take ((j - i) * size)) (j - i) → RunD P T rest ⟨F v', ds, h, rd⟩ Q) : RunD P T (⟨some d, .sliceSl size x (some lo) (some hi) none, none, [], pan⟩ :: rest) ⟨ts, ds, h, rd⟩ Q := by
  obtain ⟨v', hx, hbl, hr⟩ := slice_own (e := eval ts) (lo := lo) (hi := hi) (K := K) (J := J) hs ho (by rw [e2.eq, hp]) (by rw [e3.eq, hq]) hij hj
  exact RunD.cons rfl (RunX.ok (h' := h) (v := v') (fun call => by rw [xo_plain rfl]; simp only [xop, e1.eq, hx]) (by
    show _ ∧ RunD P T rest ⟨lset ts d v', ds, h, rd⟩ Q
    rw [s.eq]; exact ⟨rfl, hk v' hbl hr⟩))
end
section
variable {P : Program} {T : Table} {ts : List Value} {ds : List Deferred} {h : Heap} {rd : Option Nat} {v w : Value} {dst size bytes n m el : Nat} {zero c d : List Value} {zeros : Bool} {x y : Operand} {chk : List (Option Nat × AOp × Option (Nat × Bool))} {pan : Bool} {rest : List AOper} {Q : QP} {F : Value → List Value}
theorem O.append [e1 : Ev ts x v] [e2 : Ev ts y w] [s : LSetF ts dst F] (ho : Own h size v c n) (hx : newCells h size zero zeros w = some (m, d)) (hd : d.length = m * size) (h1 : d.all Value.oneCell' = true) (hs : size ≠ 0) (hb : bytes < 1048576) (hsm : n + m < 1048576)
    (hk : ∀ v' h', Own h' size v' (c ++ d) (n + m) → Fr (ownedBy v) h h' → (∀ i, ownedBy v' i → ownedBy v i ∨ h.n ≤ i) → RunO P T rest ⟨F v', ds, h', rd⟩ Q) : RunO P T (⟨some dst, .append el size bytes zero zeros x y, none, chk, pan⟩ :: rest) ⟨ts, ds, h, rd⟩ Q := by
  obtain ⟨v', h', hx, h2, h3, h4⟩ := append_own hs hb hsm ho hx hd h1
  exact RunO.cons rfl (fun _ _ e => by cases e) (RunX.ok (h' := h') (v := v') (fun call => by rw [xo_plain rfl]; simp only [xop, e1.eq, e2.eq, hx]) (by
    show RunO P T rest ⟨lset ts dst v', ds, h', rd⟩ Q
    rw [s.eq]; exact hk v' h' h2 h3 h4))
end
theorem byte_cell {h : Heap} {b o n k : Nat} {l : List UInt8} (hc : cellsAt h b o n = some (bcells l)) (hk : k < n) : Cell h b (o + k) (.int .u8 (l.getD k 0).toNat) := by
  have hl := cellsAt_length hc
  have := cellsAt_sub (k := k) (m := 1) hc (by omega)
  refine ⟨by rw [this, take_one _ _ (by omega)]; congr 2; exact (bcells_get (l := l) (k := k) (by rw [bcells_len] at hl; omega)).eq⟩
def bigN (l : List UInt8) : Nat := l.foldl (fun n b => n * 256 + b.toNat) 0
end Go.Vm

/- A small machine over an abstract heap: calls that are put off. -/
set_option linter.unusedSimpArgs false
set_option linter.unusedVariables false
namespace Go.Vm
section
variable {P : Program} {T : Table} {ts ts' : List Value} {ds : List Deferred} {h h' : Heap} {rd : Option Nat} {op : AOp} {v : Value} {d : Nat} {chk : List (Option Nat × AOp × Option (Nat × Bool))} {pan : Bool} {rest : List AOper} {Q : QS} {F : Value → List Value} {up up' : FrameMode}
theorem S.one [k : XOp P ts h op v h'] [s : LSet ts d v ts'] (hr : RunTO P T rest ⟨⟨ts', ds, h', rd⟩, up⟩ Q) : RunTO P T (⟨some d, op, none, chk, pan⟩ :: rest) ⟨⟨ts, ds, h, rd⟩, up⟩ Q :=
  RunTO.cons rfl k.nd k.nr (RunXn.ok k.run (by show RunTO P T rest ⟨⟨lset ts d v, ds, h', rd⟩, up⟩ Q; rw [s.eq]; exact hr))
theorem S.one0 [k : XOp P ts h op v h'] (hr : RunTO P T rest ⟨⟨ts, ds, h', rd⟩, up⟩ Q) : RunTO P T (⟨none, op, none, chk, pan⟩ :: rest) ⟨⟨ts, ds, h, rd⟩, up⟩ Q :=
  RunTO.cons rfl k.nd k.nr (RunXn.ok k.run hr)
theorem S.nil (hq : Q .normal ⟨⟨ts, ds, h, rd⟩, up⟩) : RunTO P T [] ⟨⟨ts, ds, h, rd⟩, up⟩ Q := RunTO.nil hq
theorem S.panic {x : Operand} {t : TypeId} {dst : Option Nat} [e : Ev ts x (.iface t v)] (hq : Q (.panic [{ v := .iface t v, recovered := false }]) ⟨⟨ts, ds, h, rd⟩, up⟩) : RunTO P T (⟨dst, .panic x, none, chk, pan⟩ :: rest) ⟨⟨ts, ds, h, rd⟩, up⟩ Q :=
  RunTO.cons rfl (fun _ _ e => by cases e) (by intro e; cases e) (RunXn.pan (fun call => by rw [xo_plain rfl]; simp only [xop, e.eq]) hq)
theorem S.end {rs : List (Nat × Option (Option Nat))} {R : FrameMode → Heap → Prop} {X : List PanicEntry → FrameMode → Heap → Prop} [k : ResO h ts rs v] (hr : R up h) : doneQ rs R X .normal ⟨⟨ts, [], h, rd⟩, up⟩ := doneQ.onEnd rfl ⟨v, k.eq⟩ hr
theorem S.ret {rs : List (Nat × Option (Option Nat))} {R : FrameMode → Heap → Prop} {X : List PanicEntry → FrameMode → Heap → Prop} [k : ResO h ts rs v] (hr : R up h) : doneQ rs R X .ret ⟨⟨ts, [], h, rd⟩, up⟩ := doneQ.onRet rfl ⟨v, k.eq⟩ hr
theorem S.next {b : ACode} (hr : RunT P T b ⟨⟨ts, ds, h, rd⟩, up⟩ Q) : thenT P T b Q .normal ⟨⟨ts, ds, h, rd⟩, up⟩ := thenT.next hr
theorem S.ifT {c : Operand} {t e : ACode} [k : Ev ts c (.bool true)] (ht : RunT P T t ⟨⟨ts, ds, h, rd⟩, up⟩ Q) : RunT P T (.cond c t e) ⟨⟨ts, ds, h, rd⟩, up⟩ Q := RunT.condT k.eq ht
theorem S.ifF {c : Operand} {t e : ACode} [k : Ev ts c (.bool false)] (ht : RunT P T e ⟨⟨ts, ds, h, rd⟩, up⟩ Q) : RunT P T (.cond c t e) ⟨⟨ts, ds, h, rd⟩, up⟩ Q := RunT.condF k.eq ht
theorem RunT.drawn {ops : List AOper} {s : StS} {Q : QS} (h : RunD P (fun f => T f) ops s.s (fun e s' => Q e { s := s', up := s.up })) (hno : ∀ o ∈ ops, (∀ f a, o.op ≠ .callV f a) ∧ (∀ r n a, o.op ≠ .invoke r n a)) : RunT P T (.regionD ops) s Q := by
  have same : ∀ (call : Caller) (ops : List AOper) (s : St), (∀ o ∈ ops, (∀ f a, o.op ≠ .callV f a) ∧ (∀ r n a, o.op ≠ .invoke r n a)) → xopsD P (noY call) ops s = xopsD P call ops s := by
    intro call ops
    induction ops with
    | nil => intro s _; rfl
    | cons o rest ih =>
      intro s hno
      have hx : ∀ ts h, xo P (noY call) ts h o.op = xo P call ts h o.op := by
        intro ts h
        have := hno o (by simp)
        cases ho : o.op with
        | callV f a => exact absurd ho (this.1 f a)
        | invoke r n a => exact absurd ho (this.2 r n a)
        | _ => rfl
      have ih' := fun s => ih s fun o ho => hno o (by simp [ho])
      simp only [xopsD, hx, ih']
  refine RunT.regionD ?_
  unfold RunD at h
  obtain ⟨n, L, h⟩ := h
  exact ⟨n, L, fun o ho => h o (by rw [same _ _ _ hno] at ho; exact ho)⟩
theorem RunDf.mono {f : FuncId} {args : List Value} {u : FrameMode} {R R' : FrameMode → Heap → Prop} {X X' : List PanicEntry → FrameMode → Heap → Prop} (hd : RunDf P T f args u h R X) (h1 : ∀ u h, R u h → R' u h) (h2 : ∀ c u h, X c u h → X' c u h) : RunDf P T f args u h R' X' := by
  unfold RunDf at *
  obtain ⟨n, L, hd⟩ := hd
  refine ⟨n, L, fun o ho => ?_⟩
  have := hd o ho
  cases o with
  | ret u h => exact h1 _ _ this
  | pan c u h => exact h2 _ _ _ this
  | bad => exact this
theorem B.deferred {rs : List (Nat × Option (Option Nat))} {R : RP} {X : XP} {f : FuncId} {captured : List Value} {args : Array Value}
    (hd : RunDf P T f (args.toList ++ captured) .returning h (fun u' h' => RunL P T rs ts ds (settle u') h' R X) (fun chain u' h' => RunL P T rs ts ds (raised u' chain) h' R X)) :
    bodyQ P T rs R X .ret ⟨ts, { target := .fn (.func f) ⟨captured⟩, args := args } :: ds, h, rd⟩ := bodyQ.onRet (RunL.cons (by intro e; cases e) hd)
theorem B.deferredP {rs : List (Nat × Option (Option Nat))} {R : RP} {X : XP} {f : FuncId} {captured : List Value} {args : Array Value} {c : List PanicEntry}
    (hd : RunDf P T f (args.toList ++ captured) (.panicking c) h (fun u' h' => RunL P T rs ts ds (settle u') h' R X) (fun chain u' h' => RunL P T rs ts ds (raised u' chain) h' R X)) :
    bodyQ P T rs R X (.panic c) ⟨ts, { target := .fn (.func f) ⟨captured⟩, args := args } :: ds, h, rd⟩ := bodyQ.onPanic (RunL.cons (by intro e; cases e) hd)
theorem L.nil {rs : List (Nat × Option (Option Nat))} {R : RP} {X : XP} [k : ResO h ts rs v] (hr : R v h) : RunL P T rs ts [] .returning h R X := RunL.nil k.eq hr
end
section
variable {P : Program} {T : Table} {ts : List Value} {ds : List Deferred} {h : Heap} {rd : Option Nat} {d : Nat} {rest : List AOper} {Q : QP}
theorem O.defer0 {f : Operand} {args : List Operand} {fid : FuncId} {first captured vs mid : List Value} {chk : List (Option Nat × AOp × Option (Nat × Bool))} {pan : Bool} [e : Ev ts f (.func (.func fid) ⟨first⟩ ⟨captured⟩)] [k : EvL ts args vs] [a1 : App2 first vs mid]
    (hr : RunO P T rest ⟨ts, { target := .fn (.func fid) ⟨captured⟩, args := ⟨mid⟩ } :: ds, h, rd⟩ Q) : RunO P T (⟨none, .defer f args, none, chk, pan⟩ :: rest) ⟨ts, ds, h, rd⟩ Q :=
  RunO.defer rfl rfl (by simp only [deferOf, e.eq, k.eq, a1.eq]) hr
end
end Go.Vm

/- A small machine over an abstract heap: what is handed in; functions that are told by what they do. -/
set_option linter.unusedSimpArgs false
set_option linter.unusedVariables false
namespace Go.Vm
open Go.ChangeShapes Go.WideShapes Go.RowKit
theorem HR.later {g : Gh} {h : Heap} {B : Nat} {w0 w w' : World} (hr : HR g h B w0 w) (hb : Below w.heap.size w w') : HR g h B w0 w' where
  len := hr.len
  alive := fun i x hx => by
    obtain ⟨a, b, c⟩ := hr.alive i x hx
    exact ⟨a, Nat.lt_of_lt_of_le b hb.size, c.heap (hb.block _ b)⟩
  inj := hr.inj
  dead := hr.dead
  below := hr.below.trans (hb.mono (Nat.le_trans hr.base hr.below.size))
  base := hr.base
  zero := hr.zero
def primTrue : AFunc := ⟨0, [], .skip, some fun args h => match args with
  | [] => [.ret (.bool true) h]
  | _ => [.bad]⟩
def withTrue (P : Program) (ks : List FuncId) : Table := fun f => if ks.contains f then some primTrue else tableOf P f
theorem fnOK_of {P : Program} {f : FuncId} {af : AFunc} (h : tableOf P f = some af) : FnOK P f := by
  obtain ⟨fn, hf, hc⟩ := (tableOf_ok (P := P)).plain h (by
    unfold tableOf at h
    cases hf : P.funcs[f]? with
    | none => rw [hf] at h; cases h
    | some fn => rw [hf] at h; exact compFunc_prim h)
  obtain ⟨c, hb, hn, _⟩ := compFunc_parts hc
  exact ⟨fn, hf, by rw [hb]; rfl, hn⟩
def KnownAll (P : Program) : List FuncId → Prop
  | [] => True
  | f :: fs => ((∃ af, tableOf P f = some af) ∧ ∀ w, Calls P f #[] w fun e w' => e = .returned (.bool true) ∧ Below w.heap.size w w') ∧ KnownAll P fs
theorem KnownAll.mem {P : Program} : ∀ {fs : List FuncId}, KnownAll P fs → ∀ {f : FuncId}, f ∈ fs → (∃ af, tableOf P f = some af) ∧ ∀ w, Calls P f #[] w fun e w' => e = .returned (.bool true) ∧ Below w.heap.size w w'
  | [], _, _, hf => by cases hf
  | _ :: _, h, _, hf => by
    rcases List.mem_cons.1 hf with rfl | hf
    · exact h.1
    · exact KnownAll.mem h.2 hf
theorem HR.pushRo {g : Gh} {h : Heap} {B : Nat} {w0 w : World} (hr : HR g h B w0 w) {x : GB} {c : List Value} (hb : x.b < B) (hx : RoR g w x c) : HR (g ++ [some x]) (h.push (.ro c)) B w0 w where
  len := by simp [hr.len]
  alive := fun i y hy => by
    rw [Heap.get_push]
    by_cases hi : i < g.length
    · rw [List.getElem?_append_left hi] at hy
      obtain ⟨a, b, d⟩ := hr.alive i y hy
      rw [if_neg (by rw [← hr.len]; omega)]
      exact ⟨a, b, d.mono (Le.push _ _)⟩
    · have hil : i = g.length := by
        have := (List.getElem?_eq_some_iff.1 hy).1
        simp at this; omega
      subst hil
      simp at hy
      subst hy
      rw [if_pos hr.len]
      refine ⟨.inr rfl, Nat.lt_of_lt_of_le hb (Nat.le_trans hr.base hr.below.size), ?_⟩
      obtain ⟨c', el, fz, h1, h2, h3⟩ := hx
      exact ⟨c', el, fz, h1, h2, h3.mono (Le.push _ _)⟩
  inj := fun i j y z hB hy hz e => by
    have sp : ∀ (i : Nat) (y : GB), (g ++ [some x])[i]? = some (some y) → g[i]? = some (some y) ∨ GB.b y < B := fun i y hy => by
      by_cases hi : i < g.length
      · rw [List.getElem?_append_left hi] at hy; exact .inl hy
      · have hil : i = g.length := by
          have := (List.getElem?_eq_some_iff.1 hy).1
          simp at this; omega
        subst hil
        simp at hy
        subst hy
        exact .inr hb
    rcases sp i y hy with h1 | h1
    · rcases sp j z hz with h2 | h2
      · exact hr.inj i j y z hB h1 h2 e
      · omega
    · omega
  dead := fun i hi => by
    rw [Heap.get_push]
    by_cases e : i = h.n
    · exfalso
      refine hi x ?_
      rw [e, ← hr.len]; simp
    · rw [if_neg e]
      refine hr.dead i fun y hy => ?_
      have hl := (List.getElem?_eq_some_iff.1 hy).1
      exact hi y (by rw [List.getElem?_append_left hl]; exact hy)
  below := hr.below
  base := hr.base
  zero := by
    have h0 := hr.zero
    have hl := (List.getElem?_eq_some_iff.1 h0).1
    rw [List.getElem?_append_left hl]; exact h0
def Fits (P : Program) (h : Heap) : Nat → TypeId → List Value → Prop
  | 0, _, _ => False
  | m + 1, t, cs =>
    match P.underlying t with
    | some .bool => ∃ b, cs = [.bool b]
    | some (.int k) => ∃ x, cs = [.int k x] ∧ (Lit.int k x).wf = true
    | some .string => ∃ s, cs = [.string s] ∧ s.size ≤ maxLen
    | some (.slice e) => cs = [.slice none 0 0] ∨ ∃ b len cap c, cs = [.slice (some ⟨b, 0, none⟩) len cap] ∧ b < h.n ∧ len ≤ cap ∧ cap ≤ maxLen ∧ (len ≠ 0 → h.get b = .ro c) ∧ c.length = len * P.cellsOf e ∧
        ∀ i, i < len → Fits P h m e ((c.drop (i * P.cellsOf e)).take (P.cellsOf e))
    | some (.struct fs) => cs.length = P.cellsOf t ∧ ∀ (i : Nat) (f : Field), fs[i]? = some f → Fits P h m f.type ((cs.drop f.offset).take (P.cellsOf f.type))
    | some (.array n e) => cs.length = P.cellsOf t ∧ ∀ i, i < n → Fits P h m e ((cs.drop (i * P.cellsOf e)).take (P.cellsOf e))
    | _ => False
def layFrom (P : Program) : List Field → Nat → Option Nat
  | [], off => some off
  | f :: fs, off => if f.offset = off then layFrom P fs (off + P.cellsOf f.type) else none
def tiles (P : Program) : Nat → TypeId → Bool
  | 0, _ => false
  | m + 1, t =>
    match P.underlying t with
    | some .bool | some (.int _) | some .string => P.cellsOf t == 1
    | some (.slice e) => P.cellsOf t == 1 && decide (0 < P.cellsOf e) && tiles P m e
    | some (.struct fs) => layFrom P fs.toList 0 == some (P.cellsOf t) && fs.toList.all fun f => tiles P m f.type
    | some (.array n e) => P.cellsOf t == n * P.cellsOf e && tiles P m e
    | _ => false
theorem Fits.keep {P : Program} {h h' : Heap} (hf : Fr (fun _ => False) h h') : ∀ (m : Nat) (t : TypeId) (cs : List Value), Fits P h m t cs → Fits P h' m t cs := by
  intro m
  induction m with
  | zero => intro t cs hc; exact hc.elim
  | succ m ih =>
    intro t cs hc
    unfold Fits at hc ⊢
    split at hc
    · exact hc
    · exact hc
    · exact hc
    · rcases hc with hc | ⟨b, len, cap, c, h1, h2, h3, h4, h5, h6, h7⟩
      · exact .inl hc
      · exact .inr ⟨b, len, cap, c, h1, hf.lt h2, h3, h4, fun hn => by rw [hf.get b h2 id]; exact h5 hn, h6, fun i hi => ih _ _ (h7 i hi)⟩
    · exact ⟨hc.1, fun i f hi => ih _ _ (hc.2 i f hi)⟩
    · exact ⟨hc.1, fun i hi => ih _ _ (hc.2 i hi)⟩
    · exact hc
def Read (P : Program) (w : World) (m : Nat) (t : TypeId) (cs : List Value) : Prop :=
  ∀ (g : Gh) (h : Heap), HR g h w.heap.size w w → ∃ (g' : Gh) (h' : Heap) (vs : List Value), Le g g' ∧ HR g' h' w.heap.size w w ∧ Fr (fun _ => False) h h' ∧ Fits P h' m t vs ∧ VRL g' vs cs ∧ vs.length = P.cellsOf t
theorem VRL.len {g : Gh} {a b : List Value} (h : VRL g a b) : a.length = b.length := h.length.symm
section
variable {H : Type} {enc : TypeId × Value → H} {P : Program} {w : World}
def FitsV (P : Program) (h : Heap) (m : Nat) (t : TypeId) (v : Value) : Prop :=
  match P.underlying t with
  | some (.struct _) | some (.array _ _) => ∃ cs, v = .agg ⟨cs⟩ ∧ Fits P h m t cs
  | _ => Fits P h m t [v]
def FitsAll (P : Program) (h : Heap) (m : Nat) : List TypeId → List Value → Prop
  | [], [] => True
  | t :: ts, v :: vs => FitsV P h m t v ∧ FitsAll P h m ts vs
  | _, _ => False
theorem FitsV.keep {h h' : Heap} (hf : Fr (fun _ => False) h h') {m : Nat} {t : TypeId} {v : Value} (hv : FitsV P h m t v) : FitsV P h' m t v := by
  unfold FitsV at *
  split at hv
  · obtain ⟨cs, h1, h2⟩ := hv; exact ⟨cs, h1, h2.keep hf⟩
  · obtain ⟨cs, h1, h2⟩ := hv; exact ⟨cs, h1, h2.keep hf⟩
  · exact Fits.keep hf _ _ _ hv
theorem FitsAll.keep {h h' : Heap} (hf : Fr (fun _ => False) h h') {m : Nat} : ∀ {ts : List TypeId} {vs : List Value}, FitsAll P h m ts vs → FitsAll P h' m ts vs
  | [], [], h => h
  | _ :: _, _ :: _, h => ⟨h.1.keep hf, FitsAll.keep hf h.2⟩
  | [], _ :: _, h => h.elim
  | _ :: _, [], h => h.elim
end
end Go.Vm

/- A small machine over an abstract heap: the statement of a function that comes to true. -/
set_option linter.unusedSimpArgs false
set_option linter.unusedVariables false
namespace Go.Vm
open Go.ChangeShapes Go.WideShapes Go.RowKit
section
variable {H : Type} {enc : TypeId × Value → H} {P : Program} {w w' : World}
end
end Go.Vm

/- A small machine over an abstract heap: Go's == on bools, structs and arrays; bytes that are zero. -/
set_option linter.unusedSimpArgs false
set_option linter.unusedVariables false
namespace Go.Vm
section
variable {P : Program}
theorem pr_bindE {α β : Type} (s : Sem α) (k : α → Sem β) : pr P (s >>= k) = match pr P s with
    | some (.ok a) => pr P (k a)
    | some (.error v) => some (.error v)
    | none => none := by
  induction s with
  | pure a => rfl
  | program f ih => exact ih P
  | halt x => cases x <;> rfl
  | _ => rfl
theorem pr_pure {α : Type} (a : α) : pr P (pure a : Sem α) = some (.ok a) := rfl
theorem pr_program : pr P program = some (.ok P) := rfl
inductive LK where
  | b | s | i (k : IntKind)
  deriving DecidableEq
def LK.is : LK → Value → Prop
  | .b, .bool _ => True
  | .s, .string _ => True
  | .i k, .int k' _ => k' = k
  | _, _ => False
def KLp : List LK → List Value → Prop
  | [], [] => True
  | k :: ks, v :: vs => k.is v ∧ KLp ks vs
  | _, _ => False
theorem KLp.length : ∀ {ks : List LK} {vs : List Value}, KLp ks vs → vs.length = ks.length
  | [], [], _ => rfl
  | _ :: _, _ :: _, h => by simp [KLp.length h.2]
  | [], _ :: _, h => h.elim
  | _ :: _, [], h => h.elim
theorem KLp.append : ∀ {ks ks' : List LK} {vs vs' : List Value}, KLp ks vs → KLp ks' vs' → KLp (ks ++ ks') (vs ++ vs')
  | [], _, [], _, _, h => h
  | _ :: _, _, _ :: _, _, h, h' => ⟨h.1, KLp.append h.2 h'⟩
  | [], _, _ :: _, _, h, _ => h.elim
  | _ :: _, _, [], _, h, _ => h.elim
theorem KLp.drop : ∀ {ks : List LK} {vs : List Value} (n : Nat), KLp ks vs → KLp (ks.drop n) (vs.drop n)
  | _, _, 0, h => by simpa using h
  | [], [], n + 1, h => by simp [KLp]
  | _ :: _, _ :: _, n + 1, h => by simpa using KLp.drop n h.2
  | [], _ :: _, _, h => h.elim
  | _ :: _, [], _, h => h.elim
theorem KLp.take : ∀ {ks : List LK} {vs : List Value} (n : Nat), KLp ks vs → KLp (ks.take n) (vs.take n)
  | _, _, 0, h => by simp [KLp]
  | [], [], n + 1, h => by simp [KLp]
  | _ :: _, _ :: _, n + 1, h => by simpa using ⟨h.1, KLp.take n h.2⟩
  | [], _ :: _, _, h => h.elim
  | _ :: _, [], _, h => h.elim
def leaves (P : Program) : Nat → TypeId → Option (List LK)
  | 0, _ => none
  | m + 1, t =>
    match P.underlying t with
    | some .bool => if P.cellsOf t = 1 ∧ (P.info? t).isSome then some [.b] else none
    | some (.int k) => if P.cellsOf t = 1 ∧ (P.info? t).isSome then some [.i k] else none
    | some .string => if P.cellsOf t = 1 ∧ (P.info? t).isSome then some [.s] else none
    | some (.struct fs) => if P.stoodInHeld t = false ∧ (P.info? t).isSome ∧ fs.toList.all (fun f => f.name != "_") = true ∧ layFrom P fs.toList 0 = some (P.cellsOf t) then (fs.toList.mapM fun f => leaves P m f.type).map List.flatten else none
    | some (.array n e) => if P.cellsOf t = n * P.cellsOf e ∧ (P.info? t).isSome then (leaves P m e).map fun l => (List.replicate n l).flatten else none
    | _ => none
def isAggT (P : Program) (t : TypeId) : Bool := match P.underlying t with
  | some (.struct _) | some (.array _ _) => true
  | _ => false
def valT (P : Program) (t : TypeId) (cs : List Value) : Value := if isAggT P t then .agg ⟨cs⟩ else lget cs 0
theorem pr_sizeOf {t : TypeId} (h : (P.info? t).isSome) : pr P (sizeOf t) = some (.ok (P.cellsOf t)) := by
  unfold sizeOf typeInfo Program.cellsOf
  simp only [pr_bindE, pr_program]
  cases hi : P.info? t with
  | none => rw [hi] at h; cases h
  | some i => rfl
theorem pr_underlying {t : TypeId} {d : TypeDesc} (h : P.underlying t = some d) : pr P (underlying t) = some (.ok d) := pr_under h
theorem pr_isAgg {t : TypeId} {d : TypeDesc} (hu : P.underlying t = some d) : pr P (isAgg t) = some (.ok (isAggT P t)) := by
  unfold isAgg isAggT
  rw [pr_bindE, pr_underlying hu, hu]
  cases d <;> rfl
theorem pr_part {t : TypeId} {d : TypeDesc} (hu : P.underlying t = some d) (hi : (P.info? t).isSome) {cs : List Value} {off : Nat} (hl : off + P.cellsOf t ≤ cs.length) (hp : isAggT P t = false → P.cellsOf t = 1) :
    pr P (part t ⟨cs⟩ off) = some (.ok (valT P t ((cs.drop off).take (P.cellsOf t)))) := by
  unfold part
  rw [pr_bindE, pr_isAgg hu]
  by_cases ha : isAggT P t = true
  · simp only [ha, if_true, pr_bindE, pr_sizeOf hi, pr_pure, valT]
    congr 3
    simp [List.extract_eq_take_drop]
  · have ha' : isAggT P t = false := by simpa using ha
    simp only [ha', Bool.false_eq_true, if_false, valT]
    have h1 := hp ha'
    rw [h1] at hl ⊢
    have hlt : off < cs.length := by omega
    have hg : (⟨cs⟩ : Array Value)[off]? = some cs[off] := by simp [hlt]
    rw [hg]
    simp only [pr_pure]
    rw [take_one _ _ hlt]
    congr 2
    show cs[off] = lget cs off
    clear hg hp hi hu ha ha' hl h1
    induction cs generalizing off with
    | nil => simp at hlt
    | cons a l ih =>
      cases off with
      | zero => rfl
      | succ off => exact ih (by simpa using hlt)
theorem pr_eqStruct (d : Nat) {t : TypeId} {fs : Array Field} (xs ys : Array Value) (ht : P.underlying t = some (.struct fs)) (hp : P.stoodInHeld t = false) :
    pr P (Op.equalIn (d + 1) t (.agg xs) (.agg ys)) = pr P (Op.eqFields d xs ys fs.toList) := by
  simp only [Op.equalIn, pr_bindE, pr_underlying ht, pr_program, hp, Bool.false_eq_true, if_false]
  rw [← Array.forIn_toList]
  generalize fs.toList = fs
  clear ht
  induction fs with
  | nil => simp [Op.eqFields, pr_pure]
  | cons f fs ih =>
    simp only [List.forIn_cons, Op.eqFields]
    by_cases hn : f.name ≠ "_"
    · simp only [if_pos hn, pr_bindE]
      generalize pr P (part f.type xs f.offset) = r1
      cases r1 with
      | none => simp
      | some r1 =>
        cases r1 with
        | error v => simp
        | ok a =>
          simp only
          generalize pr P (part f.type ys f.offset) = r2
          cases r2 with
          | none => simp
          | some r2 =>
            cases r2 with
            | error v => simp
            | ok b =>
              simp only
              generalize pr P (Op.equalIn d f.type a b) = r3
              cases r3 with
              | none => simp
              | some r3 =>
                cases r3 with
                | error v => simp
                | ok r =>
                  cases r
                  · simp [pr_pure, pr_bindE]
                  · simp only [Bool.not_true, Bool.false_eq_true, if_false, pr_pure]
                    exact ih
    · simp only [if_neg hn, pr_bindE, pr_pure]
      exact ih
def eqElems (d : Nat) (e : TypeId) (n : Nat) (xs ys : Array Value) : List Nat → Sem Bool
  | [] => pure true
  | i :: is => do
      let a ← part e xs (i * n)
      let b ← part e ys (i * n)
      let r ← Op.equalIn d e a b
      if (!r) = true then pure false else eqElems d e n xs ys is
theorem pr_eqArray (d : Nat) {t e : TypeId} {n : Nat} (xs ys : Array Value) (ht : P.underlying t = some (.array n e)) (hi : (P.info? e).isSome) :
    pr P (Op.equalIn (d + 1) t (.agg xs) (.agg ys)) = pr P (eqElems d e (P.cellsOf e) xs ys (List.range n)) := by
  simp only [Op.equalIn, pr_bindE, pr_underlying ht, pr_sizeOf hi]
  rw [Std.Legacy.Range.forIn_eq_forIn_range', List.range_eq_range']
  have hsz : (Std.Legacy.Range.size [0:n]) = n := by simp [Std.Legacy.Range.size]
  rw [hsz]
  generalize List.range' 0 n = is
  clear ht hsz
  induction is with
  | nil => simp [eqElems, pr_pure]
  | cons i is ih =>
    simp only [List.forIn_cons, eqElems, pr_bindE]
    generalize pr P (part e xs (i * P.cellsOf e)) = r1
    cases r1 with
    | none => simp
    | some r1 =>
      cases r1 with
      | error v => simp
      | ok a =>
        simp only
        generalize pr P (part e ys (i * P.cellsOf e)) = r2
        cases r2 with
        | none => simp
        | some r2 =>
          cases r2 with
          | error v => simp
          | ok b =>
            simp only
            generalize pr P (Op.equalIn d e a b) = r3
            cases r3 with
            | none => simp
            | some r3 =>
              cases r3 with
              | error v => simp
              | ok r =>
                cases r
                · simp [pr_pure, pr_bindE]
                · simp only [Bool.not_true, Bool.false_eq_true, if_false, pr_pure]
                  exact ih
end
end Go.Vm

/- A small machine over an abstract heap: Go's == on structs and arrays, told; bytes that are zero. -/
set_option linter.unusedSimpArgs false
set_option linter.unusedVariables false
namespace Go.Vm
section
variable {P : Program}
noncomputable def same (a b : List Value) : Bool := @decide (a = b) (Classical.propDecidable _)
theorem same_eq {a b : List Value} : same a b = true ↔ a = b := by unfold same; simp
theorem same_ne {a b : List Value} : same a b = false ↔ a ≠ b := by unfold same; simp
theorem same_self (a : List Value) : same a a = true := same_eq.2 rfl
theorem mapM_cons_some {α β : Type} {f : α → Option β} {a : α} {l : List α} {r : List β} (h : (a :: l).mapM f = some r) : ∃ b r', f a = some b ∧ l.mapM f = some r' ∧ r = b :: r' := by
  rw [List.mapM_cons] at h
  obtain ⟨b, h1, h2⟩ := Option.bind_eq_some_iff.1 h
  obtain ⟨r', h3, h4⟩ := Option.bind_eq_some_iff.1 h2
  exact ⟨b, r', h1, h3, by simpa using h4.symm⟩
def aggD : TypeDesc → Bool
  | .struct _ | .array _ _ => true
  | _ => false
theorem isAggT_eq {t : TypeId} {d : TypeDesc} (hu : P.underlying t = some d) : isAggT P t = aggD d := by
  unfold isAggT; rw [hu]; cases d <;> rfl
theorem flatten_replicate_len (n : Nat) (l : List LK) : (List.replicate n l).flatten.length = n * l.length := by simp
theorem lay_len {m : Nat} (hm : ∀ t tl, leaves P m t = some tl → tl.length = P.cellsOf t) : ∀ (fs : List Field) (off tot : Nat) (tls : List (List LK)), layFrom P fs off = some tot → fs.mapM (fun f => leaves P m f.type) = some tls → off + tls.flatten.length = tot := by
  intro fs
  induction fs with
  | nil => intro off tot tls h1 h2; cases h1; simp at h2; subst h2; simp
  | cons f fs ihf =>
    intro off tot tls h1 h2
    obtain ⟨tl, tls', h3, h4, rfl⟩ := mapM_cons_some h2
    unfold layFrom at h1
    split at h1
    · have := ihf _ _ _ h1 h4
      have h5 := hm _ _ h3
      simp only [List.flatten_cons, List.length_append]
      omega
    · cases h1
theorem leaves_ok : ∀ (m : Nat) (t : TypeId) (tl : List LK), leaves P m t = some tl → tl.length = P.cellsOf t ∧ (isAggT P t = false → P.cellsOf t = 1) ∧ (P.info? t).isSome ∧ ∃ d, P.underlying t = some d := by
  intro m
  induction m with
  | zero => intro t tl h; cases h
  | succ m ih =>
    intro t tl h
    unfold leaves at h
    unfold isAggT
    cases hu : P.underlying t with
    | none => rw [hu] at h; cases h
    | some d =>
      rw [hu] at h
      cases d with
      | bool =>
        simp only at h
        split at h
        · rename_i hc; cases h; exact ⟨by simp [hc.1], fun _ => hc.1, hc.2, _, rfl⟩
        · cases h
      | int k =>
        simp only at h
        split at h
        · rename_i hc; cases h; exact ⟨by simp [hc.1], fun _ => hc.1, hc.2, _, rfl⟩
        · cases h
      | string =>
        simp only at h
        split at h
        · rename_i hc; cases h; exact ⟨by simp [hc.1], fun _ => hc.1, hc.2, _, rfl⟩
        · cases h
      | struct fs =>
        simp only at h
        split at h
        · rename_i hc
          obtain ⟨tls, h1, rfl⟩ := Option.map_eq_some_iff.1 h
          refine ⟨?_, fun hx => (by cases hx), hc.2.1, _, rfl⟩
          have := lay_len (fun t tl h => (ih t tl h).1) _ _ _ _ hc.2.2.2 h1
          omega
        · cases h
      | array n e =>
        simp only at h
        split at h
        · rename_i hc
          obtain ⟨l, h1, rfl⟩ := Option.map_eq_some_iff.1 h
          refine ⟨?_, fun hx => (by cases hx), hc.2, _, rfl⟩
          rw [flatten_replicate_len, (ih _ _ h1).1, hc.1]
        · cases h
      | _ => cases h
theorem KLp.head {tl rest : List LK} {cs : List Value} {n : Nat} (h : KLp (tl ++ rest) cs) (hn : tl.length = n) : KLp tl (cs.take n) ∧ KLp rest (cs.drop n) := by
  constructor
  · have := h.take n
    rw [← hn, List.take_left'] at this
    · rw [← hn]; exact this
    · rfl
  · have := h.drop n
    rw [← hn, List.drop_left'] at this
    · rw [← hn]; exact this
    · rfl
theorem split_eq {a b : List Value} (n : Nat) : a = b ↔ a.take n = b.take n ∧ a.drop n = b.drop n :=
  ⟨fun h => by subst h; exact ⟨rfl, rfl⟩, fun ⟨h1, h2⟩ => by rw [← List.take_append_drop n a, ← List.take_append_drop n b, h1, h2]⟩
theorem eq_leaves : ∀ (m : Nat) (t : TypeId) (tl : List LK), leaves P m t = some tl → ∀ (k : Nat) (cs cs' : List Value), KLp tl cs → KLp tl cs' → pr P (Op.equalIn (m + k) t (valT P t cs) (valT P t cs')) = some (.ok (same cs cs')) := by
  intro m
  induction m with
  | zero => intro t tl h; cases h
  | succ m ih =>
    intro t tl h k cs cs' hk hk'
    have hok := leaves_ok (m + 1) t tl h
    rw [show m + 1 + k = (m + k) + 1 from by omega]
    unfold leaves at h
    have val : ∀ cs, valT P t cs = if isAggT P t then .agg ⟨cs⟩ else lget cs 0 := fun _ => rfl
    rw [val, val]
    cases hu : P.underlying t with
    | none => rw [hu] at h; cases h
    | some d =>
      rw [isAggT_eq hu]
      rw [hu] at h
      cases d with
      | bool =>
        simp only at h
        split at h
        · cases h
          match cs, cs', hk, hk' with
          | [.bool a], [.bool b], _, _ =>
            simp only [aggD, lget, Op.equalIn, pr_bindE, pr_underlying hu, pr_pure, Bool.false_eq_true, if_false]
            congr 2
            by_cases e : a = b
            · subst e; rw [same_self]; simp
            · rw [same_ne.2 (by simpa using e)]; simpa using e
        · cases h
      | int q =>
        simp only at h
        split at h
        · cases h
          match cs, cs', hk, hk' with
          | [.int q1 a], [.int q2 b], h1, h2 =>
            obtain ⟨rfl, _⟩ := h1
            obtain ⟨h2, _⟩ := h2
            have h2 : q2 = q1 := h2
            subst h2
            simp only [aggD, lget, Op.equalIn, pr_bindE, pr_underlying hu, pr_pure, if_true, Bool.false_eq_true, if_false]
            congr 2
            by_cases e : a = b
            · subst e; rw [same_self]; simp
            · rw [same_ne.2 (by simpa using e)]; simpa using e
        · cases h
      | string =>
        simp only at h
        split at h
        · cases h
          match cs, cs', hk, hk' with
          | [.string a], [.string b], _, _ =>
            simp only [aggD, lget, Op.equalIn, pr_bindE, pr_underlying hu, pr_pure, Bool.false_eq_true, if_false]
            congr 2
            rw [beq_toListBytes, ByteArray.toList_eq, ByteArray.toList_eq]
            by_cases e : a = b
            · subst e; rw [same_self]; simp
            · rw [same_ne.2 (by simpa using e)]
              obtain ⟨⟨x⟩⟩ := a
              obtain ⟨⟨y⟩⟩ := b
              simpa using e
        · cases h
      | struct fs =>
        simp only at h
        split at h
        · rename_i hc
          obtain ⟨tls, h1, rfl⟩ := Option.map_eq_some_iff.1 h
          simp only [aggD, if_true]
          rw [pr_eqStruct _ _ _ hu hc.1]
          have key : ∀ (fs : List Field) (off tot : Nat) (tls : List (List LK)), layFrom P fs off = some tot → fs.mapM (fun f => leaves P m f.type) = some tls → fs.all (fun f => f.name != "_") = true → cs.length = tot → cs'.length = tot →
              KLp tls.flatten (cs.drop off) → KLp tls.flatten (cs'.drop off) → pr P (Op.eqFields (m + k) ⟨cs⟩ ⟨cs'⟩ fs) = some (.ok (same (cs.drop off) (cs'.drop off))) := by
            intro fs
            induction fs with
            | nil =>
              intro off tot tls h1 h2 _ hl hl' _ _
              cases h1
              rw [List.drop_eq_nil_of_le (by omega), List.drop_eq_nil_of_le (by omega), same_self]
              rfl
            | cons f fs ihf =>
              intro off tot tls h1 h2 hn hl hl' hK hK'
              obtain ⟨tl, tls', h3, h4, rfl⟩ := mapM_cons_some h2
              simp only [List.all_cons, Bool.and_eq_true, bne_iff_ne, ne_eq] at hn
              obtain ⟨hlen, hone, hinfo, d, hd⟩ := leaves_ok _ _ _ h3
              unfold layFrom at h1
              split at h1
              · rename_i hoff
                rw [List.flatten_cons] at hK hK'
                have a1 := hK.head hlen
                have a2 := hK'.head hlen
                have htot := lay_len (fun t tl h => (leaves_ok m t tl h).1) _ _ _ _ h1 h4
                have hfit : off + P.cellsOf f.type ≤ cs.length := by omega
                have hfit' : off + P.cellsOf f.type ≤ cs'.length := by omega
                simp only [Op.eqFields]
                rw [if_pos hn.1, pr_bindE, hoff, pr_part hd hinfo hfit hone]
                simp only [pr_bindE, pr_part hd hinfo hfit' hone, ih _ _ h3 k _ _ a1.1 a2.1]
                by_cases e : (cs.drop off).take (P.cellsOf f.type) = (cs'.drop off).take (P.cellsOf f.type)
                · rw [same_eq.2 e]
                  simp only [Bool.not_true, Bool.false_eq_true, if_false]
                  rw [ihf _ _ _ h1 h4 hn.2 hl hl' (by rw [← List.drop_drop]; exact a1.2) (by rw [← List.drop_drop]; exact a2.2)]
                  congr 2
                  rw [← List.drop_drop, ← List.drop_drop]
                  by_cases e2 : (cs.drop off).drop (P.cellsOf f.type) = (cs'.drop off).drop (P.cellsOf f.type)
                  · rw [same_eq.2 e2, same_eq.2 ((split_eq (P.cellsOf f.type)).2 ⟨e, e2⟩)]
                  · rw [same_ne.2 e2, same_ne.2 fun h => e2 ((split_eq (P.cellsOf f.type)).1 h).2]
                · rw [same_ne.2 e]
                  simp only [Bool.not_false, if_true, pr_pure]
                  rw [same_ne.2 fun h => e ((split_eq (P.cellsOf f.type)).1 h).1]
              · cases h1
          have hl := hk.length
          have hl' := hk'.length
          rw [hok.1] at hl hl'
          have := key _ _ _ _ hc.2.2.2 h1 hc.2.2.1 hl hl' hk hk'
          simpa using this
        · cases h
      | array n e =>
        simp only at h
        split at h
        · rename_i hc
          obtain ⟨l, h1, rfl⟩ := Option.map_eq_some_iff.1 h
          obtain ⟨hlen, hone, hinfo, d, hd⟩ := leaves_ok _ _ _ h1
          simp only [aggD, if_true]
          rw [pr_eqArray _ _ _ hu hinfo]
          have hl := hk.length
          have hl' := hk'.length
          rw [hok.1, hc.1] at hl hl'
          have key : ∀ (j s : Nat), s + j = n → KLp (List.replicate j l).flatten (cs.drop (s * P.cellsOf e)) → KLp (List.replicate j l).flatten (cs'.drop (s * P.cellsOf e)) →
              pr P (eqElems (m + k) e (P.cellsOf e) ⟨cs⟩ ⟨cs'⟩ (List.range' s j)) = some (.ok (same (cs.drop (s * P.cellsOf e)) (cs'.drop (s * P.cellsOf e)))) := by
            intro j
            induction j with
            | zero =>
              intro s hs _ _
              have : s * P.cellsOf e = n * P.cellsOf e := by rw [show s = n from by omega]
              rw [List.drop_eq_nil_of_le (by omega), List.drop_eq_nil_of_le (by omega), same_self]
              rfl
            | succ j ihj =>
              intro s hs hK hK'
              rw [List.replicate_succ, List.flatten_cons] at hK hK'
              have a1 := hK.head hlen
              have a2 := hK'.head hlen
              have hfit : s * P.cellsOf e + P.cellsOf e ≤ n * P.cellsOf e := by rw [← Nat.succ_mul]; exact Nat.mul_le_mul_right _ (by omega)
              rw [List.range'_succ]
              simp only [eqElems, pr_bindE, pr_part hd hinfo (show s * P.cellsOf e + P.cellsOf e ≤ cs.length by omega) hone, pr_part hd hinfo (show s * P.cellsOf e + P.cellsOf e ≤ cs'.length by omega) hone, ih _ _ h1 k _ _ a1.1 a2.1]
              by_cases e1 : (cs.drop (s * P.cellsOf e)).take (P.cellsOf e) = (cs'.drop (s * P.cellsOf e)).take (P.cellsOf e)
              · rw [same_eq.2 e1]
                simp only [Bool.not_true, Bool.false_eq_true, if_false]
                have hd : ∀ c : List Value, c.drop ((s + 1) * P.cellsOf e) = (c.drop (s * P.cellsOf e)).drop (P.cellsOf e) := fun c => by rw [List.drop_drop, Nat.succ_mul]
                rw [ihj (s + 1) (by omega) (by rw [hd]; exact a1.2) (by rw [hd]; exact a2.2), hd, hd]
                congr 2
                by_cases e2 : (cs.drop (s * P.cellsOf e)).drop (P.cellsOf e) = (cs'.drop (s * P.cellsOf e)).drop (P.cellsOf e)
                · rw [same_eq.2 e2, same_eq.2 ((split_eq (P.cellsOf e)).2 ⟨e1, e2⟩)]
                · rw [same_ne.2 e2, same_ne.2 fun h => e2 ((split_eq (P.cellsOf e)).1 h).2]
              · rw [same_ne.2 e1]
                simp only [Bool.not_false, if_true, pr_pure]
                rw [same_ne.2 fun h => e1 ((split_eq (P.cellsOf e)).1 h).1]
          have := key n 0 (by omega) (by simpa using hk) (by simpa using hk')
          rw [← List.range_eq_range'] at this
          simpa using this
        · cases h
      | _ => cases h
class TLeaves (P : Program) (t : TypeId) (tl : outParam (List LK)) : Prop where
  eq : leaves P 8 t = some tl
  agg : isAggT P t = true
  guard : P.eqGuardType P.depth t = false
class KL (tl : List LK) (l : List Value) : Prop where
  ok : KLp tl l
def u8s (n : Nat) : List LK := List.replicate n (.i .u8)
class BLen (l : List Value) (n : Nat) : Prop where
  ok : KLp (u8s n) l
theorem klp_bcells : ∀ (l : List UInt8), KLp (u8s l.length) (bcells l)
  | [] => trivial
  | _ :: l => ⟨rfl, klp_bcells l⟩
instance (priority := low) BLen.b32 {l : List UInt8} [k : L32 (bcells l)] : BLen (bcells l) 32 := ⟨by have := k.eq; simp [bcells] at this; rw [← this]; exact klp_bcells l⟩
instance (priority := low) BLen.b4 {l : List UInt8} [k : L4 (bcells l)] : BLen (bcells l) 4 := ⟨by have := k.eq; simp [bcells] at this; rw [← this]; exact klp_bcells l⟩
instance : KL [] [] := ⟨trivial⟩
section
variable {tl : List LK} {l p : List Value} {k : IntKind} {n : Int} {s : ByteArray} {b : Bool}
instance [h : KL tl l] : KL (.i k :: tl) (.int k n :: l) := ⟨rfl, h.ok⟩
instance [h : KL tl l] : KL (.s :: tl) (.string s :: l) := ⟨trivial, h.ok⟩
instance [h : KL tl l] : KL (.b :: tl) (.bool b :: l) := ⟨trivial, h.ok⟩
instance (priority := high) {n : Nat} [h : BLen p n] [j : KL tl l] : KL (u8s n ++ tl) (p ++ l) := ⟨h.ok.append j.ok⟩
instance (priority := high) {n : Nat} [h : BLen p n] : KL (u8s n) p := ⟨h.ok⟩
instance {a b c d : Int} [h : KL tl l] : KL (u8s 4 ++ tl) (.int .u8 a :: .int .u8 b :: .int .u8 c :: .int .u8 d :: l) := ⟨rfl, rfl, rfl, rfl, h.ok⟩
instance {a b c d : Int} : KL (u8s 4) [.int .u8 a, .int .u8 b, .int .u8 c, .int .u8 d] := ⟨rfl, rfl, rfl, rfl, trivial⟩
end
class IsBoolT (P : Program) (t : TypeId) : Prop where
  eq : P.underlying t = some .bool
section
variable {ts : List Value} {h : Heap} {x y : Operand} {l l' : List Value} {t t' ty : TypeId} {tl : List LK} {A B : Bool}
theorem pr_eqGuard_agg {op : BinOp} {x y : Operand} {a b : Array Value} (hg : P.eqGuardType P.depth t = false) : pr P (eqGuard op t x y (.agg a) (.agg b)) = some (.ok ()) := by
  have key : pr P (program >>= fun p => program >>= fun q => if (!p.eqGuardType q.depth t) = true then (pure () : Sem Unit) else do
      if ← Op.eqGuardIn Op.maxDepth t (.agg a) (.agg b) then unsupported (.noEntry "binop/eql: two nil values of an interface type with methods, in a part of a struct or an array")) = some (.ok ()) := by
    simp only [pr_bindE, pr_program, hg]
    rfl
  cases op <;> first | rfl | exact key
theorem pr_eql_agg [i : TLeaves P t tl] [k : KL tl l] [k' : KL tl l'] : pr P (Op.equal t (.agg ⟨l⟩) (.agg ⟨l'⟩)) = some (.ok (same l l')) := by
  have := eq_leaves 8 t tl i.eq 9992 l l' k.ok k'.ok
  have hv : ∀ cs, valT P t cs = .agg ⟨cs⟩ := fun cs => by unfold valT; rw [i.agg]; rfl
  rw [hv, hv] at this
  exact this
instance XOp.eqlAgg [i : TLeaves P t tl] [e : Ev ts x (.agg ⟨l⟩)] [e' : Ev ts y (.agg ⟨l'⟩)] [g : GrL l] [g' : GrL l'] [k : KL tl l] [k' : KL tl l'] : XOp P ts h (.bin .eql (so (.binOp .eql t x y t') ty) x y) (.bool (same l l')) h :=
  ⟨rfl, (bin_raw (by intro k a b hu; cases hu) e.eq e'.eq).trans (raw_bin e.eq e'.eq g.eq g'.eq (by
    rw [pr_bindE, pr_eqGuard_agg i.guard]
    show pr P (Op.equal t _ _ >>= fun b => (pure (Value.bool b) : Sem Value)) = _
    rw [pr_bindE, pr_eql_agg (tl := tl)]; rfl) rfl)⟩
instance XOp.neqAgg [i : TLeaves P t tl] [e : Ev ts x (.agg ⟨l⟩)] [e' : Ev ts y (.agg ⟨l'⟩)] [g : GrL l] [g' : GrL l'] [k : KL tl l] [k' : KL tl l'] : XOp P ts h (.bin .neq (so (.binOp .neq t x y t') ty) x y) (.bool (!same l l')) h :=
  ⟨rfl, (bin_raw (by intro k a b hu; cases hu) e.eq e'.eq).trans (raw_bin e.eq e'.eq g.eq g'.eq (by
    rw [pr_bindE, pr_eqGuard_agg i.guard]
    show pr P (Op.equal t _ _ >>= fun b => (pure (Value.bool (!b)) : Sem Value)) = _
    rw [pr_bindE, pr_eql_agg (tl := tl)]; rfl) rfl)⟩
theorem pr_eqGuard_bool {op : BinOp} {x y : Operand} : pr P (eqGuard op t x y (.bool A) (.bool B)) = some (.ok ()) := by
  cases op <;> rfl
theorem pr_eql_bool [i : IsBoolT P t] : pr P (Op.equal t (.bool A) (.bool B)) = some (.ok (A == B)) := by
  unfold Op.equal
  show pr P (Op.equalIn (9999 + 1) t _ _) = _
  rw [Op.equalIn, pr_bindE, pr_underlying i.eq]
  rfl
instance XOp.eqlB [i : IsBoolT P t] [e : Ev ts x (.bool A)] [e' : Ev ts y (.bool B)] : XOp P ts h (.bin .eql (so (.binOp .eql t x y t') ty) x y) (.bool (A == B)) h :=
  ⟨rfl, (bin_raw (by intro k a b hu; cases hu) e.eq e'.eq).trans (raw_bin e.eq e'.eq rfl rfl (by
    rw [pr_bindE, pr_eqGuard_bool]
    show pr P (Op.equal t _ _ >>= fun b => (pure (Value.bool b) : Sem Value)) = _
    rw [pr_bindE, pr_eql_bool]; rfl) rfl)⟩
instance XOp.neqB [i : IsBoolT P t] [e : Ev ts x (.bool A)] [e' : Ev ts y (.bool B)] : XOp P ts h (.bin .neq (so (.binOp .neq t x y t') ty) x y) (.bool (!(A == B))) h :=
  ⟨rfl, (bin_raw (by intro k a b hu; cases hu) e.eq e'.eq).trans (raw_bin e.eq e'.eq rfl rfl (by
    rw [pr_bindE, pr_eqGuard_bool]
    show pr P (Op.equal t _ _ >>= fun b => (pure (Value.bool (!b)) : Sem Value)) = _
    rw [pr_bindE, pr_eql_bool]; rfl) rfl)⟩
end
end
def zb32 : List UInt8 := List.replicate 32 0
abbrev z32 : List Value := bcells zb32
instance : L32 z32 := ⟨rfl⟩
end Go.Vm
