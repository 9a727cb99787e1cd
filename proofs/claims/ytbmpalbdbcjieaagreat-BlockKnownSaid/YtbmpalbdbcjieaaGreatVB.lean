/- A small machine over an abstract heap: its operations answer as the model's do (2). -/
import Derived.Test.YtbmpalbdbcjieaaGreatVA
import Derived.Laws.Tables
import Derived.Laws.IdiomStrings
import Derived.Deep.AppendSrc
import Derived.IntWalk
namespace Go.Vm
open Go.RowKit
section
variable {P : Program} {o : Oper} {op : AOp}
theorem execOp_slim (e : Operand → Value) (o : Oper) : execOp e (slim o) = execOp e o := rfl
theorem ok_raw (hs : ∀ cs b, o.op ≠ .select cs b) : OpOK P o (.raw (slim o)) := by
  intro g h B w0 w e e' hr he
  rw [← execOp_slim e' o]
  exact raw_sound hr he (slim o) hs
theorem ok_bin {bo : BinOp} {t yt : TypeId} {x y : Operand} (ho : o.op = .binOp bo t x y yt) : OpOK P o (.bin bo (slim o) x y) := by
  intro g h B w0 w e e' hr he
  have hraw : ResOK g B w0 (rawOp P e (slim o) h) ((execOp e' o).run P w) := by
    rw [← execOp_slim e' o]
    exact raw_sound hr he (slim o) (fun cs b => by simp [slim, ho])
  simp only [xop, binOpV]
  split
  · rename_i k a k' b hx hy
    have h1 := he x; rw [hx] at h1; have h1 := h1.int
    have h2 := he y; rw [hy] at h2; have h2 := h2.int
    split
    · rename_i hk
      subst hk
      split
      · rename_i v hv
        have hg : ground v = true := by cases bo <;> simp [binInt] at hv <;> subst hv <;> rfl
        refine ResOK.same hr (.gr hg) ?_
        simp only [execOp, ho, h1, h2]
        cases bo <;> simp [binInt] at hv <;> subst hv <;> simp [eqGuard, binOp, Op.intArith, Op.intCmp]
      · exact hraw
    · exact hraw
  · exact hraw
theorem ok_conv {src dst : TypeId} {x : Operand} {d : TypeDesc} {k : IntKind} (ho : o.op = .convert src dst x) (hs : P.underlying src = some d) (hd : P.underlying dst = some (.int k)) :
    OpOK P o (.conv k (slim o) x) := by
  intro g h B w0 w e e' hr he
  simp only [xop]
  split
  · rename_i kk n hx
    have h1 := he x; rw [hx] at h1; have h1 := h1.int
    refine ResOK.same hr (.gr rfl) ?_
    simp only [execOp, ho, h1, convert, Sem.run_bind, run_under hs, run_under hd, Result.andThen_ok]
    cases d <;> simp [Conv.intToInt]
  · rw [← execOp_slim e' o]
    exact raw_sound hr he (slim o) (fun cs b => by simp [slim, ho])
theorem lget_get : ∀ {l : List Value} {i : Nat}, i < l.length → l[i]? = some (lget l i)
  | [], i, h => by simp at h
  | v :: l, 0, _ => by simp [lget]
  | v :: l, i + 1, h => by simp [lget]; exact lget_get (by simpa using h)
theorem ok_extract {i : Nat} {x : Operand} (ho : o.op = .extract x i) : OpOK P o (.extract i x) := by
  intro g h B w0 w e e' hr he
  simp only [xop]
  split
  · rename_i c hx
    have h1 := he x; rw [hx] at h1
    obtain ⟨c', h1, hc⟩ := h1.tuple_inv
    split
    · rename_i hi
      obtain ⟨v', h2, hv⟩ := hc.get (lget_get hi)
      exact ResOK.same hr hv (by simp [execOp, ho, h1, Instr.extract, h2])
    · trivial
  · trivial
theorem ok_arrayAt {t : TypeId} {n : Nat} {el : TypeId} {x : Operand} (ho : o.op = .sliceToArrayPointer t x) (ht : P.underlying t = some (.array n el)) : OpOK P o (.arrayAt n x) := by
  intro g h B w0 w e e' hr he
  simp only [xop]
  split
  · rename_i a len cap hx
    have h1 := he x; rw [hx] at h1
    obtain ⟨a', c', h1, har, _⟩ := h1.slice
    split
    · rename_i hn
      refine ResOK.same (v' := .pointer (some a')) hr (.ptr ⟨har.1, har.2⟩) ?_
      have : ¬ len < n := by omega
      simp only [execOp, ho, h1, Instr.arrayAt, Sem.run_bind, run_under ht, Result.andThen_ok, this, if_false, Sem.run_pure]
    · trivial
  · trivial
theorem ok_mkIface {t : TypeId} {x : Operand} {d : TypeDesc} (ho : o.op = .makeInterface t x) (ht : P.underlying t = some d) (hd : ∀ ms, d ≠ .interface ms) : OpOK P o (.mkIface t x) := by
  intro g h B w0 w e e' hr he
  refine ResOK.same hr (.iface (he x)) ?_
  simp only [execOp, ho, Instr.makeInterface, Sem.run_bind, run_under ht, Result.andThen_ok]
  cases d with
  | interface ms => exact absurd rfl (hd ms)
  | _ => simp
theorem map_list {α β : Type} (f : α → β) (a : Array α) : a.map f = ⟨a.toList.map f⟩ := by
  apply Array.ext'; simp
theorem ok_mkFunc {f : FuncId} {first captured : Array Operand} (ho : o.op = .makeFunc (.func f) first captured) : OpOK P o (.mkFunc (.func f) first.toList captured.toList) := by
  intro g h B w0 w e e' hr he
  refine ResOK.same hr (.func (VRL.map fun x _ => he x) (VRL.map fun x _ => he x)) ?_
  simp [execOp, ho, Instr.makeFunc, map_list]
theorem ok_assert {t xt : TypeId} {x : Operand} {ok : Bool} {z : Value} {d : TypeDesc} (ho : o.op = .typeAssert x xt t ok) (ht : P.underlying t = some d) (hd : ∀ ms, d ≠ .interface ms)
    (hz : zeroT P t = some z) : OpOK P o (.assertTo t z ok x) := by
  intro g h B w0 w e e' hr he
  have hzg := (zeroT_some hz).1
  simp only [xop]
  split
  · rename_i u v hx
    have h1 := he x; rw [hx] at h1
    obtain ⟨v', h1, hv⟩ := h1.iface_inv
    split
    · rename_i hu
      subst hu
      cases ok
      · refine ResOK.same (v' := v') hr (by simpa using hv) ?_
        simp only [execOp, ho, h1, Instr.typeAssert, Sem.run_bind, run_under ht, Result.andThen_ok]
        cases d with
        | interface ms => exact absurd rfl (hd ms)
        | _ => simp
      · refine ResOK.same (v' := .tuple #[v', .bool true]) hr (by simpa using VR.tuple (.cons hv (.cons (.gr rfl) .nil))) ?_
        simp only [execOp, ho, h1, Instr.typeAssert, Sem.run_bind, run_under ht, Result.andThen_ok]
        cases d with
        | interface ms => exact absurd rfl (hd ms)
        | _ => simp
    · rename_i hu
      split
      · rename_i hok
        subst hok
        refine ResOK.same (v' := .tuple #[z, .bool false]) hr (.gr (by simp [ground, groundA, groundL, hzg])) ?_
        simp only [execOp, ho, h1, Instr.typeAssert, Sem.run_bind, run_under ht, Result.andThen_ok]
        cases d with
        | interface ms => exact absurd rfl (hd ms)
        | _ => simp [hu, run_zero hz]
      · trivial
  · rename_i hx
    have h1 := he x; rw [hx] at h1
    have h1 := h1.eq_ground rfl
    split
    · rename_i hok
      subst hok
      refine ResOK.same (v' := .tuple #[z, .bool false]) hr (.gr (by simp [ground, groundA, groundL, hzg])) ?_
      simp only [execOp, ho, h1, Instr.typeAssert, Sem.run_bind, run_under ht, Result.andThen_ok]
      cases d with
      | interface ms => exact absurd rfl (hd ms)
      | _ => simp [run_zero hz]
    · trivial
  · trivial
theorem add_AR {g : Gh} {a a' : Addr} (ha : AR g a a') (n : Nat) : AR g ⟨a.block, a.off + n, none⟩ (a'.add n) := by
  refine ⟨ha.1, fun x hx => ?_⟩
  rw [ha.2 x hx]
  unfold Addr.add
  split
  · rename_i hn; simp [hn]
  · simp [Nat.add_assoc]
theorem ok_fieldAddr {s : TypeId} {x : Operand} {f : Nat} {fs : Array Field} {fd : Field} {n : Nat} (ho : o.op = .fieldAddr s x f) (hs : P.underlying s = some (.struct fs)) (hf : fs[f]? = some fd)
    (hn : sizeT P fd.type = some n) (h0 : n ≠ 0) : OpOK P o (.fieldAddr fd.offset x) := by
  intro g h B w0 w e e' hr he
  simp only [xop]
  split
  · rename_i a hx
    have h1 := he x; rw [hx] at h1
    obtain ⟨a', h1, har⟩ := h1.pointer
    refine ResOK.same (v' := .pointer (some (a'.add fd.offset))) hr (.ptr ?_) ?_
    · by_cases h2 : fd.offset = 0
      · have := add_AR har fd.offset
        rw [if_pos h2]
        refine ⟨har.1, fun y hy => ?_⟩
        rw [this.2 y hy]; simp [h2]
      · rw [if_neg h2]; exact add_AR har _
    · simp [execOp, ho, h1, Instr.fieldAt, run_under hs, hf, Instr.sureAddr, fieldPlace, run_size hn, h0]
  · trivial
theorem idx_some {len j : Nat} {v : Value} (h : idx len v = some j) : ∃ k i, v = .int k i ∧ 0 ≤ i ∧ i < len ∧ i.toNat = j := by
  unfold idx at h
  split at h
  · rename_i k i
    split at h
    · rename_i hi; cases h; exact ⟨k, i, rfl, hi.1, hi.2, rfl⟩
    · cases h
  · cases h
theorem ok_indexArr {t : TypeId} {x i : Operand} {n s : Nat} {el : TypeId} (ho : o.op = .indexAddr t x i) (ht : P.underlying t = some (.array n el)) (hs : sizeT P el = some s) : OpOK P o (.indexArr n s x i) := by
  intro g h B w0 w e e' hr he
  simp only [xop]
  split
  · rename_i a j hx hj
    obtain ⟨k, q, hq, h0, hlt, hj⟩ := idx_some hj
    have h1 := he x; rw [hx] at h1
    obtain ⟨a', h1, har⟩ := h1.pointer
    have h2 := he i; rw [hq] at h2; have h2 := h2.int
    refine ResOK.same (v' := .pointer (some (a'.add (q.toNat * s)))) hr (.ptr (by rw [← hj]; exact add_AR har _)) ?_
    simp [execOp, ho, h1, h2, Instr.indexAt, asIntOf, run_under ht, Instr.sureAddr, h0, hlt, run_size hs]
  · trivial
theorem ok_indexSl {t : TypeId} {x i : Operand} {s : Nat} {el : TypeId} (ho : o.op = .indexAddr t x i) (ht : P.underlying t = some (.slice el)) (hs : sizeT P el = some s) : OpOK P o (.indexSl s x i) := by
  intro g h B w0 w e e' hr he
  simp only [xop]
  split
  · rename_i a len cap hx
    split
    · rename_i j hj
      obtain ⟨k, q, hq, h0, hlt, hj⟩ := idx_some hj
      have h1 := he x; rw [hx] at h1
      obtain ⟨a', c', h1, har, _⟩ := h1.slice
      have h2 := he i; rw [hq] at h2; have h2 := h2.int
      refine ResOK.same (v' := .pointer (some (a'.add (q.toNat * s)))) hr (.ptr (by rw [← hj]; exact add_AR har _)) ?_
      simp [execOp, ho, h1, h2, Instr.indexAt, asIntOf, run_under ht, h0, hlt, run_size hs]
    · trivial
  · trivial
end
end Go.Vm

/- A small machine over an abstract heap: its operations answer as the model's do (3): slices. -/
namespace Go.Vm
open Go.RowKit
section
variable {P : Program} {o : Oper} {op : AOp}
theorem bnd_some {e : Operand → Value} {lim d r : Nat} {x : Operand} (h : bnd e lim d (some x) = some r) : ∃ k i, e x = .int k i ∧ 0 ≤ i ∧ i ≤ lim ∧ i.toNat = r := by
  obtain ⟨k, i, h1, h2, h3, h4⟩ := idx_some h
  exact ⟨k, i, h1, h2, by omega, h4⟩
theorem bound_run {e e' : Operand → Value} {g : Gh} (he : ∀ x, VR g (e x) (e' x)) {lim lim' d r : Nat} {x : Operand} (h : bnd e lim d (some x) = some r) (hl : lim ≤ lim') (code : BoundsCode) (w : World) :
    (Instr.sliceBound (e' x) lim' code).run P w = .ok r w := by
  obtain ⟨k, i, h1, h2, h3, h4⟩ := bnd_some h
  have := he x; rw [h1] at this; have := this.int
  have h5 : i ≤ (lim' : Int) := by omega
  simp [Instr.sliceBound, this, asIntOf, h2, h5, h4]
theorem bnd_le {e : Operand → Value} {lim d r : Nat} {x : Option Operand} (h : bnd e lim d x = some r) (hd : d ≤ lim) : r ≤ lim := by
  cases x with
  | none => simp [bnd] at h; omega
  | some x => obtain ⟨k, i, _, _, h3, h4⟩ := bnd_some h; omega
theorem bounds_run {e e' : Operand → Value} {g : Gh} (he : ∀ x, VR g (e x) (e' x)) (isSlice : Bool) {len cap cap' m r l : Nat} {lo hi mx : Option Operand}
    (hc : cap ≤ cap') (hmh : mx.isSome = true → hi.isSome = true) (h1 : bnd e cap cap mx = some m) (h2 : bnd e m len hi = some r) (h3 : bnd e r 0 lo = some l) (w : World) :
    (Instr.sliceBounds isSlice len cap' (lo.map e') (hi.map e') (mx.map e')).run P w = .ok (l, r, if mx.isSome then m else cap') w := by
  unfold Instr.sliceBounds
  cases mx with
  | none =>
    simp [bnd] at h1; subst h1
    cases hi with
    | none =>
      simp [bnd] at h2; subst h2
      cases lo with
      | none => simp [bnd] at h3; subst h3; simp
      | some y => simp [bound_run (P := P) he h3 (Nat.le_refl _)]
    | some x =>
      cases lo with
      | none => simp [bnd] at h3; subst h3; simp [bound_run (P := P) he h2 hc]
      | some y => simp [bound_run (P := P) he h2 hc, bound_run (P := P) he h3 (Nat.le_refl _)]
  | some z =>
    cases hi with
    | none => simp at hmh
    | some x =>
      cases lo with
      | none => simp [bnd] at h3; subst h3; simp [bound_run (P := P) he h1 hc, bound_run (P := P) he h2 (Nat.le_refl _)]
      | some y => simp [bound_run (P := P) he h1 hc, bound_run (P := P) he h2 (Nat.le_refl _), bound_run (P := P) he h3 (Nat.le_refl _)]
theorem slice_value {g : Gh} {h : Heap} {B : Nat} {w0 w : World} (hr : HR g h B w0 w) {e : Operand → Value} {size : Nat} {base base' : Option Addr} {len cap cap' : Nat} {lo hi mx : Option Operand} {v : Value} {h' : Heap}
    (hv : sliceOf e size (.slice base len cap) lo hi mx h = .ok v h') (hb : VR g (.slice base len cap) (.slice base' len cap')) :
    ∃ m r l, bnd e cap cap mx = some m ∧ bnd e m len hi = some r ∧ bnd e r 0 lo = some l ∧ h' = h ∧
      VR g v (.slice (if (if mx.isSome then m else cap') = l then base' else base'.map (·.add (l * size))) (r - l) ((if mx.isSome then m else cap') - l)) := by
  unfold sliceOf at hv
  dsimp only at hv
  split at hv
  · cases hv
  · rename_i m hm
    split at hv
    · cases hv
    · rename_i r hrr
      split at hv
      · cases hv
      · rename_i l hl
        split at hv
        · cases hv
        rename_i hmr
        have hlr : l ≤ r := bnd_le hl (by omega)
        refine ⟨m, r, l, hm, hrr, hl, ?_⟩
        cases base with
        | none =>
          have := hb.eq_ground rfl
          cases this
          cases hv
          refine ⟨rfl, ?_⟩
          cases mx with
          | none => simp [bnd] at hm; subst hm; simpa using VR.gr rfl
          | some z => simpa using VR.gr rfl
        | some a =>
          obtain ⟨a', c', he, har, hle, hn1, hn2⟩ := hb.slice
          cases he
          have hmap : ∀ n, VR g (.slice (some ⟨a.block, a.off + l * size, none⟩) (r - l) n) (.slice (some (a'.add (l * size))) (r - l) n) := fun n => .sl rfl (add_AR har _)
          cases hs : a.spot with
          | none =>
            simp only [hs] at hv
            cases hv
            refine ⟨rfl, ?_⟩
            have hcc := hn1 hs
            have hmm : (if mx.isSome then m else cap') = m := by
              cases mx with
              | none => simp [bnd] at hm; simp [hm, hcc]
              | some z => simp
            rw [hmm]
            by_cases he : m = l
            · rw [if_pos he, if_pos he]; exact .sl hs har
            · rw [if_neg he, if_neg he]; exact hmap _
          | some k =>
          cases mx with
          | some z =>
            simp only [hs] at hv
            cases hv
            refine ⟨rfl, ?_⟩
            simp only [Option.isSome_some, if_true]
            by_cases he : m = l
            · rw [if_pos he, if_pos he]; exact .sl rfl ⟨har.1, har.2⟩
            · rw [if_neg he, if_neg he]; exact hmap _
          | none =>
            simp only [hs] at hv
            simp [bnd] at hm
            subst hm
            have hlim := hn2 (by rw [hs]; simp)
            simp only [Option.isSome_none, Bool.false_eq_true, if_false]
            split at hv
            · rename_i h0
              cases hv
              subst h0
              refine ⟨rfl, ?_⟩
              have hadd : (if cap' = 0 then some a' else (some a').map (·.add (0 * size))) = some a' := by
                split <;> simp [Addr.add]
              rw [hadd]
              simp only [Nat.sub_zero]
              exact .osl hs har hle hlim
            · rename_i h0
              split at hv
              · rename_i hcl
                cases hv
                refine ⟨rfl, ?_⟩
                have hrl : r - l = 0 := by omega
                rw [hrl]
                have hz := hr.zero
                have h0' := (List.getElem?_eq_some_iff.1 hz).1
                have har0 : ∀ b, AR g ⟨0, 0, some k⟩ b := fun b => ⟨h0', fun y hy => by simp only at hy; rw [hz] at hy; cases hy⟩
                split
                · exact .osl rfl (har0 _) (by omega) (fun y hy => by simp only at hy; rw [hz] at hy; cases hy)
                · exact .osl rfl (har0 _) (by omega) (fun y hy => by simp only at hy; rw [hz] at hy; cases hy)
              · rename_i hcl
                split at hv
                · rename_i c es hg
                  split at hv
                  · rename_i hes
                    cases hv
                    refine ⟨rfl, ?_⟩
                    rw [if_neg (by omega)]
                    have h2 := add_AR har (l * size)
                    refine .osl (k := k) rfl ⟨h2.1, h2.2⟩ (by omega) (fun y hy => ?_)
                    have h1 := hlim y hy
                    obtain ⟨x, hx, c', el, fz, e1, e2, _⟩ := hr.of_cells hg
                    simp only at hy
                    rw [hx] at hy; cases hy
                    rw [e2, hes] at h1 ⊢
                    have : l * size + (cap' - l) * size = cap' * size := by
                      rw [← Nat.add_mul]; congr 1; omega
                    simp only
                    omega
                  · cases hv
                · cases hv
end
end Go.Vm

/- A small machine over an abstract heap: its operations answer as the model's do (4). -/
namespace Go.Vm
open Go.RowKit
section
variable {P : Program} {o : Oper} {op : AOp}
theorem sliceOf_cases {e : Operand → Value} {size : Nat} {v : Value} {lo hi mx : Option Operand} {h : Heap} : (∃ u h', sliceOf e size v lo hi mx h = .ok u h') ∨ sliceOf e size v lo hi mx h = .bad := by
  unfold sliceOf
  repeat' split
  all_goals first | exact .inr rfl | exact .inl ⟨_, _, rfl⟩
theorem ok_sliceSl {t el : TypeId} {s : Nat} {x : Operand} {lo hi mx : Option Operand} (ho : o.op = .slice t x lo hi mx) (ht : P.underlying t = some (.slice el)) (hs : sizeT P el = some s)
    (hmh : mx.isSome = true → hi.isSome = true) : OpOK P o (.sliceSl s x lo hi mx) := by
  intro g h B w0 w e e' hr he
  simp only [xop]
  rcases sliceOf_cases (e := e) (size := s) (v := e x) (lo := lo) (hi := hi) (mx := mx) (h := h) with ⟨u, h', hv⟩ | hv
  · rw [hv]
    have hx := he x
    cases hex : e x with
    | slice base len cap =>
      rw [hex] at hv hx
      have hb : ∃ base' cap', e' x = .slice base' len cap' ∧ cap ≤ cap' := by
        cases base with
        | none => exact ⟨none, cap, hx.eq_ground rfl, Nat.le_refl _⟩
        | some a => obtain ⟨a', c', h1, _, h2, _⟩ := hx.slice; exact ⟨_, _, h1, h2⟩
      obtain ⟨base', cap', hb', hle⟩ := hb
      rw [hb'] at hx
      obtain ⟨m, r, l, h1, h2, h3, rfl, hvr⟩ := slice_value hr hv hx
      refine ResOK.same hr hvr ?_
      have hbr := bounds_run (P := P) he true (len := len) hle hmh h1 h2 h3 w
      simp only [execOp, ho, Instr.sliceAt, Sem.run_bind, run_under ht, Result.andThen_ok, Instr.slice, hb', hbr, run_size hs, Sem.run_pure]
    | _ => rw [hex] at hv; simp [sliceOf] at hv
  · rw [hv]; trivial
theorem sliceArr_core {g : Gh} {h : Heap} {B : Nat} {w0 w : World} (hr : HR g h B w0 w) {e e' : Operand → Value} (he : ∀ x, VR g (e x) (e' x)) {n s : Nat} {a a' : Addr} (har : AR g a a') {lo hi : Option Operand} {u : Value} {h' : Heap}
    (hv : sliceOf e s (.slice (some ⟨a.block, a.off, none⟩) n n) lo hi none h = .ok u h') :
    ∃ r l, (Instr.sliceBounds false n n (lo.map e') (hi.map e') none).run P w = .ok (l, r, n) w ∧ h' = h ∧ VR g u (.slice (some (if n = l then a' else a'.add (l * s))) (r - l) (n - l)) := by
  obtain ⟨m, r, l, h1, h2, h3, rfl, hvr⟩ := slice_value (base' := some a') (cap' := n) hr hv (.sl rfl ⟨har.1, har.2⟩)
  have hbr := bounds_run (P := P) he false (len := n) (mx := none) (Nat.le_refl n) (by simp) h1 h2 h3 w
  simp only [Option.map_none, Option.isSome_none, Bool.false_eq_true, if_false] at hbr hvr
  refine ⟨r, l, hbr, rfl, ?_⟩
  have : (if n = l then some a' else Option.map (fun x => x.add (l * s)) (some a')) = some (if n = l then a' else a'.add (l * s)) := by split <;> rfl
  rw [this] at hvr
  exact hvr
theorem ok_sliceArr {t el : TypeId} {n s : Nat} {x : Operand} {lo hi : Option Operand} (ho : o.op = .slice t x lo hi none)
    (ht : P.underlying t = some (.array n el) ∨ ∃ a, P.underlying t = some (.pointer a) ∧ P.underlying a = some (.array n el)) (hs : sizeT P el = some s) : OpOK P o (.sliceArr n s x lo hi) := by
  intro g h B w0 w e e' hr he
  simp only [xop]
  split
  · rename_i a hx
    have h1 := he x; rw [hx] at h1
    obtain ⟨a', h1, har⟩ := h1.pointer
    rcases sliceOf_cases (e := e) (size := s) (v := .slice (some ⟨a.block, a.off, none⟩) n n) (lo := lo) (hi := hi) (mx := none) (h := h) with ⟨u, h', hv⟩ | hv
    · obtain ⟨r, l, hb, rfl, hvr⟩ := sliceArr_core (P := P) hr he har hv
      rw [hv]
      refine ResOK.same hr hvr ?_
      rcases ht with ht | ⟨p, ht, hp⟩
      · simp only [execOp, ho, Instr.sliceAt, Sem.run_bind, run_under ht, Result.andThen_ok, h1, Instr.sureAddr, Option.map_none, hb, run_size hs, Sem.run_pure]
      · simp only [execOp, ho, Instr.sliceAt, Sem.run_bind, run_under ht, Result.andThen_ok, h1, Instr.slice, asAddr, run_under hp, Option.map_none, hb, run_size hs, Sem.run_pure]
    · rw [hv]; trivial
  · trivial
theorem ok_sliceStr {t : TypeId} {x : Operand} {lo hi : Option Operand} (ho : o.op = .slice t x lo hi none) (ht : P.underlying t = some .string) : OpOK P o (.sliceStr x lo hi) := by
  intro g h B w0 w e e' hr he
  simp only [xop]
  split
  · rename_i s hx
    have h1 := he x; rw [hx] at h1; have h1 := h1.string
    split
    · trivial
    · rename_i r hh
      split
      · trivial
      · rename_i l hl
        refine ResOK.same (v' := .string (s.extract l r)) hr (.gr rfl) ?_
        have hb := bounds_run (P := P) (len := s.size) (cap := s.size) (m := s.size) (mx := none) he false (Nat.le_refl s.size) (by simp) rfl hh hl w
        simp only [Option.map_none, Option.isSome_none, Bool.false_eq_true, if_false] at hb
        simp [execOp, ho, Instr.sliceAt, run_under ht, h1, Instr.slice, hb]
  · trivial
theorem bytes_vr {g : Gh} : ∀ {l l' : List Value} {s : List UInt8}, VRL g l l' → bytesOf l = some s → l' = l
  | [], _, _, .nil, _ => rfl
  | v :: l, _, s, .cons hv hl, h => by
    cases v with
    | int k n =>
      cases k <;> simp [bytesOf] at h
      obtain ⟨s', h', _⟩ := h
      rw [hv.int, bytes_vr hl h']
    | _ => simp [bytesOf] at h
theorem bytes_loop (P : Program) (w : World) : ∀ (l : List Value) (s : List UInt8) (acc : ByteArray), bytesOf l = some s →
    (forIn (m := Sem) l acc (fun c s => do
      let .int .u8 n := c | stuck "bytesToString: byte expected"
      pure (ForInStep.yield (s.push (UInt8.ofNat n.toNat))))).run P w = .ok ⟨⟨acc.data.toList ++ s⟩⟩ w
  | [], s, acc, h => by simp [bytesOf] at h; subst h; simp
  | v :: l, s, acc, h => by
    cases v with
    | int k n =>
      cases k <;> simp [bytesOf] at h
      obtain ⟨s', h', rfl⟩ := h
      simp only [List.forIn_cons, Sem.run_bind, Sem.run_pure, Result.andThen_ok]
      rw [bytes_loop P w l s' _ h']
      simp [ByteArray.push]
    | _ => simp [bytesOf] at h
theorem ok_bytesToStr {src dst el : TypeId} {x : Operand} (ho : o.op = .convert src dst x) (hs : P.underlying src = some (.slice el)) (hd : P.underlying dst = some .string) (hel : P.underlying el = some (.int .u8)) :
    OpOK P o (.bytesToStr x) := by
  intro g h B w0 w e e' hr he
  simp only [xop]
  split
  · rename_i n c hx
    have h1 := he x; rw [hx] at h1; have h1 := h1.eq_ground rfl
    refine ResOK.same (v' := .string .empty) hr (.gr rfl) ?_
    simp [execOp, ho, convert, run_under hs, run_under hd, h1, run_under hel, Conv.bytesToString]
  · rename_i a n c hx
    have h1 := he x; rw [hx] at h1
    obtain ⟨a', c', h1, har, _⟩ := h1.slice
    split
    · rename_i s hb
      obtain ⟨cs, hc, hbs⟩ := Option.bind_eq_some_iff.1 hb
      obtain ⟨cs', hrun, hvr⟩ := loadCells_sound (P := P) hr hc har rfl rfl
      obtain rfl := bytes_vr hvr hbs
      refine ResOK.same (v' := .string ⟨⟨s⟩⟩) hr (.gr rfl) ?_
      have hl := bytes_loop P w cs' s .empty hbs
      simp only [execOp, ho, convert, Sem.run_bind, run_under hs, run_under hd, Result.andThen_ok, h1, run_under hel, Conv.bytesToString, hrun]
      rw [← Array.forIn_toList]
      simp only
      erw [hl]
      simp [ByteArray.empty, ByteArray.emptyWithCapacity]
      rfl
    · trivial
  · trivial
end
end Go.Vm

/- A small machine over an abstract heap: append. -/
namespace Go.Vm
open Go.RowKit
section
variable {P : Program} {o : Oper} {op : AOp}
theorem repeatL_length (z : List Value) : ∀ n, (repeatL z n).length = n * z.length
  | 0 => by simp [repeatL]
  | n + 1 => by simp [repeatL, repeatL_length z n, Nat.add_mul]; omega
theorem repeatL_ground {z : List Value} (hz : groundL z = true) : ∀ n, groundL (repeatL z n) = true
  | 0 => rfl
  | n + 1 => by
    have key : ∀ (a b : List Value), groundL a = true → groundL b = true → groundL (a ++ b) = true := by
      intro a b ha hb
      induction a with
      | nil => simpa using hb
      | cons x a ih =>
        simp only [groundL, Bool.and_eq_true, List.cons_append] at ha ⊢
        exact ⟨ha.1, ih ha.2⟩
    exact key _ _ hz (repeatL_ground hz n)
theorem repeatL_get (z : List Value) : ∀ (n i : Nat), i < n * z.length → (repeatL z n)[i]? = z[i % z.length]?
  | 0, i, h => by simp at h
  | n + 1, i, h => by
    simp only [repeatL, List.getElem?_append]
    split
    · rename_i hi; rw [Nat.mod_eq_of_lt hi]
    · rename_i hi
      rw [repeatL_get z n (i - z.length) (by rw [Nat.add_mul] at h; omega)]
      congr 1
      have : i = i - z.length + z.length := by omega
      conv => rhs; rw [this, Nat.add_mod_right]
theorem range_zero (z : Array Value) (n : Nat) : (Array.range (n * z.size)).map (fun i => z[i % z.size]!) = ⟨repeatL z.toList n⟩ := by
  apply Array.ext'
  apply List.ext_getElem?
  intro i
  simp only [Array.toList_map, List.getElem?_map, Array.toList_range]
  by_cases hi : i < n * z.size
  · rw [List.getElem?_eq_getElem (by simpa using hi), repeatL_get _ _ _ (by simpa using hi)]
    simp only [Option.map_some, List.getElem_range, Array.length_toList]
    have hz : 0 < z.size := by
      rcases Nat.eq_zero_or_pos z.size with h | h
      · rw [h] at hi; simp at hi
      · exact h
    have hm := Nat.mod_lt i hz
    rw [List.getElem?_eq_getElem (by simpa using hm)]
    simp [getElem!_pos, hm]
  · rw [List.getElem?_eq_none (by simpa using hi), List.getElem?_eq_none (by rw [repeatL_length]; simpa using hi)]
    rfl
theorem cellsAt_length {h : Heap} {b off n : Nat} {c : List Value} (hc : cellsAt h b off n = some c) : c.length = n := by
  unfold cellsAt at hc
  by_cases hn0 : n = 0
  · rw [if_pos hn0] at hc; cases hc; simp [hn0]
  rw [if_neg hn0] at hc
  split at hc
  · split at hc
    · cases hc; simp; omega
    · cases hc
  · cases hc
theorem new_run {g : Gh} {h : Heap} {B : Nat} {w0 w : World} (hr : HR g h B w0 w) {size : Nat} {zero : List Value} {zeros : Bool} {x x' : Value} {n : Nat} {new : List Value}
    (hn : newCells h size zero zeros x = some (n, new)) (hx : VR g x x') (hz : groundL zero = true) (hzl : zero.length = size) :
    ∃ new', VRL g new new' ∧ new'.length = n * size ∧
      (zeros = false → (∀ w, (Builtin.lenOf x').run P w = .ok n w) ∧ ∀ w', w'.heap = w.heap → (Builtin.firstCells size n x').run P w' = .ok ⟨new'⟩ w') ∧
      (zeros = true → x' = .int .i64 n ∧ new' = repeatL zero n) := by
  unfold newCells at hn
  split at hn
  · rename_i m c
    split at hn
    · cases hn
    · rename_i hc
      cases hn
      simp only [Bool.or_eq_true, bne_iff_ne, ne_eq, not_or, Bool.not_eq_true, Decidable.not_not] at hc
      obtain ⟨rfl, rfl⟩ := hc
      have := hx.eq_ground rfl
      subst this
      exact ⟨[], .nil, by simp, fun _ => ⟨fun w => by simp [Builtin.lenOf], fun w' _ => by simp [Builtin.firstCells]⟩, fun h => by cases h⟩
  · rename_i a m c
    split at hn
    · cases hn
    · rename_i hzs
      obtain ⟨cs, hc, hcs⟩ := Option.map_eq_some_iff.1 hn
      cases hcs
      obtain ⟨a', c', rfl, har, _⟩ := hx.slice
      obtain ⟨new', hrun, hvr⟩ := loadCells_sound' (P := P) hr hc har rfl rfl
      exact ⟨new', hvr, by rw [hvr.length, cellsAt_length hc], fun _ => ⟨fun w => by simp [Builtin.lenOf], fun w' hw' => by simpa [Builtin.firstCells] using hrun w' hw'⟩, fun h => by simp [h] at hzs⟩
  · rename_i s
    split at hn
    · cases hn
    · rename_i hc
      cases hn
      have hs1 : size = 1 := by
        rcases Nat.decEq size 1 with h1 | h1
        · simp [h1] at hc
        · exact h1
      have hzf : zeros = false := by cases zeros <;> simp_all
      have := hx.string
      subst this
      have hg : ∀ l : List UInt8, groundL (l.map fun b => Value.int .u8 b.toNat) = true := by
        intro l; induction l with
        | nil => rfl
        | cons a l ih => simp [groundL, ground, ih]
      refine ⟨ofBytes s, VRL.of_ground (hg _), by (rw [hs1, Nat.mul_one]; unfold ofBytes; rw [List.length_map, Array.length_toList]; rfl), fun _ => ⟨fun w => by simp [Builtin.lenOf], fun w' _ => ?_⟩, fun h => by rw [hzf] at h; cases h⟩
      rw [hs1]
      exact firstCells_string s w'
  · rename_i m
    split at hn
    · rename_i hc
      cases hn
      simp only [Bool.and_eq_true, decide_eq_true_eq] at hc
      have := hx.int
      subst this
      refine ⟨repeatL zero m.toNat, VRL.of_ground (repeatL_ground hz _), by rw [repeatL_length, hzl], (fun h => by rw [hc.1] at h; cases h), fun _ => ⟨by rw [Int.toNat_of_nonneg hc.2], rfl⟩⟩
    · cases hn
  · cases hn
theorem growBy_le (n : Nat) : ∀ (r c : Nat), c ≤ 2 * n + 1000 → Builtin.growBy n r c ≤ 2 * n + 1000
  | 0, c, h => by simpa [Builtin.growBy] using h
  | r + 1, c, h => by
    simp only [Builtin.growBy]
    split
    · exact h
    · exact growBy_le n r _ (by omega)
theorem nextcap_le {n c : Nat} (h : c < n) : Builtin.nextslicecap n c ≤ 2 * n + 1000 := by
  unfold Builtin.nextslicecap
  split
  · omega
  · split
    · omega
    · exact growBy_le n 4 c (by omega)
theorem grown_ge (w : World) (need old : Nat) (e : TypeId) : need ≤ (Question.appendCap need old e).cut (w.tape w.drawn (.appendCap need old e)) := by
  simp [Question.cut]
theorem HR.adopt {g : Gh} {h : Heap} {B : Nat} {w0 w w' : World} (hr : HR g h B w0 w) {x : GB} {ob : AObj} {o' : Obj} (hB : B ≤ x.b) (hlt : x.b < w.heap.size)
    (hno : ∀ (i : Nat) (y : GB), g[i]? = some (some y) → y.b ≠ x.b)
    (hw : w'.heap = w.heap.setIfInBounds x.b o') (hw1 : w'.os = w.os) (hw2 : w'.tape = w.tape) (hw3 : w'.output = w.output)
    (ho : OR (g ++ [some x]) w' x ob) : HR (g ++ [some x]) (h.push ob) B w0 w' where
  len := by simp [hr.len]
  alive := fun i y hy => by
    rw [Heap.get_push]
    by_cases hi : i < g.length
    · rw [List.getElem?_append_left hi] at hy
      obtain ⟨a, b, c⟩ := hr.alive i y hy
      have hn : i ≠ h.n := by rw [← hr.len]; omega
      rw [if_neg hn]
      exact ⟨a, by rw [hw]; simpa using b, (c.mono (Le.push _ _)).heap (by rw [hw, Array.getElem?_setIfInBounds_ne (Ne.symm (hno i y hy))])⟩
    · have hil : i = g.length := by
        have := (List.getElem?_eq_some_iff.1 hy).1
        simp at this; omega
      subst hil
      simp at hy
      subst hy
      rw [if_pos hr.len]
      exact ⟨.inl hB, by rw [hw]; simpa using hlt, ho⟩
  inj := fun i j y z hBy hy hz hb => by
    have sp : ∀ (i : Nat) (y : GB), (g ++ [some x])[i]? = some (some y) → (i < g.length ∧ g[i]? = some (some y) ∧ y.b ≠ x.b) ∨ (i = g.length ∧ y.b = x.b) := fun i y hy => by
      by_cases hi : i < g.length
      · rw [List.getElem?_append_left hi] at hy
        exact .inl ⟨hi, hy, hno i y hy⟩
      · have hil : i = g.length := by
          have := (List.getElem?_eq_some_iff.1 hy).1
          simp at this; omega
        subst hil
        simp at hy
        subst hy
        exact .inr ⟨rfl, rfl⟩
    rcases sp i y hy with ⟨h1, h2, h3⟩ | ⟨h1, h3⟩ <;> rcases sp j z hz with ⟨k1, k2, k3⟩ | ⟨k1, k3⟩
    · exact hr.inj i j y z hBy h2 k2 hb
    · rw [hb, k3] at h3; exact absurd rfl h3
    · rw [← hb, h3] at k3; exact absurd rfl k3
    · omega
  dead := fun i hi => by
    rw [Heap.get_push]
    by_cases e : i = h.n
    · exact absurd (show (g ++ [some x])[i]? = some (some x) by rw [e, ← hr.len]; simp) (hi x)
    · rw [if_neg e]
      refine hr.dead i fun y hy => ?_
      have hl := (List.getElem?_eq_some_iff.1 hy).1
      exact hi y (by rw [List.getElem?_append_left hl]; exact hy)
  below := hr.below.trans ⟨hw1, hw2, hw3, by rw [hw]; simp, fun k hk => by
    rw [hw, Array.getElem?_setIfInBounds_ne (by omega)]⟩
  base := hr.base
  zero := by
    have h0 := hr.zero
    have hl := (List.getElem?_eq_some_iff.1 h0).1
    rw [List.getElem?_append_left hl]; exact h0
end
end Go.Vm

/- A small machine over an abstract heap: append answers as the model's does. -/
namespace Go.Vm
open Go.RowKit
section
variable {P : Program} {o : Oper} {op : AOp}
theorem wrap_small {n : Nat} (h : n < 1048576) : IntKind.i64.wrap (n : Int) = (n : Int) := IntWalk.i64_in _ (by omega)
def zerosOf : TypeDesc → Bool
  | .int _ => true
  | _ => false
structure Appended (P : Program) (w : World) (size n : Nat) (zero : List Value) (zeros : Bool) (x' : Value) (new' : List Value) : Prop where
  len : new'.length = n * size
  no : zeros = false → (∀ w, (Builtin.lenOf x').run P w = .ok n w) ∧ ∀ w', w'.heap = w.heap → (Builtin.firstCells size n x').run P w' = .ok ⟨new'⟩ w'
  yes : zeros = true → x' = .int .i64 n ∧ new' = repeatL zero n
theorem zeroCells_eq (z : Array Value) (n : Nat) : Builtin.zeroCells z n = ⟨repeatL z.toList n⟩ := range_zero z n
theorem small_mul {n b : Nat} (hn : n < 1048576) (hb : b < 1048576) : ¬ (281474976710656 < (n : Int) * (b : Int)) := by
  have : n * b ≤ 1048576 * 1048576 := Nat.mul_le_mul (by omega) (by omega)
  have h6 : ((n * b : Nat) : Int) ≤ ((1048576 * 1048576 : Nat) : Int) := Int.ofNat_le.2 this
  rw [Int.natCast_mul] at h6
  omega
set_option maxRecDepth 10000 in
theorem append_room {w : World} {ts tx ty el : TypeId} {d : TypeDesc} {i : TypeInfo} {v : Value} {zero : List Value} {n : Nat} {x' : Value} {new' : List Value} {base' : Option Addr} {len c' : Nat}
    (hts : P.underlying ts = some (.slice el)) (htx : P.underlying tx = some d) (hi : P.info? el = some i) (hv : zeroT P el = some v) (hvz : v.cells.toList = zero)
    (hd : (∃ k, d = .int k) ∨ (∃ e, d = .slice e) ∨ d = .string) (ha : Appended P w i.size n zero (zerosOf d) x' new') (hn : n < 1048576) (hb : i.bytes < 1048576) (hroom : len + n ≤ c') :
    (Builtin.append_ #[ts, tx] ty #[.slice base' len c', x']).run P w =
      ((match base' with | some a => storeCells (a.add (len * i.size)) new' | none => pure ()).run P w).andThen fun _ w' => .ok (.slice base' (len + n) c') w' := by
  have hs := run_size (show sizeT P el = some i.size by simp [sizeT, hi])
  have hno : zerosOf d = false → (∃ e, d = .slice e) ∨ d = .string → (Builtin.append_ #[ts, tx] ty #[.slice base' len c', x']).run P w =
      ((match base' with | some a => storeCells (a.add (len * i.size)) new' | none => pure ()).run P w).andThen fun _ w' => .ok (.slice base' (len + n) c') w' := by
    intro hz hd
    obtain ⟨h1, h2⟩ := ha.no hz
    have h3 := h2 w rfl
    clear h2 ha
    rcases hd with ⟨k, rfl⟩ | rfl <;> cases base' <;> simp [Builtin.append_, run_under hts, run_under htx, hs, h1, h3, hroom]
  rcases hd with ⟨k, rfl⟩ | ⟨k, rfl⟩ | rfl
  · obtain ⟨rfl, h2⟩ := ha.yes rfl
    have h5 := small_mul hn hb
    have h6 : ¬ ((n : Int) < 0) := by omega
    have hlen := ha.len
    clear ha hno
    by_cases h0 : n * i.size = 0
    · have : new' = [] := List.length_eq_zero_iff.1 (by rw [hlen, h0])
      subst this
      cases base' <;> simp [Builtin.append_, run_under hts, run_under htx, hs, asInt, asIntOf, wrap_small hn, run_info hi, h5, h6, hroom, h0]
    · have hz := run_zero hv
      cases base' <;> simp [Builtin.append_, run_under hts, run_under htx, hs, asInt, asIntOf, wrap_small hn, run_info hi, h5, h6, hroom, h0, hz, zeroCells_eq, hvz, h2]
  · exact hno rfl (.inl ⟨k, rfl⟩)
  · exact hno rfl (.inr rfl)
set_option maxRecDepth 10000 in
theorem append_grow {w : World} {ts tx ty el : TypeId} {d : TypeDesc} {i : TypeInfo} {v : Value} {zero : List Value} {n : Nat} {x' : Value} {old' new' : List Value} {base' : Option Addr} {len c' : Nat}
    (hts : P.underlying ts = some (.slice el)) (htx : P.underlying tx = some d) (hi : P.info? el = some i) (hv : zeroT P el = some v) (hvz : v.cells.toList = zero) (hzl : zero.length = i.size)
    (hd : (∃ k, d = .int k) ∨ (∃ e, d = .slice e) ∨ d = .string) (ha : Appended P w i.size n zero (zerosOf d) x' new') (hn : len + n < 1048576) (hb : i.bytes < 1048576) (hroom : ¬ len + n ≤ c')
    (hold : ∀ w', w'.heap = w.heap → (Builtin.firstCells i.size len (.slice base' len c')).run P w' = .ok ⟨old'⟩ w') :
    ∃ cap extra, len + n ≤ cap ∧ extra.length = (cap - (len + n)) * i.size ∧ (Builtin.append_ #[ts, tx] ty #[.slice base' len c', x']).run P w =
      .ok (.slice (some ⟨w.heap.size, 0, none⟩) (len + n) cap) (w.drew.alloc (.cells ⟨old' ++ new' ++ extra⟩ el)) := by
  have hcap := grown_ge w (len + n) c' el
  refine ⟨_, repeatL zero ((Question.appendCap (len + n) c' el).cut (w.tape w.drawn (.appendCap (len + n) c' el)) - (len + n)), hcap, by rw [repeatL_length, hzl], ?_⟩
  have hnc := nextcap_le (show c' < len + n by omega)
  have h48 : ¬ (281474976710656 < Builtin.nextslicecap (len + n) c' * i.bytes) := by
    have : Builtin.nextslicecap (len + n) c' * i.bytes ≤ 2098152 * 1048576 := Nat.mul_le_mul (by omega) (by omega)
    omega
  have hmx : IntKind.i64.max = 9223372036854775807 := by decide
  have h63 : ¬ (9223372036854775807 < (len : Int) + (n : Int)) := by omega
  have hs := run_size (show sizeT P el = some i.size by simp [sizeT, hi])
  have hz := run_zero hv
  have h3' := hold w.drew rfl
  have hno : zerosOf d = false → (∃ e, d = .slice e) ∨ d = .string → (Builtin.append_ #[ts, tx] ty #[.slice base' len c', x']).run P w =
      .ok (.slice (some ⟨w.heap.size, 0, none⟩) (len + n) ((Question.appendCap (len + n) c' el).cut (w.tape w.drawn (.appendCap (len + n) c' el))))
        (w.drew.alloc (.cells ⟨old' ++ new' ++ repeatL zero ((Question.appendCap (len + n) c' el).cut (w.tape w.drawn (.appendCap (len + n) c' el)) - (len + n))⟩ el)) := by
    intro hz0 hd
    obtain ⟨h1, h2⟩ := ha.no hz0
    have h3 := h2 w.drew rfl
    clear h2 ha hold
    rcases hd with ⟨k, rfl⟩ | rfl <;> simp [Builtin.append_, run_under hts, run_under htx, hs, h1, hroom, run_info hi, hmx, h63, h48, Question.forced, h3, h3', hz, zeroCells_eq, hvz, newRow]
  rcases hd with ⟨k, rfl⟩ | ⟨k, rfl⟩ | rfl
  · obtain ⟨rfl, h2⟩ := ha.yes rfl
    have h5 := small_mul (show n < 1048576 by omega) hb
    have h6 : ¬ ((n : Int) < 0) := by omega
    have hlen := ha.len
    clear ha hno hold
    by_cases h0 : n * i.size = 0
    · have : new' = [] := List.length_eq_zero_iff.1 (by rw [hlen, h0])
      subst this
      simp [Builtin.append_, run_under hts, run_under htx, hs, asInt, asIntOf, wrap_small (show n < 1048576 by omega), run_info hi, h5, h6, hroom, hmx, h63, h48, Question.forced, h0, h3', hz, zeroCells_eq, hvz, newRow]
    · simp [Builtin.append_, run_under hts, run_under htx, hs, asInt, asIntOf, wrap_small (show n < 1048576 by omega), run_info hi, h5, h6, hroom, hmx, h63, h48, Question.forced, h0, h3', hz, zeroCells_eq, hvz, newRow, h2]
  · exact hno rfl (.inl ⟨k, rfl⟩)
  · exact hno rfl (.inr rfl)
end
end Go.Vm

/- A small machine over an abstract heap: append, copy and their kin. -/
namespace Go.Vm
open Go.RowKit
section
variable {P : Program} {o : Oper} {op : AOp}
theorem over_tail (l : List Value) (s m : Nat) (xs : List Value) (h : s + m + xs.length ≤ l.length) : ((over l (s + m) xs).drop s).take (m + xs.length) = (l.drop s).take m ++ xs := by
  rw [over_eq l (s + m) xs h]
  apply List.ext_getElem?
  intro j
  simp only [List.getElem?_take, List.getElem?_drop, List.getElem?_append, List.length_take, List.length_drop, List.length_append]
  repeat' split
  all_goals (try omega)
  all_goals (try rfl)
  all_goals (try (congr 1; omega))
  all_goals (symm; apply List.getElem?_eq_none; omega)
set_option maxRecDepth 20000 in
theorem append_sound {g : Gh} {h : Heap} {B : Nat} {w0 w : World} (hr : HR g h B w0 w) {ts tx ty el : TypeId} {d : TypeDesc} {i : TypeInfo} {v : Value} {zero : List Value} {zeros : Bool} {s s' x x' : Value}
    (hts : P.underlying ts = some (.slice el)) (htx : P.underlying tx = some d) (hi : P.info? el = some i) (hv : zeroT P el = some v) (hvz : v.cells.toList = zero) (hzl : zero.length = i.size)
    (hd : (∃ k, d = .int k) ∨ (∃ e, d = .slice e) ∨ d = .string) (hzs : zeros = zerosOf d) (hs : VR g s s') (hx : VR g x x') {u : Value} {h' : Heap}
    (ha : appendOf i.size i.bytes zero zeros s x h = .ok u h') :
    ∃ g' u' w', (Builtin.append_ #[ts, tx] ty #[s', x']).run P w = .ok u' w' ∧ Le g g' ∧ HR g' h' B w0 w' ∧ VR g' u u' := by
  subst hzs
  have hzg : groundL zero = true := by rw [← hvz]; exact groundL_cells (zeroT_some hv).1
  unfold appendOf at ha
  split at ha
  · cases ha
  rename_i hsz
  split at ha
  · rename_i base len cap n new hnew
    obtain ⟨new', hnr, hnl, hn1, hn2⟩ := new_run (P := P) hr hnew hx hzg hzl
    have hap : Appended P w i.size n zero (zerosOf d) x' new' := ⟨hnl, hn1, hn2⟩
    dsimp only at ha
    split at ha
    · cases ha
    rename_i hsmall
    simp only [ge_iff_le, not_or, Nat.not_le] at hsmall
    cases base with
    | none =>
      have hs' := hs.eq_ground rfl
      subst hs'
      simp only at ha
      split at ha
      · cases ha
      rename_i hc0
      obtain ⟨rfl, rfl⟩ : cap = 0 ∧ len = 0 := by
        constructor
        · exact Decidable.byContradiction fun h => hc0 (.inl h)
        · exact Decidable.byContradiction fun h => hc0 (.inr h)
      split at ha
      · rename_i hn0
        cases ha
        have hroom := append_room (P := P) (w := w) (ty := ty) (base' := none) (len := 0) (c' := 0) hts htx hi hv hvz hd hap (by omega) hsmall.2 (by omega)
        refine ⟨g, .slice none 0 0, w, ?_, Le.refl _, hr, .gr rfl⟩
        rw [hroom]
        obtain rfl : n = 0 := by omega
        simp
      · rename_i hn0
        cases ha
        obtain ⟨cap', extra, h1, h2, h3⟩ := append_grow (P := P) (w := w) (ty := ty) (base' := none) (len := 0) (c' := 0) (old' := []) hts htx hi hv hvz hzl hd hap hsmall.1 hsmall.2 (by omega) (fun w' _ => by simp [Builtin.firstCells])
        have h4 := alloc_sound (hr.drawn (w.drawn + 1)) hnr el i.size (0, 0) extra (by simp) (by simp)
        refine ⟨_, _, _, h3, Le.push _ _, h4, ?_⟩
        refine .osl (k := 0) rfl (AR_new hr) h1 (fun y hy => ?_)
        simp only [← hr.len] at hy
        simp at hy; subst hy
        simp only [Nat.zero_add, Nat.add_zero]
        rw [hnl, h2, ← Nat.add_mul]
        exact Nat.mul_le_mul_right _ (by omega)
    | some a =>
      obtain ⟨a', c', rfl, har, hle, he1, he2⟩ := hs.slice
      simp only at ha
      split at ha
      · -- room, known
        rename_i hroom
        split at ha
        · rename_i h'' hp
          cases ha
          obtain ⟨w', hst, hr'⟩ := store_sound (P := P) hr hp hnr (add_AR har (len * i.size)) rfl rfl
          have hrun := append_room (P := P) (w := w) (ty := ty) (base' := some a') (len := len) (c' := c') hts htx hi hv hvz hd hap (by omega) hsmall.2 (by omega)
          simp only [hst, Result.andThen_ok] at hrun
          refine ⟨g, _, w', hrun, Le.refl _, hr', ?_⟩
          cases hsp : a.spot with
          | none => rw [he1 hsp]; exact .sl hsp har
          | some k => exact .osl hsp har hle (he2 (by rw [hsp]; simp))
        · cases ha
      · rename_i hroom
        split at ha
        · cases ha
        rename_i old hold
        obtain ⟨old', hor, hovr⟩ := loadCells_sound' (P := P) hr hold har rfl rfl
        have hol := cellsAt_length hold
        have hol' := hovr.length
        have holdr : ∀ w', w'.heap = w.heap → (Builtin.firstCells i.size len (.slice (some a') len c')).run P w' = .ok ⟨old'⟩ w' := fun w' hw' => by simpa [Builtin.firstCells] using hor w' hw'
        have hgrow : ¬ len + n ≤ c' → ∀ (g1 : Gh) (h1 : Heap), HR g1 h1 B w0 w → Le g g1 → ∃ g' u' w', (Builtin.append_ #[ts, tx] ty #[.slice (some a') len c', x']).run P w = .ok u' w' ∧ Le g g' ∧
            HR g' (h1.push (.cells (old ++ new) i.size)) B w0 w' ∧ VR g' (.slice (some ⟨h1.n, 0, some 0⟩) (len + n) (len + n)) u' := by
          intro hnr' g1 h1 hr1 hl1
          obtain ⟨cap', extra, e1, e2, e3⟩ := append_grow (P := P) (w := w) (ty := ty) hts htx hi hv hvz hzl hd hap hsmall.1 hsmall.2 hnr' holdr
          have h4 := alloc_sound (hr1.drawn (w.drawn + 1)) ((hovr.mono hl1).append (hnr.mono hl1)) el i.size (0, 0) extra (by simp) (by simp)
          refine ⟨_, _, _, e3, hl1.trans (Le.push _ _), h4, ?_⟩
          refine .osl (k := 0) rfl (AR_new hr1) e1 (fun y hy => ?_)
          simp only [← hr1.len] at hy
          simp at hy; subst hy
          simp only [Nat.zero_add, Nat.add_zero]
          rw [hnl, hol', hol, e2, ← Nat.add_mul, ← Nat.add_mul]
          exact Nat.mul_le_mul_right _ (by omega)
        split at ha
        · rename_i hsp
          cases ha
          have := he1 hsp
          exact hgrow (by omega) g h hr (Le.refl _)
        · rename_i k hsp
          split at ha
          · rename_i c es hg
            split at ha
            · rename_i hes
              obtain ⟨hes, hnone⟩ := hes
              cases ha
              have hkill := hr.kill a.block
              by_cases hrm : len + n ≤ c'
              · -- there is room after all
                obtain ⟨y, hgy, c2, el2, fz, f1, f2, f3, f4, f5, f7, f6⟩ := hr.of_cells hg
                obtain rfl := har.at hgy
                obtain ⟨c2⟩ := c2
                simp only [List.size_toArray] at f3 f4 f5
                have hlim := he2 (by rw [hsp]; simp) y hgy
                rw [f2, hes, f3] at hlim
                have hlim2 : (len + n) * i.size ≤ c' * i.size := Nat.mul_le_mul_right _ hrm
                rw [Nat.add_mul] at hlim2
                have hone : ∀ v ∈ new', v.oneCell' = true := one_of_vr hnr hnone
                have hst := storeCells_run P y.b (y.sh + a.off + len * i.size) el2 fz new' 0 c2 w f1 (by rw [hnl]; omega) hone f5
                have hadd : (⟨y.b, y.sh + a.off, none⟩ : Addr).add (len * i.size) = ⟨y.b, y.sh + a.off + len * i.size, none⟩ := by
                  unfold Addr.add; split <;> simp_all
                have hrun := append_room (P := P) (w := w) (ty := ty) (base' := some ⟨y.b, y.sh + a.off, none⟩) (len := len) (c' := c') hts htx hi hv hvz hd hap (by omega) hsmall.2 hrm
                simp only [hadd, hst, Result.andThen_ok] at hrun
                have hno : ∀ (j : Nat) (z : GB), (g.set a.block none)[j]? = some (some z) → z.b ≠ y.b := by
                  intro j z hz hb
                  have hle := Le.kill g a.block
                  have hj : j < g.length := by have := (List.getElem?_eq_some_iff.1 hz).1; simpa using this
                  have := (hr.inj a.block j y z (hr.own hgy (by rw [hg]; rfl)) hgy (hle.2 j hj z hz) hb.symm).symm
                  subst this
                  rw [List.getElem?_set] at hz; simp at hz
                have hB := hr.alive a.block y hgy
                have hBo := hr.own hgy (by rw [hg]; rfl)
                refine ⟨g.set a.block none ++ [some ⟨y.b, y.sh + a.off, i.size, c2.length⟩], _, _, hrun, (Le.kill _ _).trans (Le.push _ _), ?_, ?_⟩
                · refine hkill.adopt (x := ⟨y.b, y.sh + a.off, i.size, c2.length⟩) hBo hB.2.1 hno rfl rfl rfl rfl ?_
                  refine ⟨_, el2, fz, heap_withBlock f1, rfl, ?_, ?_, ?_, ?_, ?_⟩
                  · simp only [List.size_toArray]; rw [over_length _ _ _ (by rw [hnl]; omega)]
                  · simp only [List.size_toArray, List.length_append]; rw [over_length _ _ _ (by rw [hnl]; omega), hol, ← hnr.length, hnl]; omega
                  · simp only [List.size_toArray]; rw [over_length _ _ _ (by rw [hnl]; omega)]; exact f5
                  · intro hne; exact f7 (by omega)
                  · have hl2 : Le g (g.set a.block none ++ [some ⟨y.b, y.sh + a.off, i.size, c2.length⟩]) := (Le.kill _ _).trans (Le.push _ _)
                    have hovr2 : VRL g old ((c2.drop (y.sh + a.off)).take (len * i.size)) := by
                      unfold cellsAt at hold
                      rw [hg] at hold
                      by_cases hn0 : len * i.size = 0
                      · rw [if_pos hn0] at hold
                        cases hold
                        rw [hn0, List.take_zero]
                        exact .nil
                      rw [if_neg hn0] at hold
                      have hold : (if a.off + len * i.size ≤ c.length then some ((c.drop a.off).take (len * i.size)) else none) = some old := hold
                      split at hold
                      · rename_i hl
                        cases hold
                        have := (f6.drop a.off).take (len * i.size)
                        rw [List.drop_take, List.drop_drop, List.take_take] at this
                        rw [show min (len * i.size) (c.length - a.off) = len * i.size from by omega] at this
                        exact this
                      · cases hold
                    have e1 : (old ++ new).length = len * i.size + new'.length := by rw [List.length_append, hol, hnr.length]
                    simp only [Nat.add_zero]
                    rw [e1, over_tail c2 (y.sh + a.off) (len * i.size) new' (by rw [hnl]; omega)]
                    exact (hovr2.mono hl2).append (hnr.mono hl2)
                · refine .osl (k := 0) rfl ?_ hrm (fun z hz => ?_)
                  · refine ⟨by simp [hr.len], fun z hz => ?_⟩
                    simp only [← hr.len] at hz
                    have : (g.set a.block none ++ [some (⟨y.b, y.sh + a.off, i.size, c2.length⟩ : GB)])[g.length]? = some (some ⟨y.b, y.sh + a.off, i.size, c2.length⟩) := by
                      rw [List.getElem?_append_right (by simp)]; simp
                    rw [this] at hz; cases hz; rfl
                  · simp only [← hr.len] at hz
                    have : (g.set a.block none ++ [some (⟨y.b, y.sh + a.off, i.size, c2.length⟩ : GB)])[g.length]? = some (some ⟨y.b, y.sh + a.off, i.size, c2.length⟩) := by
                      rw [List.getElem?_append_right (by simp)]; simp
                    rw [this] at hz; cases hz
                    simp only
                    omega
              · exact hgrow hrm _ _ hkill (Le.kill _ _)
            · cases ha
          · cases ha
  · cases ha
end
end Go.Vm
