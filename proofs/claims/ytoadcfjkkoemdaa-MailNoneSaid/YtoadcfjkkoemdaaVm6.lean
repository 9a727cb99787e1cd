/- A small machine over an abstract heap: its operations answer as the model's do (2). -/
import Derived.Test.YtoadcfjkkoemdaaVm5
namespace Go.Vm
open Go.RowKit

section
variable {P : Program} {o : Oper} {op : AOp}

theorem execOp_slim (e : Operand → Value) (o : Oper) : execOp e (slim o) = execOp e o := rfl

theorem ok_raw (hs : ∀ cs b, o.op ≠ .select cs b) : OpOK P o (.raw (slim o)) := by
  intro g h B w0 w e e' hr he
  rw [← execOp_slim e' o]
  exact raw_sound hr he (slim o) hs

theorem ok_bin {bo : BinOp} {t yt : TypeId} {x y : Operand} (ho : o.op = .binOp bo t x y yt) : OpOK P o (.bin bo (slim o) x y) := by
  intro g h B w0 w e e' hr he
  have hraw : ResOK g B w0 (rawOp P e (slim o) h) ((execOp e' o).run P w) := by
    rw [← execOp_slim e' o]
    exact raw_sound hr he (slim o) (fun cs b => by simp [slim, ho])
  simp only [xop, binOpV]
  split
  · rename_i k a k' b hx hy
    have h1 := he x; rw [hx] at h1; have h1 := h1.int
    have h2 := he y; rw [hy] at h2; have h2 := h2.int
    split
    · rename_i hk
      subst hk
      split
      · rename_i v hv
        have hg : ground v = true := by cases bo <;> simp [binInt] at hv <;> subst hv <;> rfl
        refine ResOK.same hr (.gr hg) ?_
        simp only [execOp, ho, h1, h2]
        cases bo <;> simp [binInt] at hv <;> subst hv <;> simp [eqGuard, binOp, Op.intArith, Op.intCmp]
      · exact hraw
    · exact hraw
  · exact hraw

theorem ok_conv {src dst : TypeId} {x : Operand} {d : TypeDesc} {k : IntKind} (ho : o.op = .convert src dst x) (hs : P.underlying src = some d) (hd : P.underlying dst = some (.int k)) :
    OpOK P o (.conv k (slim o) x) := by
  intro g h B w0 w e e' hr he
  simp only [xop]
  split
  · rename_i kk n hx
    have h1 := he x; rw [hx] at h1; have h1 := h1.int
    refine ResOK.same hr (.gr rfl) ?_
    simp only [execOp, ho, h1, convert, Sem.run_bind, run_under hs, run_under hd, Result.andThen_ok]
    cases d <;> simp [Conv.intToInt]
  · rw [← execOp_slim e' o]
    exact raw_sound hr he (slim o) (fun cs b => by simp [slim, ho])

theorem lget_get : ∀ {l : List Value} {i : Nat}, i < l.length → l[i]? = some (lget l i)
  | [], i, h => by simp at h
  | v :: l, 0, _ => by simp [lget]
  | v :: l, i + 1, h => by simp [lget]; exact lget_get (by simpa using h)

theorem ok_extract {i : Nat} {x : Operand} (ho : o.op = .extract x i) : OpOK P o (.extract i x) := by
  intro g h B w0 w e e' hr he
  simp only [xop]
  split
  · rename_i c hx
    have h1 := he x; rw [hx] at h1
    obtain ⟨c', h1, hc⟩ := h1.tuple_inv
    split
    · rename_i hi
      obtain ⟨v', h2, hv⟩ := hc.get (lget_get hi)
      exact ResOK.same hr hv (by simp [execOp, ho, h1, Instr.extract, h2])
    · trivial
  · trivial

theorem ok_arrayAt {t : TypeId} {n : Nat} {el : TypeId} {x : Operand} (ho : o.op = .sliceToArrayPointer t x) (ht : P.underlying t = some (.array n el)) : OpOK P o (.arrayAt n x) := by
  intro g h B w0 w e e' hr he
  simp only [xop]
  split
  · rename_i a len cap hx
    have h1 := he x; rw [hx] at h1
    obtain ⟨a', c', h1, har, _⟩ := h1.slice
    split
    · rename_i hn
      refine ResOK.same (v' := .pointer (some a')) hr (.ptr ⟨har.1, har.2⟩) ?_
      have : ¬ len < n := by omega
      simp only [execOp, ho, h1, Instr.arrayAt, Sem.run_bind, run_under ht, Result.andThen_ok, this, if_false, Sem.run_pure]
    · trivial
  · trivial

theorem ok_mkIface {t : TypeId} {x : Operand} {d : TypeDesc} (ho : o.op = .makeInterface t x) (ht : P.underlying t = some d) (hd : ∀ ms, d ≠ .interface ms) : OpOK P o (.mkIface t x) := by
  intro g h B w0 w e e' hr he
  refine ResOK.same hr (.iface (he x)) ?_
  simp only [execOp, ho, Instr.makeInterface, Sem.run_bind, run_under ht, Result.andThen_ok]
  cases d with
  | interface ms => exact absurd rfl (hd ms)
  | _ => simp

theorem map_list {α β : Type} (f : α → β) (a : Array α) : a.map f = ⟨a.toList.map f⟩ := by
  apply Array.ext'; simp

theorem ok_mkFunc {f : FuncId} {first captured : Array Operand} (ho : o.op = .makeFunc (.func f) first captured) : OpOK P o (.mkFunc (.func f) first.toList captured.toList) := by
  intro g h B w0 w e e' hr he
  refine ResOK.same hr (.func (VRL.map fun x _ => he x) (VRL.map fun x _ => he x)) ?_
  simp [execOp, ho, Instr.makeFunc, map_list]

theorem ok_assert {t xt : TypeId} {x : Operand} {ok : Bool} {z : Value} {d : TypeDesc} (ho : o.op = .typeAssert x xt t ok) (ht : P.underlying t = some d) (hd : ∀ ms, d ≠ .interface ms)
    (hz : zeroT P t = some z) : OpOK P o (.assertTo t z ok x) := by
  intro g h B w0 w e e' hr he
  have hzg := (zeroT_some hz).1
  simp only [xop]
  split
  · rename_i u v hx
    have h1 := he x; rw [hx] at h1
    obtain ⟨v', h1, hv⟩ := h1.iface_inv
    split
    · rename_i hu
      subst hu
      cases ok
      · refine ResOK.same (v' := v') hr (by simpa using hv) ?_
        simp only [execOp, ho, h1, Instr.typeAssert, Sem.run_bind, run_under ht, Result.andThen_ok]
        cases d with
        | interface ms => exact absurd rfl (hd ms)
        | _ => simp
      · refine ResOK.same (v' := .tuple #[v', .bool true]) hr (by simpa using VR.tuple (.cons hv (.cons (.gr rfl) .nil))) ?_
        simp only [execOp, ho, h1, Instr.typeAssert, Sem.run_bind, run_under ht, Result.andThen_ok]
        cases d with
        | interface ms => exact absurd rfl (hd ms)
        | _ => simp
    · rename_i hu
      split
      · rename_i hok
        subst hok
        refine ResOK.same (v' := .tuple #[z, .bool false]) hr (.gr (by simp [ground, groundA, groundL, hzg])) ?_
        simp only [execOp, ho, h1, Instr.typeAssert, Sem.run_bind, run_under ht, Result.andThen_ok]
        cases d with
        | interface ms => exact absurd rfl (hd ms)
        | _ => simp [hu, run_zero hz]
      · trivial
  · rename_i hx
    have h1 := he x; rw [hx] at h1
    have h1 := h1.eq_ground rfl
    split
    · rename_i hok
      subst hok
      refine ResOK.same (v' := .tuple #[z, .bool false]) hr (.gr (by simp [ground, groundA, groundL, hzg])) ?_
      simp only [execOp, ho, h1, Instr.typeAssert, Sem.run_bind, run_under ht, Result.andThen_ok]
      cases d with
      | interface ms => exact absurd rfl (hd ms)
      | _ => simp [run_zero hz]
    · trivial
  · trivial

theorem add_AR {g : Gh} {a a' : Addr} (ha : AR g a a') (n : Nat) : AR g ⟨a.block, a.off + n, none⟩ (a'.add n) := by
  refine ⟨ha.1, fun x hx => ?_⟩
  rw [ha.2 x hx]
  unfold Addr.add
  split
  · rename_i hn; simp [hn]
  · simp [Nat.add_assoc]

theorem ok_fieldAddr {s : TypeId} {x : Operand} {f : Nat} {fs : Array Field} {fd : Field} {n : Nat} (ho : o.op = .fieldAddr s x f) (hs : P.underlying s = some (.struct fs)) (hf : fs[f]? = some fd)
    (hn : sizeT P fd.type = some n) (h0 : n ≠ 0) : OpOK P o (.fieldAddr fd.offset x) := by
  intro g h B w0 w e e' hr he
  simp only [xop]
  split
  · rename_i a hx
    have h1 := he x; rw [hx] at h1
    obtain ⟨a', h1, har⟩ := h1.pointer
    refine ResOK.same (v' := .pointer (some (a'.add fd.offset))) hr (.ptr ?_) ?_
    · by_cases h2 : fd.offset = 0
      · have := add_AR har fd.offset
        rw [if_pos h2]
        refine ⟨har.1, fun y hy => ?_⟩
        rw [this.2 y hy]; simp [h2]
      · rw [if_neg h2]; exact add_AR har _
    · simp [execOp, ho, h1, Instr.fieldAt, run_under hs, hf, Instr.sureAddr, fieldPlace, run_size hn, h0]
  · trivial

theorem idx_some {len j : Nat} {v : Value} (h : idx len v = some j) : ∃ k i, v = .int k i ∧ 0 ≤ i ∧ i < len ∧ i.toNat = j := by
  unfold idx at h
  split at h
  · rename_i k i
    split at h
    · rename_i hi; cases h; exact ⟨k, i, rfl, hi.1, hi.2, rfl⟩
    · cases h
  · cases h

theorem ok_indexArr {t : TypeId} {x i : Operand} {n s : Nat} {el : TypeId} (ho : o.op = .indexAddr t x i) (ht : P.underlying t = some (.array n el)) (hs : sizeT P el = some s) : OpOK P o (.indexArr n s x i) := by
  intro g h B w0 w e e' hr he
  simp only [xop]
  split
  · rename_i a j hx hj
    obtain ⟨k, q, hq, h0, hlt, hj⟩ := idx_some hj
    have h1 := he x; rw [hx] at h1
    obtain ⟨a', h1, har⟩ := h1.pointer
    have h2 := he i; rw [hq] at h2; have h2 := h2.int
    refine ResOK.same (v' := .pointer (some (a'.add (q.toNat * s)))) hr (.ptr (by rw [← hj]; exact add_AR har _)) ?_
    simp [execOp, ho, h1, h2, Instr.indexAt, asIntOf, run_under ht, Instr.sureAddr, h0, hlt, run_size hs]
  · trivial

theorem ok_indexSl {t : TypeId} {x i : Operand} {s : Nat} {el : TypeId} (ho : o.op = .indexAddr t x i) (ht : P.underlying t = some (.slice el)) (hs : sizeT P el = some s) : OpOK P o (.indexSl s x i) := by
  intro g h B w0 w e e' hr he
  simp only [xop]
  split
  · rename_i a len cap hx
    split
    · rename_i j hj
      obtain ⟨k, q, hq, h0, hlt, hj⟩ := idx_some hj
      have h1 := he x; rw [hx] at h1
      obtain ⟨a', c', h1, har, _⟩ := h1.slice
      have h2 := he i; rw [hq] at h2; have h2 := h2.int
      refine ResOK.same (v' := .pointer (some (a'.add (q.toNat * s)))) hr (.ptr (by rw [← hj]; exact add_AR har _)) ?_
      simp [execOp, ho, h1, h2, Instr.indexAt, asIntOf, run_under ht, h0, hlt, run_size hs]
    · trivial
  · trivial

end
end Go.Vm
