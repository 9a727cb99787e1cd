/- A small machine over an abstract heap: functions without a body. -/
import Derived.Test.YtoadcfjkkoemdaaVm16
set_option linter.unusedSimpArgs false
namespace Go.Vm
open Go.RowKit

section
variable {P : Program} {o : Oper}

theorem loadBytes_run {w : World} : ∀ (l : List Value) (s : List UInt8) (a : Addr) (acc : ByteArray), bytesOf l = some s → (∀ (j : Nat) (v : Value), l[j]? = some v → w.cell? (a.add j) = some v) →
    (Extern.Bytes.loadBytes a l.length acc).run P w = .ok ⟨⟨acc.data.toList ++ s⟩⟩ w
  | [], s, a, acc, h, _ => by simp [bytesOf] at h; subst h; simp [Extern.Bytes.loadBytes]
  | v :: l, s, a, acc, h, hc => by
    cases v with
    | int k n =>
      cases k <;> simp [bytesOf] at h
      obtain ⟨s', h', rfl⟩ := h
      have h0 : w.cell? a = some (.int .u8 n) := by
        have := hc 0 _ rfl
        simpa [Addr.add] using this
      have ih := loadBytes_run (w := w) l s' (a.add 1) (acc.push n.toNat.toUInt8) h' (fun j y hy => by
        have := hc (j + 1) y (by simpa using hy)
        have e : (a.add 1).add j = a.add (j + 1) := by
          unfold Addr.add
          by_cases hj : j = 0
          · subst hj; simp
          · simp [hj]; omega
        rw [e]; exact this)
      simp only [List.length_cons, Extern.Bytes.loadBytes, Sem.run_bind, run_load, h0, Result.andThen_ok]
      rw [ih]
      simp [ByteArray.push]
    | _ => simp [bytesOf] at h

theorem bytesV_run {g : Gh} {h : Heap} {B : Nat} {w0 w : World} (hr : HR g h B w0 w) {v v' : Value} (hv : VR g v v') {s : List UInt8} (hs : bytesV h v = some s) : (Extern.Bytes.bytesOf v').run P w = .ok ⟨⟨s⟩⟩ w := by
  unfold bytesV at hs
  split at hs
  · cases hs
    rw [hv.string]
    simp [Extern.Bytes.bytesOf]
  · cases hs
    rw [hv.eq_ground rfl]
    simp [Extern.Bytes.bytesOf]
    rfl
  · rename_i a n c
    obtain ⟨a', c', rfl, har, _⟩ := hv.slice
    obtain ⟨cs, hc, hb⟩ := Option.bind_eq_some_iff.1 hs
    have hlen := cellsAt_length hc
    unfold cellsAt at hc
    by_cases hn0 : n = 0
    · subst hn0
      rw [if_pos rfl] at hc
      cases hc
      simp [bytesOf] at hb
      subst hb
      simp [Extern.Bytes.bytesOf, Extern.Bytes.loadBytes]
      rfl
    rw [if_neg hn0] at hc
    split at hc
    · rename_i d hd
      split at hc
      · rename_i hle
        cases hc
        obtain ⟨x, hx, c'', el, fz, h1, h4, h6⟩ := hr.of_read hd
        obtain rfl := har.at hx
        have h7 := (h6.drop a.off).take n
        rw [List.drop_take, List.drop_drop, List.take_take] at h7
        rw [show min n (d.length - a.off) = n from by omega] at h7
        have heq := bytes_vr h7 hb
        have := loadBytes_run (P := P) (w := w) ((d.drop a.off).take n) s ⟨x.b, x.sh + a.off, none⟩ .empty hb (fun j v hj => by
          have hadd : (⟨x.b, x.sh + a.off, none⟩ : Addr).add j = ⟨x.b, x.sh + a.off + j, none⟩ := by unfold Addr.add; split <;> simp_all
          rw [hadd]
          rw [← heq, List.getElem?_take] at hj
          split at hj
          · rw [List.getElem?_drop] at hj
            simp only [World.cell?, h1]
            simpa using hj
          · cases hj)
        rw [hlen] at this
        simp only [Extern.Bytes.bytesOf, this]
        simp [ByteArray.empty, ByteArray.emptyWithCapacity]
        rfl
      · cases hc
    · cases hc
  · cases hs

theorem extName_compare {n : String} (h : extName n = some .compare) : n = "internal/bytealg.Compare" := by
  unfold extName at h
  split at h
  · assumption
  · split at h <;> cases h
theorem extName_index {n : String} (h : extName n = some .indexByte) : n = "internal/bytealg.IndexByteString" := by
  unfold extName at h
  split at h
  · cases h
  · split at h
    · assumption
    · cases h

theorem find_compare {fn : Func} (h : fn.name = "internal/bytealg.Compare") : Extern.find fn = some Extern.BytealgCompare.compare := by
  unfold Extern.find
  rw [h]
  rfl
theorem find_index {fn : Func} (h : fn.name = "internal/bytealg.IndexByteString") : Extern.find fn = some Extern.BytealgIndexByte.indexByte := by
  unfold Extern.find
  rw [h]
  rfl

theorem compare_eq (a b : Value) : Extern.BytealgCompare.compare ⟨[a, b]⟩ = (do pure (goInt (Extern.BytealgCompare.cmp (← Extern.Bytes.bytesOf a) (← Extern.Bytes.bytesOf b))) : Sem Value) := rfl
theorem indexByte_eq (a c : Value) : Extern.BytealgIndexByte.indexByte ⟨[a, c]⟩ = (do
    let b ← Extern.Bytes.bytesOf a
    let c ← Extern.Bytes.asByte c
    match (List.range b.size).find? fun i => b[i]! == c with
    | some i => pure (goInt i)
    | none => pure (goInt (-1)) : Sem Value) := rfl

theorem extV_run {g : Gh} {h : Heap} {B : Nat} {w0 w : World} (hr : HR g h B w0 w) {k : ExtK} {fn : Func} (hn : extName fn.name = some k) (hb : fn.body.isNone = true) (hx : Extern.findNext fn = none) {f : FuncId} (hf : P.funcs[f]? = some fn)
    {args args' : List Value} (hv : VRL g args args') {v : Value} (he : extV h k args = some v) : (callFunc f ⟨args'⟩).run P w = .ok (.value v) w ∧ VR g v v := by
  have hname : (fn.name == "runtime.NumGoroutine") = false := by
    cases k with
    | compare => rw [extName_compare hn]; rfl
    | indexByte => rw [extName_index hn]; rfl
  have hcall : ∀ e : Array Value → Sem Value, Extern.find fn = some e → (callFunc f ⟨args'⟩).run P w = ((e ⟨args'⟩).run P w).andThen fun v w' => .ok (.value v) w' := by
    intro e he
    simp only [callFunc, Sem.run_bind, run_program, Result.andThen_ok, hf, hname, Bool.false_eq_true, if_false, hb, if_true, run_mark, hx, he]
    rfl
  unfold extV at he
  split at he
  · rename_i a b
    cases hv with
    | cons h1 hv => cases hv with
      | cons h2 hv => cases hv with
        | nil =>
          split at he
          · rename_i x y hx' hy'
            cases he
            refine ⟨?_, .gr rfl⟩
            rw [hcall _ (find_compare (extName_compare hn))]
            simp only [compare_eq, Sem.run_bind, bytesV_run hr h1 hx', bytesV_run hr h2 hy', Result.andThen_ok, Sem.run_pure, goInt]
          · cases he
  · rename_i b c
    cases hv with
    | cons h1 hv => cases hv with
      | cons h2 hv => cases hv with
        | nil =>
          have h2 := h2.int
          subst h2
          split at he
          · rename_i x hx'
            split at he
            · rename_i i hi
              cases he
              refine ⟨?_, .gr rfl⟩
              rw [hcall _ (find_index (extName_index hn))]
              simp only [indexByte_eq, Extern.Bytes.asByte, Sem.run_bind, bytesV_run hr h1 hx', Result.andThen_ok, Sem.run_pure, hi, goInt]
            · rename_i hi
              cases he
              refine ⟨?_, .gr rfl⟩
              rw [hcall _ (find_index (extName_index hn))]
              simp only [indexByte_eq, Extern.Bytes.asByte, Sem.run_bind, bytesV_run hr h1 hx', Result.andThen_ok, Sem.run_pure, hi, goInt]
          · cases he
  · cases he

theorem ok_ext {c : Call} {f : Operand} {args : List Operand} {k : ExtK} (ho : o.op = .call c) (hcl : c.callee = .value f) (hargs : c.args.toList = args) : OpOK P o (.ext k f args) := by
  intro g h B w0 w e e' hr he
  simp only [xop]
  split
  · rename_i fid hf
    split
    · rename_i hk
      split
      · rename_i v hv
        unfold extFn at hk
        split at hk
        · rename_i fn hfn
          split at hk
          · rename_i hb
            simp only [Bool.and_eq_true, Option.isNone_iff_eq_none] at hb
            have hfv := he f
            rw [hf] at hfv
            obtain ⟨first', captured', hf', h1, h2⟩ := hfv.func_inv
            cases h1
            cases h2
            have hav : VRL g (args.map e) (args.map e') := VRL.map fun x _ => he x
            obtain ⟨hrun, hvr⟩ := extV_run (P := P) hr hk (by simp [hb.1]) hb.2 hfn hav hv
            refine ResOK.same (v' := v) hr hvr ?_
            simp only [execOp, ho, resolve, hcl]
            rw [show c.args.map e' = ⟨args.map e'⟩ from by rw [← hargs]; apply Array.ext'; simp]
            simp only [hf', Deferred.ofValue, Sem.run_bind, Sem.run_pure, Result.andThen_ok, invoke]
            simpa using hrun
          · cases hk
        · cases hk
      · trivial
    · trivial
  · trivial

end
end Go.Vm
