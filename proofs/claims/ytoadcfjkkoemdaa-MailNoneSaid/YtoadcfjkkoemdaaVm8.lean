/- A small machine over an abstract heap: its operations answer as the model's do (4). -/
import Derived.Test.YtoadcfjkkoemdaaVm7
import Derived.Laws.IdiomStrings
namespace Go.Vm
open Go.RowKit

section
variable {P : Program} {o : Oper} {op : AOp}

theorem sliceOf_cases {e : Operand → Value} {size : Nat} {v : Value} {lo hi mx : Option Operand} {h : Heap} : (∃ u h', sliceOf e size v lo hi mx h = .ok u h') ∨ sliceOf e size v lo hi mx h = .bad := by
  unfold sliceOf
  repeat' split
  all_goals first | exact .inr rfl | exact .inl ⟨_, _, rfl⟩

theorem ok_sliceSl {t el : TypeId} {s : Nat} {x : Operand} {lo hi mx : Option Operand} (ho : o.op = .slice t x lo hi mx) (ht : P.underlying t = some (.slice el)) (hs : sizeT P el = some s)
    (hmh : mx.isSome = true → hi.isSome = true) : OpOK P o (.sliceSl s x lo hi mx) := by
  intro g h B w0 w e e' hr he
  simp only [xop]
  rcases sliceOf_cases (e := e) (size := s) (v := e x) (lo := lo) (hi := hi) (mx := mx) (h := h) with ⟨u, h', hv⟩ | hv
  · rw [hv]
    have hx := he x
    cases hex : e x with
    | slice base len cap =>
      rw [hex] at hv hx
      have hb : ∃ base' cap', e' x = .slice base' len cap' ∧ cap ≤ cap' := by
        cases base with
        | none => exact ⟨none, cap, hx.eq_ground rfl, Nat.le_refl _⟩
        | some a => obtain ⟨a', c', h1, _, h2, _⟩ := hx.slice; exact ⟨_, _, h1, h2⟩
      obtain ⟨base', cap', hb', hle⟩ := hb
      rw [hb'] at hx
      obtain ⟨m, r, l, h1, h2, h3, rfl, hvr⟩ := slice_value hr hv hx
      refine ResOK.same hr hvr ?_
      have hbr := bounds_run (P := P) he true (len := len) hle hmh h1 h2 h3 w
      simp only [execOp, ho, Instr.sliceAt, Sem.run_bind, run_under ht, Result.andThen_ok, Instr.slice, hb', hbr, run_size hs, Sem.run_pure]
    | _ => rw [hex] at hv; simp [sliceOf] at hv
  · rw [hv]; trivial

theorem sliceArr_core {g : Gh} {h : Heap} {B : Nat} {w0 w : World} (hr : HR g h B w0 w) {e e' : Operand → Value} (he : ∀ x, VR g (e x) (e' x)) {n s : Nat} {a a' : Addr} (har : AR g a a') {lo hi : Option Operand} {u : Value} {h' : Heap}
    (hv : sliceOf e s (.slice (some ⟨a.block, a.off, none⟩) n n) lo hi none h = .ok u h') :
    ∃ r l, (Instr.sliceBounds false n n (lo.map e') (hi.map e') none).run P w = .ok (l, r, n) w ∧ h' = h ∧ VR g u (.slice (some (if n = l then a' else a'.add (l * s))) (r - l) (n - l)) := by
  obtain ⟨m, r, l, h1, h2, h3, rfl, hvr⟩ := slice_value (base' := some a') (cap' := n) hr hv (.sl rfl ⟨har.1, har.2⟩)
  have hbr := bounds_run (P := P) he false (len := n) (mx := none) (Nat.le_refl n) (by simp) h1 h2 h3 w
  simp only [Option.map_none, Option.isSome_none, Bool.false_eq_true, if_false] at hbr hvr
  refine ⟨r, l, hbr, rfl, ?_⟩
  have : (if n = l then some a' else Option.map (fun x => x.add (l * s)) (some a')) = some (if n = l then a' else a'.add (l * s)) := by split <;> rfl
  rw [this] at hvr
  exact hvr

theorem ok_sliceArr {t el : TypeId} {n s : Nat} {x : Operand} {lo hi : Option Operand} (ho : o.op = .slice t x lo hi none)
    (ht : P.underlying t = some (.array n el) ∨ ∃ a, P.underlying t = some (.pointer a) ∧ P.underlying a = some (.array n el)) (hs : sizeT P el = some s) : OpOK P o (.sliceArr n s x lo hi) := by
  intro g h B w0 w e e' hr he
  simp only [xop]
  split
  · rename_i a hx
    have h1 := he x; rw [hx] at h1
    obtain ⟨a', h1, har⟩ := h1.pointer
    rcases sliceOf_cases (e := e) (size := s) (v := .slice (some ⟨a.block, a.off, none⟩) n n) (lo := lo) (hi := hi) (mx := none) (h := h) with ⟨u, h', hv⟩ | hv
    · obtain ⟨r, l, hb, rfl, hvr⟩ := sliceArr_core (P := P) hr he har hv
      rw [hv]
      refine ResOK.same hr hvr ?_
      rcases ht with ht | ⟨p, ht, hp⟩
      · simp only [execOp, ho, Instr.sliceAt, Sem.run_bind, run_under ht, Result.andThen_ok, h1, Instr.sureAddr, Option.map_none, hb, run_size hs, Sem.run_pure]
      · simp only [execOp, ho, Instr.sliceAt, Sem.run_bind, run_under ht, Result.andThen_ok, h1, Instr.slice, asAddr, run_under hp, Option.map_none, hb, run_size hs, Sem.run_pure]
    · rw [hv]; trivial
  · trivial

theorem ok_sliceStr {t : TypeId} {x : Operand} {lo hi : Option Operand} (ho : o.op = .slice t x lo hi none) (ht : P.underlying t = some .string) : OpOK P o (.sliceStr x lo hi) := by
  intro g h B w0 w e e' hr he
  simp only [xop]
  split
  · rename_i s hx
    have h1 := he x; rw [hx] at h1; have h1 := h1.string
    split
    · trivial
    · rename_i r hh
      split
      · trivial
      · rename_i l hl
        refine ResOK.same (v' := .string (s.extract l r)) hr (.gr rfl) ?_
        have hb := bounds_run (P := P) (len := s.size) (cap := s.size) (m := s.size) (mx := none) he false (Nat.le_refl s.size) (by simp) rfl hh hl w
        simp only [Option.map_none, Option.isSome_none, Bool.false_eq_true, if_false] at hb
        simp [execOp, ho, Instr.sliceAt, run_under ht, h1, Instr.slice, hb]
  · trivial

theorem bytes_vr {g : Gh} : ∀ {l l' : List Value} {s : List UInt8}, VRL g l l' → bytesOf l = some s → l' = l
  | [], _, _, .nil, _ => rfl
  | v :: l, _, s, .cons hv hl, h => by
    cases v with
    | int k n =>
      cases k <;> simp [bytesOf] at h
      obtain ⟨s', h', _⟩ := h
      rw [hv.int, bytes_vr hl h']
    | _ => simp [bytesOf] at h

theorem bytes_loop (P : Program) (w : World) : ∀ (l : List Value) (s : List UInt8) (acc : ByteArray), bytesOf l = some s →
    (forIn (m := Sem) l acc (fun c s => do
      let .int .u8 n := c | stuck "bytesToString: byte expected"
      pure (ForInStep.yield (s.push (UInt8.ofNat n.toNat))))).run P w = .ok ⟨⟨acc.data.toList ++ s⟩⟩ w
  | [], s, acc, h => by simp [bytesOf] at h; subst h; simp
  | v :: l, s, acc, h => by
    cases v with
    | int k n =>
      cases k <;> simp [bytesOf] at h
      obtain ⟨s', h', rfl⟩ := h
      simp only [List.forIn_cons, Sem.run_bind, Sem.run_pure, Result.andThen_ok]
      rw [bytes_loop P w l s' _ h']
      simp [ByteArray.push]
    | _ => simp [bytesOf] at h

theorem ok_bytesToStr {src dst el : TypeId} {x : Operand} (ho : o.op = .convert src dst x) (hs : P.underlying src = some (.slice el)) (hd : P.underlying dst = some .string) (hel : P.underlying el = some (.int .u8)) :
    OpOK P o (.bytesToStr x) := by
  intro g h B w0 w e e' hr he
  simp only [xop]
  split
  · rename_i n c hx
    have h1 := he x; rw [hx] at h1; have h1 := h1.eq_ground rfl
    refine ResOK.same (v' := .string .empty) hr (.gr rfl) ?_
    simp [execOp, ho, convert, run_under hs, run_under hd, h1, run_under hel, Conv.bytesToString]
  · rename_i a n c hx
    have h1 := he x; rw [hx] at h1
    obtain ⟨a', c', h1, har, _⟩ := h1.slice
    split
    · rename_i s hb
      obtain ⟨cs, hc, hbs⟩ := Option.bind_eq_some_iff.1 hb
      obtain ⟨cs', hrun, hvr⟩ := loadCells_sound (P := P) hr hc har rfl rfl
      obtain rfl := bytes_vr hvr hbs
      refine ResOK.same (v' := .string ⟨⟨s⟩⟩) hr (.gr rfl) ?_
      have hl := bytes_loop P w cs' s .empty hbs
      simp only [execOp, ho, convert, Sem.run_bind, run_under hs, run_under hd, Result.andThen_ok, h1, run_under hel, Conv.bytesToString, hrun]
      rw [← Array.forIn_toList]
      simp only
      erw [hl]
      simp [ByteArray.empty, ByteArray.emptyWithCapacity]
      rfl
    · trivial
  · trivial

end
end Go.Vm
