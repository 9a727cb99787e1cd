/- A small machine over an abstract heap: its operations answer as the model's do (9): iterators, ==, all of them. -/
import Derived.Test.YtoadcfjkkoemdaaVm15
set_option linter.unusedSimpArgs false
namespace Go.Vm
open Go.RowKit

section
variable {P : Program} {o : Oper} {op : AOp}

theorem ok_rangeStr {t : TypeId} {x : Operand} (ho : o.op = .range t x) (ht : P.underlying t = some .string) : OpOK P o (.rangeStr x) := by
  intro g h B w0 w e e' hr he
  simp only [xop]
  split
  · rename_i s hx
    have h1 := he x; rw [hx] at h1; have h1 := h1.string
    have h4 := hr.push (o := .strIter s 0) (o' := .stringIter s 0) (es := 0) (tot := 0) ⟨by simp, rfl⟩
    refine ⟨_, .pointer (some ⟨w.heap.size, 0, none⟩), _, _, ?_, .inl rfl, Le.push _ _, h4, .ptr (AR_new hr)⟩
    simp [execOp, ho, Instr.range, run_under ht, h1]
  · trivial

theorem ok_rangeMap {t kt el : TypeId} {x : Operand} (ho : o.op = .range t x) (ht : P.underlying t = some (.map kt el)) : OpOK P o (.rangeMap x) := by
  intro g h B w0 w e e' hr he
  simp only [xop]
  split
  · rename_i hm
    rcases mapAt_cases hr hm (he x) with ⟨_, h1⟩ | ⟨r, r', es, es', clock, y, h1, _⟩
    · have h4 := hr.push (o := .mapIter none 0 [] 0) (o' := .mapIter none 0 #[] 0) (es := 0) (tot := 0) ⟨none, by simp, trivial, rfl⟩
      refine ⟨_, .pointer (some ⟨w.heap.size, 0, none⟩), _, _, ?_, .inl rfl, Le.push _ _, h4, .ptr (AR_new hr)⟩
      simp [execOp, ho, Instr.range, run_under ht, h1]
    · cases h1
  · rename_i r0 es0 cl0 hm
    rcases mapAt_cases hr hm (he x) with ⟨h1, _⟩ | ⟨r, r', es, es', clock, y, h1, h2, h3, h4, h5, h6, h7, h8⟩
    · cases h1
    · cases h1
      have hlt := (List.getElem?_eq_some_iff.1 h4).1
      have hn := hr.push (o := .mapIter (some r0) cl0 [] cl0) (o' := .mapIter (some r') cl0 #[] cl0) (es := 0) (tot := 0) ⟨some r', by simp, by
        refine ⟨by simp; omega, fun z hz => ?_⟩
        rw [List.getElem?_append_left hlt, h4] at hz
        cases hz; exact h5.symm, rfl⟩
      refine ⟨_, .pointer (some ⟨w.heap.size, 0, none⟩), _, _, ?_, .inl rfl, Le.push _ _, hn, .ptr (AR_new hr)⟩
      simp [execOp, ho, Instr.range, run_under ht, h2, run_getObj_map h6]
  · trivial

theorem HR.of_obj {g : Gh} {h : Heap} {B : Nat} {w0 w : World} (hr : HR g h B w0 w) {r : Nat} {ob : AObj} (hg : h.get r = ob) (hd : ob ≠ .dead) : ∃ x, g[r]? = some (some x) ∧ OR g w x ob := by
  by_cases hx : ∃ x, g[r]? = some (some x)
  · obtain ⟨x, hx⟩ := hx
    have := (hr.alive r x hx).2.2
    rw [hg] at this
    exact ⟨x, hx, this⟩
  · have := hr.dead r fun x hx' => hx ⟨x, hx'⟩
    rw [hg] at this; exact absurd this hd

theorem ok_nextStr {it : Operand} (ho : o.op = .next it true) : OpOK P o (.nextStr it) := by
  intro g h B w0 w e e' hr he
  simp only [xop]
  split
  · rename_i r hx
    have h1 := he it; rw [hx] at h1
    obtain ⟨a', h1, har⟩ := h1.pointer
    split
    · rename_i s pos hg
      obtain ⟨x, hgx, hob, hsh⟩ := hr.of_obj hg (by simp)
      have ha' := har.2 x hgx
      simp only [hsh, Nat.add_zero] at ha'
      subst ha'
      have hget : (getObj x.b).run P w = .ok (.stringIter s pos) w := by simp [getObj, Sem.run, hob]
      split
      · rename_i hpos
        have hset := run_setObj (P := P) (o' := .stringIter s (pos + (Utf8.decode s pos).2)) hob (by simp)
        refine ⟨g, .tuple #[.bool true, .int .i64 pos, .int .i32 (Utf8.decode s pos).1], withBlock w x.b (.stringIter s (pos + (Utf8.decode s pos).2)), _, ?_, .inl rfl, Le.refl _, hr.set hgx (by rw [hg]; rfl) rfl rfl rfl rfl ⟨heap_withBlock hob, hsh⟩, .gr (by simp [ground, groundA, groundL])⟩
        simp [execOp, ho, Instr.next, h1, hget, hpos, hset, goInt]
      · rename_i hpos
        refine ResOK.same (v' := .tuple #[.bool false]) hr (.gr (by simp [ground, groundA, groundL])) ?_
        simp [execOp, ho, Instr.next, h1, hget, hpos]
    · trivial
  · trivial

theorem ERL.find {g : Gh} (stamp : Nat) : ∀ {l l' : List MapEntry}, ERL g l l' → ∀ {e : MapEntry}, l.find? (fun en => en.born == stamp) = some e → ∃ e', l'.find? (fun en => en.born == stamp) = some e' ∧ ER g e e'
  | _, _, .nil, e, h => by simp at h
  | a :: l, a' :: l', .cons ha ht, e, h => by
    rw [List.find?_cons] at h ⊢
    rw [ha.2.2]
    cases hb : (a.born == stamp) with
    | true => rw [hb] at h; cases h; exact ⟨a', rfl, ha⟩
    | false => rw [hb] at h; exact ERL.find stamp ht h

theorem ok_entryMap {it : Operand} (ho : o.op = .entry it) : OpOK P o (.entryMap it) := by
  intro g h B w0 w e e' hr he
  simp only [xop]
  split
  · rename_i r hx
    have h1 := he it; rw [hx] at h1
    obtain ⟨a', h1, har⟩ := h1.pointer
    split
    · rename_i m since seen stepped hg
      split
      · rename_i stamp es clock hsl hgm
        split
        · rename_i hcl
          split
          · rename_i en hen
            obtain ⟨x, hgx, m', hob, hmr, hsh⟩ := hr.of_obj hg (by simp)
            have ha' := har.2 x hgx
            simp only [hsh, Nat.add_zero] at ha'
            subst ha'
            cases m' with
            | none => simp [MR] at hmr
            | some m' =>
              have hbr : BR g m m' := hmr
              obtain ⟨y, es', hy, hyb, hmo, her, _⟩ := hr.of_map hgm hbr
              obtain ⟨en', hen', hee⟩ := her.find stamp hen
              have hget : (getObj x.b).run P w = .ok (.mapIter (some m') since ⟨seen⟩ stepped) w := by simp [getObj, Sem.run, hob]
              have hgetm : (getObj m').run P w = .ok (.map ⟨es'⟩ clock) w := run_getObj_map hmo
              refine ResOK.same (v' := .tuple #[en'.key, en'.val]) hr (.tuple (.cons hee.1 (.cons hee.2.1 .nil))) ?_
              have hback : (⟨seen⟩ : Array Nat).back? = some stamp := by simp [Array.back?, hsl, ← List.getLast?_eq_getElem?]
              have hfind : (⟨es'⟩ : Array MapEntry).find? (fun e => e.born == stamp) = some en' := by simpa using hen'
              simp only [execOp, ho, Instr.entry, h1, Sem.run_bind, hget, Result.andThen_ok, hback, hgetm, hfind]
              simp [hcl]
          · trivial
        · trivial
      · trivial
    · trivial
  · trivial

/-! ### == -/

theorem frozen_alive {g : Gh} {w : World} {x : GB} {c : List Value} {es : Nat} (hc : CellsR g w x c es) {off : Nat} (ho : off < c.length) : w.frozen? ⟨x.b, x.sh + off, none⟩ = false := by
  obtain ⟨c', el, fz, h1, h2, h3, h4, h5, h7, h6⟩ := hc
  simp only [World.frozen?, h1]
  exact h5 _ (by omega)

theorem sameAddr_run {g : Gh} {h : Heap} {B : Nat} {w0 w : World} (hr : HR g h B w0 w) {a b a' b' : Addr} (ha : alive h a = true) (hb : alive h b = true) (har : AR g a a') (hbr : AR g b b') :
    (sameAddr a' b').run P w = .ok (a.block == b.block && a.off == b.off) w := by
  have key : ∀ {a a' : Addr}, alive h a = true → AR g a a' → ∃ x c es, g[a.block]? = some (some x) ∧ CellsR g w x c es ∧ a.off < c.length ∧ es ≠ 1 ∧ (h.get a.block).isRo = false ∧ a' = ⟨x.b, x.sh + a.off, none⟩ := by
    intro a a' ha har
    unfold alive at ha
    split at ha
    · rename_i c es hg
      obtain ⟨x, hx, hcr⟩ := hr.of_cells hg
      simp only [Bool.and_eq_true, decide_eq_true_eq, bne_iff_ne, ne_eq] at ha
      exact ⟨x, c, es, hx, hcr, ha.1, ha.2, by rw [hg]; rfl, har.2 x hx⟩
    · cases ha
  obtain ⟨x, c, es, hx, hcx, hlx, hex, hxo1, rfl⟩ := key ha har
  obtain ⟨y, d, fs, hy, hdy, hly, hey, hyo1, rfl⟩ := key hb hbr
  by_cases hbl : a.block = b.block
  · rw [hbl] at hx
    rw [hx] at hy; cases hy
    have e1 : ((⟨x.b, x.sh + a.off, none⟩ : Addr) == ⟨x.b, x.sh + b.off, none⟩) = (a.off == b.off) := by
      by_cases h0 : a.off = b.off
      · simp [h0]
      · rw [beq_eq_false_iff_ne.2 h0, beq_eq_false_iff_ne]
        intro h1; injection h1; omega
    simp [sameAddr, hbl, e1]
  · have hne : x.b ≠ y.b := fun h1 => hbl (hr.inj _ _ x y (hr.own hx (hxo1)) hx hy h1)
    have hf1 := frozen_alive hcx hlx
    obtain ⟨c', el, fz, h1, h2, h3, h4, h5, h7, h6⟩ := hcx
    obtain ⟨d', el2, fz2, k1, k2, k3, k4, k5, k7, k6⟩ := hdy
    have hz1 := h7 hex
    have hz2 := k7 hey
    subst hz1 hz2
    have hs1 : w.shape? x.b = some (el, c'.size) := by simp [World.shape?, h1]
    have hs2 : w.shape? y.b = some (el2, d'.size) := by simp [World.shape?, k1]
    have hfr : ∀ q s, w.frozen? ⟨x.b, q, s⟩ = false := fun q s => by simp [World.frozen?, h1]
    have hfr2 : ∀ q s, w.frozen? ⟨y.b, q, s⟩ = false := fun q s => by simp [World.frozen?, k1]
    simp [sameAddr, hne, hfr, hfr2, noView, viewAt, hs1, hs2, mayBeOne, stringish, hbl]

def eqTy (P : Program) (t : TypeId) : EqKind → Prop
  | .ptr => ∃ el n, P.underlying t = some (.pointer el) ∧ sizeT P el = some (n + 1)
  | .slice => ∃ el, P.underlying t = some (.slice el)
  | .map => ∃ k el, P.underlying t = some (.map k el)
  | .func => ∃ a b c, P.underlying t = some (.func a b c)
  | .iface => ∃ ms, P.underlying t = some (.interface ms)

theorem eqv_run {g : Gh} {h : Heap} {B : Nat} {w0 w : World} (hr : HR g h B w0 w) {t : TypeId} {kind : EqKind} (ht : eqTy P t kind) {u v u' v' : Value} {b : Bool} (hb : eqv h kind u v = some b) (hu : VR g u u') (hv : VR g v v') (x y : Operand) (bo : BinOp) (hbo : bo = .eql ∨ bo = .neq) :
    (∀ d, (Op.equalIn (d + 1) t u' v').run P w = .ok b w) ∧ (eqGuard bo t x y u' v').run P w = .ok () w ∧ (bo = .eql → binOp bo t u' v' = (do pure (.bool (← Op.equal t u' v')))) ∧ (bo = .neq → binOp bo t u' v' = (do pure (.bool (!(← Op.equal t u' v'))))) := by
  have isl : ∀ {a : Addr} {n c : Nat} {u' : Value}, VR g (.slice (some a) n c) u' → ∃ a' c', u' = .slice (some a') n c' := fun h => by obtain ⟨a', c', h1, _⟩ := h.slice; exact ⟨a', c', h1⟩
  have ifn : ∀ {f : Fn} {p q : Array Value} {u' : Value}, VR g (.func f p q) u' → ∃ f' p' q', u' = .func f' p' q' := fun h => by
    cases h with
    | gr _ => exact ⟨_, _, _, rfl⟩
    | yield _ => exact ⟨_, _, _, rfl⟩
    | func _ _ => exact ⟨_, _, _, rfl⟩
  have gd : ∀ (u' v' : Value), (∀ (p : u' = .nilIface ∧ v' = .nilIface), False) → (∀ a b, u' = .agg a → v' = .agg b → False) → (eqGuard bo t x y u' v').run P w = .ok () w := by
    intro u' v' h1 h2
    rcases hbo with rfl | rfl <;>
      (unfold eqGuard
       simp only [Bool.not_true, Bool.false_eq_true, if_false]
       split
       · exact absurd (h1 ⟨rfl, rfl⟩) id
       · exact absurd (h2 _ _ rfl rfl) id
       · rfl)
  unfold eqv at hb
  split at hb
  · rename_i q
    obtain ⟨el, n, ht, hs⟩ := ht
    cases hb
    have h1 := hu.eq_ground rfl; subst h1
    cases q with
    | none =>
      have h2 := hv.eq_ground rfl; subst h2
      exact ⟨by (intro d; simp only [Op.equalIn, Sem.run_bind, run_under ht, Result.andThen_ok]; rfl), gd _ _ (by simp) (by simp), fun h => by subst h; rfl, fun h => by subst h; rfl⟩
    | some a =>
      obtain ⟨a', h2, _⟩ := hv.pointer; subst h2
      exact ⟨by (intro d; simp only [Op.equalIn, Sem.run_bind, run_under ht, Result.andThen_ok]; rfl), gd _ _ (by simp) (by simp), fun h => by subst h; rfl, fun h => by subst h; rfl⟩
  · obtain ⟨el, n, ht, hs⟩ := ht
    cases hb
    obtain ⟨a', h2, _⟩ := hu.pointer; subst h2
    have h1 := hv.eq_ground rfl; subst h1
    exact ⟨by (intro d; simp only [Op.equalIn, Sem.run_bind, run_under ht, Result.andThen_ok]; rfl), gd _ _ (by simp) (by simp), fun h => by subst h; rfl, fun h => by subst h; rfl⟩
  · rename_i a c
    obtain ⟨el, n, ht, hs⟩ := ht
    split at hb
    · rename_i hal
      simp only [Bool.and_eq_true] at hal
      cases hb
      obtain ⟨a', h1, har⟩ := hu.pointer; subst h1
      obtain ⟨b', h2, hbr⟩ := hv.pointer; subst h2
      have := sameAddr_run (P := P) hr hal.1 hal.2 har hbr
      exact ⟨by (intro d; simp only [Op.equalIn, Sem.run_bind, run_under ht, Result.andThen_ok, run_size hs]; simpa using this), gd _ _ (by simp) (by simp), fun h => by subst h; rfl, fun h => by subst h; rfl⟩
    · cases hb
  · rename_i n c q m d
    obtain ⟨el, ht⟩ := ht
    cases hb
    have h1 := hu.eq_ground rfl; subst h1
    cases q with
    | none =>
      have h2 := hv.eq_ground rfl; subst h2
      exact ⟨by (intro d; simp only [Op.equalIn, Sem.run_bind, run_under ht, Result.andThen_ok]; rfl), gd _ _ (by simp) (by simp), fun h => by subst h; rfl, fun h => by subst h; rfl⟩
    | some a =>
      obtain ⟨a', c', h2⟩ := isl hv; subst h2
      exact ⟨by (intro d; simp only [Op.equalIn, Sem.run_bind, run_under ht, Result.andThen_ok]; rfl), gd _ _ (by simp) (by simp), fun h => by subst h; rfl, fun h => by subst h; rfl⟩
  · obtain ⟨el, ht⟩ := ht
    cases hb
    obtain ⟨a', c', h2⟩ := isl hu; subst h2
    have h1 := hv.eq_ground rfl; subst h1
    exact ⟨by (intro d; simp only [Op.equalIn, Sem.run_bind, run_under ht, Result.andThen_ok]; rfl), gd _ _ (by simp) (by simp), fun h => by subst h; rfl, fun h => by subst h; rfl⟩
  · rename_i q
    obtain ⟨kt, el, ht⟩ := ht
    cases hb
    have h1 := hu.eq_ground rfl; subst h1
    cases q with
    | none =>
      have h2 := hv.eq_ground rfl; subst h2
      exact ⟨by (intro d; simp only [Op.equalIn, Sem.run_bind, run_under ht, Result.andThen_ok]; rfl), gd _ _ (by simp) (by simp), fun h => by subst h; rfl, fun h => by subst h; rfl⟩
    | some a =>
      obtain ⟨a', h2, _⟩ := hv.map_inv; subst h2
      exact ⟨by (intro d; simp only [Op.equalIn, Sem.run_bind, run_under ht, Result.andThen_ok]; rfl), gd _ _ (by simp) (by simp), fun h => by subst h; rfl, fun h => by subst h; rfl⟩
  · obtain ⟨kt, el, ht⟩ := ht
    cases hb
    obtain ⟨a', h2, _⟩ := hu.map_inv; subst h2
    have h1 := hv.eq_ground rfl; subst h1
    exact ⟨by (intro d; simp only [Op.equalIn, Sem.run_bind, run_under ht, Result.andThen_ok]; rfl), gd _ _ (by simp) (by simp), fun h => by subst h; rfl, fun h => by subst h; rfl⟩
  · obtain ⟨p1, p2, p3, ht⟩ := ht
    cases hb
    have h1 := hu.eq_ground rfl; subst h1
    have h2 := hv.eq_ground rfl; subst h2
    exact ⟨by (intro d; simp only [Op.equalIn, Sem.run_bind, run_under ht, Result.andThen_ok]; rfl), gd _ _ (by simp) (by simp), fun h => by subst h; rfl, fun h => by subst h; rfl⟩
  · obtain ⟨p1, p2, p3, ht⟩ := ht
    cases hb
    have h1 := hu.eq_ground rfl; subst h1
    obtain ⟨f', p', q', h2⟩ := ifn hv; subst h2
    exact ⟨by (intro d; simp only [Op.equalIn, Sem.run_bind, run_under ht, Result.andThen_ok]; rfl), gd _ _ (by simp) (by simp), fun h => by subst h; rfl, fun h => by subst h; rfl⟩
  · obtain ⟨p1, p2, p3, ht⟩ := ht
    cases hb
    obtain ⟨f', p', q', h2⟩ := ifn hu; subst h2
    have h1 := hv.eq_ground rfl; subst h1
    exact ⟨by (intro d; simp only [Op.equalIn, Sem.run_bind, run_under ht, Result.andThen_ok]; rfl), gd _ _ (by simp) (by simp), fun h => by subst h; rfl, fun h => by subst h; rfl⟩
  · obtain ⟨ms, ht⟩ := ht
    cases hb
    have h1 := hu.eq_ground rfl; subst h1
    obtain ⟨q, h2, _⟩ := hv.iface_inv; subst h2
    exact ⟨by (intro d; simp only [Op.equalIn, Sem.run_bind, run_under ht, Result.andThen_ok]; rfl), gd _ _ (by simp) (by simp), fun h => by subst h; rfl, fun h => by subst h; rfl⟩
  · obtain ⟨ms, ht⟩ := ht
    cases hb
    obtain ⟨q, h2, _⟩ := hu.iface_inv; subst h2
    have h1 := hv.eq_ground rfl; subst h1
    exact ⟨by (intro d; simp only [Op.equalIn, Sem.run_bind, run_under ht, Result.andThen_ok]; rfl), gd _ _ (by simp) (by simp), fun h => by subst h; rfl, fun h => by subst h; rfl⟩
  · cases hb

theorem ok_eq {bo : BinOp} {t yt : TypeId} {x y : Operand} {kind : EqKind} (ho : o.op = .binOp bo t x y yt) (hbo : bo = .eql ∨ bo = .neq) (ht : eqTy P t kind) : OpOK P o (.eq kind (isNeq bo) (slim o) x y) := by
  intro g h B w0 w e e' hr he
  simp only [xop, eqOpV]
  split
  · rename_i b hb
    obtain ⟨h0, h2, h3, h4⟩ := eqv_run (P := P) hr ht hb (he x) (he y) x y bo hbo
    have h1 : (Op.equal t (e' x) (e' y)).run P w = .ok b w := h0 9999
    rcases hbo with rfl | rfl
    · refine ResOK.same (v' := .bool b) hr (by simp only [isNeq, Bool.false_bne]; exact .gr rfl) ?_
      simp only [execOp, ho, Sem.run_bind, h2, Result.andThen_ok, h3 rfl, h1, Sem.run_pure]
    · refine ResOK.same (v' := .bool !b) hr (by simp only [isNeq, Bool.true_bne]; exact .gr rfl) ?_
      simp only [execOp, ho, Sem.run_bind, h2, Result.andThen_ok, h4 rfl, h1, Sem.run_pure]
  · rw [← execOp_slim e' o]
    exact raw_sound hr he (slim o) (fun cs b => by simp [slim, ho])

end
end Go.Vm
