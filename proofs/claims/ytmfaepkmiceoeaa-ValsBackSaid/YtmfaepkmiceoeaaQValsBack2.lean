/- Contracts of functions, over the machine. -/
import Derived.Test.YtmfaepkmiceoeaaQValsBack1
import Derived.Test.YtmfaepkmiceoeaaVJ
import Derived.Test.YtmfaepkmiceoeaaVK
noncomputable section
namespace Go.Proofs.Ytmfaepkmiceoeaa.A
open Go Go.Vm
set_option maxRecDepth 10000
set_option linter.unusedVariables false
abbrev z4 : List Value := [.int .u8 0, .int .u8 0, .int .u8 0, .int .u8 0]
abbrev zb4 : List UInt8 := [0, 0, 0, 0]
theorem four {l : List UInt8} (h : l.length = 4) : ∃ a b c d, l = [a, b, c, d] := by
  match l, h with
  | [a, b, c, d], _ => exact ⟨a, b, c, d, rfl⟩
abbrev k4 (a b c d : UInt8) : List Value := [.int .u8 a.toNat, .int .u8 b.toNat, .int .u8 c.toNat, .int .u8 d.toNat]
theorem bcells4 (a b c d : UInt8) : bcells [a, b, c, d] = [.int .u8 a.toNat, .int .u8 b.toNat, .int .u8 c.toNat, .int .u8 d.toNat] := rfl
theorem Key11_ok {h : Heap} {v : Value} {l : List UInt8} (hr : Rd h 1 v (bcells l) l.length) (hl : l.length = 4) :
    Runs Try.prog T0 (.fn fn_zhbQ) [v] h (fun r h' => r = .agg ⟨bcells l⟩ ∧ Fr (fun _ => False) h h') (fun _ _ => False) := by
  obtain ⟨a, cap, rfl, hlen, hc⟩ := hr
  obtain ⟨b, o, sp, rfl, hb, hcc⟩ := hc (by omega)
  rw [Nat.mul_one, hl] at hcc
  obtain ⟨a1, a2, a3, a4, rfl⟩ := four hl
  rw [bcells4] at hcc ⊢
  refine zhbQ_runs ?_
  refine stp ?_
  refine O.how (XOp.mkArrayAt (by omega)) ?_
  haveI : Cells (h.push (.cells z4 0)) b o 4 [.int .u8 a1.toNat, .int .u8 a2.toNat, .int .u8 a3.toNat, .int .u8 a4.toNat] := ⟨by rw [cellsAt_keep (S := fun _ => False) Fr.refl.push hb id]; exact hcc⟩
  refine stp ?_
  exact ⟨rfl, Fr.refl.push⟩
theorem takeK_ok {h : Heap} {p : Nat} {sv : Value} {bs : List UInt8} {pl : Nat} {fa a0 : Int} (hr : PR h p sv bs pl 0 fa) :
    Runs Try.prog T0 (.fn fn_zvbQ) [.pointer (some ⟨p, 0, none⟩), .int .i64 4, .int .i64 a0, .func (.func fn_zhbQ) ⟨[]⟩ ⟨[]⟩] h
      (fun r h' => pl + 4 ≤ bs.length ∧ r = .agg ⟨bcells ((bs.drop pl).take 4)⟩ ∧ PR h' p sv bs (pl + 4) 0 fa ∧ Fr (fun i => i = p) h h')
      (fun c h' => bs.length < pl + 4 ∧ c = thrown 6 a0 ∧ PR h' p sv bs pl 0 fa ∧ Fr (fun i => i = p) h h') := by
  have hr' := hr.none (Fr.refl.push (o := .cells z4 0))
  have hr0 := hr
  obtain ⟨hle, hsm, hp, hget, hown, hnot⟩ := hr
  obtain ⟨a, cap, rfl, hlen, _⟩ := hown.rd
  haveI : HGet h p _ := ⟨hget⟩
  haveI : BLt p h := ⟨hp⟩
  refine zvbQ_runs ?_
  refine stp ?_
  refine D.callX must_ok (fun v h' hv => rfl) (fun v h' hv => ?_) (fun c h' hx => ⟨rfl, ?_⟩)
  · obtain ⟨hle2, rfl⟩ := hv
    have hle2 := of_decide_eq_true hle2
    refine stp ?_
    have hp2 := hr'.turn (pl' := pl + 4) (e' := 0) (fa' := fa) (by omega)
    refine D.slice pl (pl + 4) (by omega) hp2.own (by omega) (by omega) (by omega) (by omega) (fun v' hbl hrd => ?_)
    rw [Nat.mul_one, Nat.mul_one, bcells_drop, bcells_take, Nat.add_sub_cancel_left] at hrd
    have hl : ((bs.drop pl).take 4).length = 4 := by rw [List.length_take, List.length_drop]; omega
    have hf0 : Fr (fun i => i = p) h ((h.push (.cells z4 0)).set p (.cells [.slice a bs.length cap, .int .i64 ↑(pl + 4), .int .i64 0, .int .i64 fa, .bool true] 0)) := Fr.refl.push.set fun _ => rfl
    generalize hL : (bs.drop pl).take 4 = L at hl hrd ⊢
    refine D.callX (Key11_ok (l := L) (by rw [hl]; exact hrd) hl) (fun _ _ _ => rfl) (fun r h2 hr => ?_) (fun _ _ hx => hx.elim)
    obtain ⟨rfl, hf⟩ := hr
    obtain ⟨a1, a2, a3, a4, rfl⟩ := four hl
    rw [bcells4]
    haveI : HGet h2 h.n _ := hf.keep (b := h.n) (HGet.set (k := ⟨by omega⟩) (g := HGet.new)) (by simp) id
    refine stp ?_
    refine ⟨by omega, rfl, (hp2.none hf).keep (S := fun i => i = h.n) (Fr.refl.set fun _ => rfl) (by omega) fun i hi hn => ?_, ?_⟩
    · have := hown.lt hi
      omega
    · refine Fr.set (Fr.trans (S := fun i => i = p) (S' := fun _ => False) hf0 hf fun _ _ h => h.elim) fun hlt => ?_
      omega
  · obtain ⟨hlt, rfl, rfl⟩ := hx
    have hlt := of_decide_eq_false hlt
    refine stp ?_
    exact ⟨by omega, rfl, hr', Fr.refl.push⟩
theorem Key1_ok {h : Heap} {p a : Nat} {sv : Value} {bs : List UInt8} {pl : Nat} (hr : PR h p sv bs pl 0 0) [ha : HGet h a (.cells [.pointer (some ⟨p, 0, none⟩)] 0)] (ha' : a < h.n) :
    Runs Try.prog T0 (.fn fn_zgbQ) [.int .i64 pl, .pointer (some ⟨a, 0, none⟩)] h
      (fun r h' => ∃ l pl', partS 4 bs pl = .ok (l, pl') ∧ (r = .agg ⟨bcells l⟩ ∧ l.length = 4) ∧ PR h' p sv bs pl' 0 0 ∧ Fr (fun i => i = p) h h')
      (fun c h' => ∃ e pl', partS 4 bs pl = .error e ∧ e ≠ 0 ∧ c = thrown e pl ∧ PR h' p sv bs pl' 0 0 ∧ Fr (fun i => i = p) h h') := by
  have hp := hr.lt
  have hr' := hr.none (Fr.refl.push (o := .cells z4 0))
  haveI : BLt a h := ⟨ha'⟩
  refine zgbQ_runs ?_
  refine stp ?_
  refine O.callX (takeK_ok hr') (fun r h1 hr1 => ?_) (fun c h1 hx => ?_)
  · obtain ⟨hle, rfl, hp1, hf1⟩ := hr1
    have hl : ((bs.drop pl).take 4).length = 4 := by rw [List.length_take, List.length_drop]; omega
    generalize hL : (bs.drop pl).take 4 = L at hl ⊢
    obtain ⟨a1, a2, a3, a4, rfl⟩ := four hl
    rw [bcells4]
    haveI : HGet h1 h.n _ := hf1.keep (b := h.n) HGet.new (by simp) (by omega)
    refine stp ?_
    refine ⟨[a1, a2, a3, a4], pl + 4, by unfold partS; rw [if_neg (by omega), hL], ⟨rfl, rfl⟩, hp1.keep (S := fun i => i = h.n) (Fr.refl.set fun _ => rfl) (by omega) fun i hi hn => ?_, ?_⟩
    · have := hr.own.lt hi
      omega
    · exact Fr.set (Fr.trans (S := fun i => i = p) Fr.refl.push hf1 fun _ _ h => h) fun hlt => by omega
  · obtain ⟨hlt, rfl, hp1, hf1⟩ := hx
    refine stp ?_
    exact ⟨6, pl, by unfold partS; rw [if_pos (by omega)], by omega, rfl, hp1, Fr.trans (S := fun i => i = p) Fr.refl.push hf1 fun _ _ h => h⟩
theorem readsK_ok {h : Heap} {p : Nat} {sv : Value} {bs : List UInt8} {pl : Nat} {fid : FuncId} {first captured : List Value} {S : Nat → Except Int (List UInt8 × Nat)} (hr : PR h p sv bs pl 0 0)
    (hm : Runs Try.prog T0 (.fn fid) (first ++ [.int .i64 pl] ++ captured) (h.push (.cells z4 0)) (fun r h' => ∃ l pl', S pl = .ok (l, pl') ∧ (r = .agg ⟨bcells l⟩ ∧ l.length = 4) ∧ PR h' p sv bs pl' 0 0 ∧ Fr (fun i => i = p) (h.push (.cells z4 0)) h')
      (fun c h' => ∃ e pl', S pl = .error e ∧ e ≠ 0 ∧ c = thrown e pl ∧ PR h' p sv bs pl' 0 0 ∧ Fr (fun i => i = p) (h.push (.cells z4 0)) h')) :
    Runs Try.prog T0 (.fn fn_ztbQ) [.pointer (some ⟨p, 0, none⟩), .func (.func fid) ⟨first⟩ ⟨captured⟩] h (Reads h p sv bs (rd S zb4 ⟨pl, 0, 0⟩) fun l r h' => r = .agg ⟨bcells l⟩ ∧ l.length = 4) (fun _ _ => False) := by
  haveI : HGet h p _ := ⟨hr.get⟩
  haveI : BLt p h := ⟨hr.lt⟩
  have hp := hr.lt
  refine ztbQ_runs ?_
  refine stp ?_
  refine O.callX hm (fun r h1 hr1 => ?_) (fun c h1 hx => ?_)
  · obtain ⟨l, pl', hS, ⟨rfl, hl⟩, hp1, hf⟩ := hr1
    obtain ⟨a1, a2, a3, a4, rfl⟩ := four hl
    rw [bcells4]
    haveI : HGet h1 h.n _ := hf.keep (b := h.n) HGet.new (by simp) (by omega)
    refine stp ?_
    refine caught_none.mono (fun u' h' hu => ?_) (fun _ _ _ hx => hx.elim)
    obtain ⟨rfl, rfl⟩ := hu
    refine L.nil (rd_ok hS ?_ ⟨rfl, rfl⟩ (hp1.keep (S := fun i => i = h.n) (Fr.refl.set fun _ => rfl) (by omega) fun i hi hn => ?_))
    · exact Fr.set (Fr.trans (S := fun i => i = p) Fr.refl.push hf fun _ _ h => h) fun hlt => by omega
    · have := hr.own.lt hi
      omega
  · obtain ⟨e, pl', hS, he, rfl, hp1, hf⟩ := hx
    refine stp ?_
    refine (caught_ok hp1).mono (fun u' h' hu => ?_) (fun _ _ _ hx => hx.elim)
    obtain ⟨hs, hp2, hf2⟩ := hu
    rw [hs]
    haveI : HGet h' h.n _ := (hf.trans' hf2).keep (b := h.n) HGet.new (by simp) (by omega)
    exact L.nil (rd_err hS he (Fr.trans (S := fun i => i = p) Fr.refl.push (hf.trans' hf2) fun _ _ h => h) ⟨rfl, rfl⟩ hp2)
theorem readsK_bad {h : Heap} {p : Nat} {sv : Value} {bs : List UInt8} {pl : Nat} {e fa : Int} {f : Value} (hr : PR h p sv bs pl e fa) (he : e ≠ 0) :
    Runs Try.prog T0 (.fn fn_ztbQ) [.pointer (some ⟨p, 0, none⟩), f] h (fun r h' => r = .agg ⟨z4⟩ ∧ Fr (fun _ => False) h h') (fun _ _ => False) := by
  haveI : HGet h p _ := ⟨hr.get⟩
  haveI : BLt p h := ⟨hr.lt⟩
  refine ztbQ_runs ?_
  refine stp ?_
  refine C.ifB (fun h1 => ?_) (fun h1 => ?_)
  · refine stp ?_
    exact ⟨rfl, Fr.refl.push⟩
  · exfalso; simp at h1; exact he h1
theorem Key_run {h : Heap} {p : Nat} {sv : Value} {bs : List UInt8} {st : RSt} (hp : PRs h p sv bs st) :
    Runs Try.prog T0 (.fn fn_zfbQ) [.pointer (some ⟨p, 0, none⟩)] h (Reads h p sv bs (rd (partS 4 bs) zb4 st) fun l r _ => r = .agg ⟨bcells l⟩ ∧ l.length = 4) (fun _ _ => False) := by
  obtain ⟨st1, e, fa⟩ := st
  obtain ⟨pl, h1, h2⟩ := hp.ex
  have hlt := h2.lt
  refine zfbQ_runs ?_
  refine stp ?_
  have hf0 : Fr (fun i => i = p) h ((h.push (AObj.cells [Value.pointer (some ⟨p, 0, none⟩)] 0)).push (AObj.cells z4 0)) := Fr.refl.push.push
  by_cases he : e = 0
  · subst he
    obtain ⟨rfl, h3⟩ := h1 rfl
    have h3 : fa = 0 := h3
    subst h3
    refine O.call' (readsK_ok (S := partS 4 bs) (h2.none Fr.refl.push.push) (Key1_ok (h2.none Fr.refl.push.push.push) (by simp; omega))) (fun r h' hq => ?_)
    obtain ⟨hf, ⟨rfl, hl⟩, hp'⟩ := hq
    generalize (rd (partS 4 bs) zb4 ⟨pl, 0, 0⟩) = q at *
    obtain ⟨L, st2⟩ := q
    simp only at hl hp' ⊢
    obtain ⟨a1, a2, a3, a4, rfl⟩ := four hl
    rw [bcells4]
    haveI : HGet h' (h.push (AObj.cells [Value.pointer (some ⟨p, 0, none⟩)] 0)).n _ := hf.keep (b := (h.push (AObj.cells [Value.pointer (some ⟨p, 0, none⟩)] 0)).n) HGet.new (by simp) (by simp; omega)
    refine stp ?_
    refine ⟨Fr.set (hf0.trans' hf) fun hlt => by simp at hlt; omega, ⟨rfl, rfl⟩, hp'.keep (S := fun i => i = (h.push (AObj.cells [Value.pointer (some ⟨p, 0, none⟩)] 0)).n) (Fr.refl.set fun _ => rfl) (by simp; omega) fun i hi hn => ?_⟩
    have := h2.own.lt hi
    simp at hn; omega
  · refine O.call' (readsK_bad (h2.none Fr.refl.push.push) he) (fun r h' hq => ?_)
    obtain ⟨rfl, hf⟩ := hq
    haveI : HGet h' (h.push (AObj.cells [Value.pointer (some ⟨p, 0, none⟩)] 0)).n _ := hf.keep (b := (h.push (AObj.cells [Value.pointer (some ⟨p, 0, none⟩)] 0)).n) HGet.new (by simp) id
    refine stp ?_
    refine rd_bad he (Fr.set (hf0.trans' (hf.mono fun _ _ h => h.elim)) fun hlt => by simp at hlt; omega) ⟨rfl, rfl⟩ (((hp.none Fr.refl.push.push).none hf).keep (S := fun i => i = (h.push (AObj.cells [Value.pointer (some ⟨p, 0, none⟩)] 0)).n) (Fr.refl.set fun _ => rfl) (by simp; omega) fun i hi hn => ?_)
    have := h2.own.lt hi
    simp at hn; omega
end Go.Proofs.Ytmfaepkmiceoeaa.A

namespace Go.Proofs.Ytmfaepkmiceoeaa.A
open Go Go.Vm
set_option maxRecDepth 10000
set_option linter.unusedVariables false
structure Val where
  k0 : UInt8
  k1 : UInt8
  k2 : UInt8
  k3 : UInt8
  p : Int
deriving DecidableEq
abbrev Val.key (v : Val) : List UInt8 := [v.k0, v.k1, v.k2, v.k3]
abbrev Val.cells (v : Val) : List Value := [.int .u8 v.k0.toNat, .int .u8 v.k1.toNat, .int .u8 v.k2.toNat, .int .u8 v.k3.toNat, .int .i64 v.p]
abbrev zVal : Val := ⟨0, 0, 0, 0, 0⟩
def Val.of (l : List UInt8) (p : Int) : Val := ⟨l.getD 0 0, l.getD 1 0, l.getD 2 0, l.getD 3 0, p⟩
def vcells (l : List Val) : List Value := l.flatMap Val.cells
theorem vcells_nil : vcells [] = [] := rfl
theorem vcells_cons (v : Val) (l : List Val) : vcells (v :: l) = v.cells ++ vcells l := rfl
theorem vcells_append (l m : List Val) : vcells (l ++ m) = vcells l ++ vcells m := by simp [vcells]
theorem vcells_len : ∀ l : List Val, (vcells l).length = l.length * 5
  | [] => rfl
  | v :: l => by rw [vcells_cons, List.length_append, vcells_len l]; simp; omega
theorem vcells_at : ∀ {l : List Val} {k : Nat}, k < l.length → ((vcells l).drop (k * 5)).take 5 = (l.getD k zVal).cells
  | v :: l, 0, _ => by rw [vcells_cons]; rfl
  | v :: l, k + 1, h => by
    have := vcells_at (l := l) (k := k) (by simpa using h)
    rw [vcells_cons, show (k + 1) * 5 = v.cells.length + k * 5 from by simp; omega, ← List.drop_drop, List.drop_left]
    exact this
theorem val_cells {h : Heap} {b o n k : Nat} {l : List Val} (hc : cellsAt h b o (n * 5) = some (vcells l)) (hn : l.length = n) (hk : k < n) : Cells h b (o + k * 5) 5 (l.getD k zVal).cells := ⟨by
  rw [cellsAt_sub hc (by omega), vcells_at (by omega)]⟩
theorem val_key {h : Heap} {b o n k : Nat} {l : List Val} (hc : cellsAt h b o (n * 5) = some (vcells l)) (hn : l.length = n) (hk : k < n) : Cells h b (o + k * 5) 4 [.int .u8 (l.getD k zVal).k0.toNat, .int .u8 (l.getD k zVal).k1.toNat, .int .u8 (l.getD k zVal).k2.toNat, .int .u8 (l.getD k zVal).k3.toNat] := ⟨by
  have h5 := (val_cells hc hn hk).eq
  have := cellsAt_sub (k := 0) (m := 4) h5 (by omega)
  simpa using this⟩
theorem val_power {h : Heap} {b o n k : Nat} {l : List Val} (hc : cellsAt h b o (n * 5) = some (vcells l)) (hn : l.length = n) (hk : k < n) : Cell h b (o + k * 5 + 4) (.int .i64 (l.getD k zVal).p) := ⟨by
  have h5 := (val_cells hc hn hk).eq
  have := cellsAt_sub (k := 4) (m := 1) h5 (by omega)
  simpa using this⟩
def stepsV (least : Int) : Option Val → List Val → Int
  | _, [] => 0
  | last, v :: l => if (match last with | none => false | some x => !keyLt x.key v.key) = true then 9 else if v.p < least ∨ 4611686018427387904 < v.p then 3 else stepsV least (some v) l
def checkV (l : List Val) : Int := if l.length = 0 then 6 else if 64 < l.length then 4 else stepsV 1 none l
def lastV (l : List Val) (k : Nat) : Option Val := if k = 0 then none else some (l.getD (k - 1) zVal)
theorem drop_getD {l : List Val} {k : Nat} (hk : k < l.length) : l.drop k = l.getD k zVal :: l.drop (k + 1) := by
  rw [List.drop_eq_getElem_cons hk]
  simp [List.getD, hk]
theorem stepsV_at {least : Int} {l : List Val} {k : Nat} (hk : k < l.length) : stepsV least (lastV l k) (l.drop k) =
    if (match lastV l k with | none => false | some x => !keyLt x.key (l.getD k zVal).key) = true then 9 else if (l.getD k zVal).p < least ∨ 4611686018427387904 < (l.getD k zVal).p then 3 else stepsV least (lastV l (k + 1)) (l.drop (k + 1)) := by
  rw [drop_getD hk]
  rfl
def atS (x : Val) (begun : Bool) (least most : Int) (v : Val) : Int := if (begun && !keyLt x.key v.key) = true then 9 else if v.p < least ∨ most < v.p then 3 else 0
theorem stepsV_atS {least : Int} {l : List Val} {k : Nat} {x : Val} (hk : k < l.length) (hx : 0 < k → lastV l k = some x) :
    stepsV least (lastV l k) (l.drop k) = if atS x (decide (0 < k)) least 4611686018427387904 (l.getD k zVal) = 0 then stepsV least (lastV l (k + 1)) (l.drop (k + 1)) else atS x (decide (0 < k)) least 4611686018427387904 (l.getD k zVal) := by
  rw [stepsV_at hk]
  by_cases h0 : 0 < k
  · rw [hx h0]
    unfold atS
    simp only [decide_eq_true h0, Bool.true_and]
    split
    · rfl
    · split
      · rfl
      · rfl
  · obtain rfl : k = 0 := by omega
    unfold atS
    simp only [lastV, if_true, Nat.lt_irrefl, decide_false, Bool.false_and, Bool.false_eq_true, if_false]
    split
    · rfl
    · rfl
def stepV (bs : List UInt8) : Nat → List Val × RSt → List Val × RSt
  | 0, y => y
  | k + 1, y =>
    let a := rd (partS 4 bs) zb4 (stepV bs k y).2
    let b := rd (numS bs) 0 a.2
    ((stepV bs k y).1 ++ [Val.of a.1 (b.1 : Nat)], b.2)
def decV (bs : List UInt8) : List Val × Int × Int :=
  let n := rd (numS bs) 0 ⟨0, 0, 0⟩
  if 64 < n.1 then ([], (4, 0)) else
    let y := stepV bs n.1 ([], n.2)
    let f := endS bs y.2
    let g := if f = (0, 0) then (checkV y.1, 0) else f
    if g = (0, 0) then (y.1, (0, 0)) else ([], g)
theorem stepV_len (bs : List UInt8) (y : List Val × RSt) : ∀ k, (stepV bs k y).1.length = y.1.length + k
  | 0 => rfl
  | k + 1 => by
    show ((stepV bs k y).1 ++ [_]).length = _
    rw [List.length_append, stepV_len bs y k]
    simp
    omega
end Go.Proofs.Ytmfaepkmiceoeaa.A

namespace Go.Proofs.Ytmfaepkmiceoeaa.A
open Go Go.Vm
set_option maxRecDepth 10000
set_option linter.unusedVariables false
theorem Compare_ok {h : Heap} {v w : Value} {a b : List UInt8} {n m : Nat} (h1 : Rd h 1 v (bcells a) n) (h2 : Rd h 1 w (bcells b) m) :
    Runs Try.prog T0 (.fn fn_zaQ) [v, w] h (fun r h' => r = .int .i64 (cmpB a b) ∧ h' = h) (fun _ _ => False) := by
  have h1' := h1
  have h2' := h2
  obtain ⟨a0, c0, rfl, _, _⟩ := h1
  obtain ⟨a1, c1, rfl, _, _⟩ := h2
  refine zaQ_runs ?_
  refine stp ?_
  refine O.how (XOp.mkCompare h1' h2' (by kernel_rfl)) ?_
  refine stp ?_
  exact ⟨rfl, rfl⟩
abbrev lookC (x : Val) (begun : Bool) (least most : Int) : List Value := [.int .u8 x.k0.toNat, .int .u8 x.k1.toNat, .int .u8 x.k2.toNat, .int .u8 x.k3.toNat, .bool begun, .int .i64 least, .int .i64 most]
theorem at_ok {h : Heap} {q : Nat} {x v : Val} {begun : Bool} {least most : Int} (hg : h.get q = .cells (lookC x begun least most) 0) (hq : q < h.n) :
    Runs Try.prog T0 (.fn fn_zuQ) [.pointer (some ⟨q, 0, none⟩), .agg ⟨v.cells⟩] h (fun r h' => r = .int .i64 (atS x begun least most v) ∧ h'.get q = .cells (lookC v true least most) 0 ∧ Fr (fun i => i = q) h h') (fun _ _ => False) := by
  haveI : HGet h q _ := ⟨hg⟩
  haveI : BLt q h := ⟨hq⟩
  have fin : ∀ {c : List Value} {o : AObj}, c = lookC v true least most → (((h.push o).set q (.cells c 0)).get q = .cells (lookC v true least most) 0 ∧ Fr (fun i => i = q) h ((h.push o).set q (.cells c 0))) := fun hc => ⟨by rw [Heap.get_set, if_pos rfl, hc], Fr.refl.push.set fun _ => rfl⟩
  refine zuQ_runs ?_
  refine stp ?_
  cases begun with
  | true =>
    refine stp ?_
    refine D.callT (Compare_ok (a := x.key) (b := v.key) (Rd.mk (n := 4) (by simp; omega) ?_) (Rd.mk (n := 4) (by simp) ?_)) (fun _ _ _ => rfl) (fun r h1 hr => ?_)
    · rw [cellsAt_of (c := lookC x true least most) (by rw [Heap.get_push, if_neg (by omega), hg]; rfl) (by simp)]
      rfl
    · rw [cellsAt_of (c := v.cells) (by rw [Heap.get_push, if_pos rfl]; rfl) (by simp)]
      rfl
    obtain ⟨rfl, rfl⟩ := hr
    refine stp ?_
    have hk : keyLt x.key v.key = decide (cmpB x.key v.key < 0) := rfl
    unfold atS
    refine C.if (fun hge => ?_) (fun hlt => ?_)
    · refine stp ?_
      rw [if_pos (by rw [hk, decide_eq_false (by omega)]; rfl)]
      exact ⟨rfl, fin rfl⟩
    · refine stp ?_
      rw [if_neg (by rw [hk, decide_eq_true (by omega)]; simp)]
      refine D.dec (fun h1 => ?_) (fun h1 => ?_)
      · refine stp ?_
        rw [if_pos (.inl h1)]
        exact ⟨rfl, fin rfl⟩
      · refine stp ?_
        refine C.if (fun h2 => ?_) (fun h2 => ?_)
        · refine stp ?_
          rw [if_pos (.inr h2)]
          exact ⟨rfl, fin rfl⟩
        · refine stp ?_
          rw [if_neg (by omega)]
          exact ⟨rfl, fin rfl⟩
  | false =>
    refine stp ?_
    unfold atS
    rw [if_neg (by simp)]
    refine D.dec (fun h1 => ?_) (fun h1 => ?_)
    · refine stp ?_
      rw [if_pos (.inl h1)]
      exact ⟨rfl, fin rfl⟩
    · refine stp ?_
      refine C.if (fun h2 => ?_) (fun h2 => ?_)
      · refine stp ?_
        rw [if_pos (.inr h2)]
        exact ⟨rfl, fin rfl⟩
      · refine stp ?_
        rw [if_neg (by omega)]
        exact ⟨rfl, fin rfl⟩
end Go.Proofs.Ytmfaepkmiceoeaa.A

namespace Go.Proofs.Ytmfaepkmiceoeaa.A
open Go Go.Vm
set_option maxRecDepth 10000
set_option linter.unusedVariables false
theorem VCheck_ok {h : Heap} {v : Value} {l : List Val} (hv : Rd h 5 v (vcells l) l.length) :
    Runs Try.prog T0 (.fn fn_znQ) [v] h (fun r h' => r = .int .i64 (checkV l) ∧ Fr (fun _ => False) h h') (fun _ _ => False) := by
  obtain ⟨a, cap, rfl, hlen, hc⟩ := hv
  refine znQ_runs ?_
  refine stp ?_
  unfold checkV
  refine C.if (fun h0 => ?_) (fun h0 => ?_)
  · refine stp ?_
    rw [if_pos (by omega)]
    exact ⟨rfl, Fr.refl⟩
  rw [if_neg (by omega)]
  refine stp ?_
  refine C.if (fun h1 => ?_) (fun h1 => ?_)
  · refine stp ?_
    rw [if_pos (by omega)]
    exact ⟨rfl, Fr.refl⟩
  rw [if_neg (by omega)]
  obtain ⟨b, o, sp, rfl, hb, hcc⟩ := hc (by omega)
  refine stp ?_
  refine znQ_l0_rule (fun m v18 h' => ∃ k : Nat, k ≤ l.length ∧ m = l.length - k ∧ v18 = .int .i64 k ∧ (∃ x : Val, h'.get h.n = .cells (lookC x (decide (0 < k)) 1 4611686018427387904) 0 ∧ (0 < k → lastV l k = some x)) ∧ h.n < h'.n ∧ Fr (fun _ => False) h h' ∧ stepsV 1 none l = stepsV 1 (lastV l k) (l.drop k)) ?_ l.length ⟨0, by omega, rfl, rfl, ⟨zVal, ?_, by omega⟩, by simp, ?_, rfl⟩
  · rintro m v18 h' x2 x5 x6 x19 x20 x21 x22 x23 x24 x25 x26 x27 ⟨k, hk, rfl, rfl, ⟨x, hg, hx⟩, hn, hf, hst⟩
    refine stp ?_
    refine C.if (fun hlt => ?_) (fun hge => ?_)
    · have hlt : k < l.length := by omega
      have hcc' : cellsAt h' b o (l.length * 5) = some (vcells l) := by rw [cellsAt_keep hf hb id]; exact hcc
      haveI := val_cells hcc' rfl hlt
      refine stp ?_
      refine O.call' (at_ok (x := x) (v := l.getD k zVal) (begun := decide (0 < k)) (by rw [Heap.get_push, if_neg (by omega), hg]) (by simp; omega)) (fun r h2 hr => ?_)
      obtain ⟨rfl, hg2, hf2⟩ := hr
      have hn2 := hf2.n
      simp only [Heap.n_push] at hn2
      have hfh : Fr (fun _ => False) h h2 := Fr.trans (S := fun _ => False) hf (Fr.trans (S := fun i => i = h.n) Fr.refl.push hf2 fun i _ hi => hi) fun i hi ho => by omega
      refine stp ?_
      refine C.ifN (fun he => ?_) (fun he => ?_)
      · refine stp ?_
        rw [hst, stepsV_atS hlt hx, if_neg he]
        exact ⟨rfl, hfh⟩
      · refine stp ?_
        refine znQ_l0_again (l.length - (k + 1)) (by omega) ⟨k + 1, by omega, rfl, rfl, ⟨l.getD k zVal, by rw [hg2, decide_eq_true (show 0 < k + 1 by omega)], fun _ => rfl⟩, by omega, hfh, ?_⟩
        rw [hst, stepsV_atS hlt hx, if_pos he]
    · obtain rfl : k = l.length := by omega
      refine stp ?_
      rw [hst, List.drop_length]
      exact ⟨rfl, hf⟩
  · rw [Heap.get_push, if_pos rfl]
    rfl
  · exact Fr.refl.push
end Go.Proofs.Ytmfaepkmiceoeaa.A

namespace Go.Proofs.Ytmfaepkmiceoeaa.A
open Go Go.Vm
set_option maxRecDepth 10000
set_option linter.unusedVariables false
theorem putS_fit {lim : Nat} {part : List UInt8} {bs : List UInt8} (h : bs.length + part.length ≤ lim) : putS lim true part ⟨bs, 0⟩ = ⟨bs ++ part, 0⟩ := by
  unfold putS
  rw [if_neg (by simp), if_neg (by simp), if_neg (by simp only; omega)]
end Go.Proofs.Ytmfaepkmiceoeaa.A

namespace Go.Proofs.Ytmfaepkmiceoeaa.A
open Go Go.Vm
set_option maxRecDepth 10000
set_option linter.unusedVariables false
structure PVs (h : Heap) (S : Nat → Prop) (p lim : Nat) (st : WSt) : Prop where
  ex : ∃ sv, PW h 0 p sv st.bs lim st.e ∧ S p ∧ ∀ i, ownedBy sv i → S i
theorem PVs.mk' {h : Heap} {S : Nat → Prop} {p lim : Nat} {bs : List UInt8} {e : Int} {sv : Value} (hp : S p) (ho : ∀ i, ownedBy sv i → S i) (hw : PW h 0 p sv bs lim e) : PVs h S p lim ⟨bs, e⟩ := ⟨sv, hw, hp, ho⟩
def WritesV (h : Heap) (S : Nat → Prop) (p lim : Nat) (st : WSt) (r : Value) (h' : Heap) : Prop := r = .int .i64 st.e ∧ PVs h' S p lim st ∧ Fr S h h'
theorem PVs.keep {S S' : Nat → Prop} {h h' : Heap} {p lim : Nat} {st : WSt} (hw : PVs h S p lim st) (hf : Fr S' h h') (hs : ∀ i, S' i → ¬ S i) : PVs h' S p lim st :=
  let ⟨sv, h1, h2, h3⟩ := hw.ex
  ⟨sv, h1.keep hf (fun h => hs _ h h2) fun i hi h => hs _ h (h3 i hi), h2, h3⟩
theorem PVs.none {S : Nat → Prop} {h h' : Heap} {p lim : Nat} {st : WSt} (hw : PVs h S p lim st) (hf : Fr (fun _ => False) h h') : PVs h' S p lim st := hw.keep hf fun _ h => h.elim
theorem PVs.mono {S S' : Nat → Prop} {h : Heap} {p lim : Nat} {st : WSt} (hw : PVs h S p lim st) (hs : ∀ i, i < h.n → S i → S' i) : PVs h S' p lim st :=
  let ⟨sv, h1, h2, h3⟩ := hw.ex
  ⟨sv, h1, hs _ h1.lt h2, fun i hi => hs i (h1.own.lt hi) (h3 i hi)⟩
theorem PVs.of {h : Heap} {lo p lim : Nat} {st : WSt} (hw : PWs h lo p lim st) : PVs h (fun i => lo ≤ i) p lim st :=
  let ⟨sv, h1⟩ := hw.ex
  ⟨sv, ⟨h1.lt, Nat.zero_le _, h1.get, h1.own, h1.apart, fun _ _ => Nat.zero_le _, h1.small⟩, h1.le, h1.above⟩
theorem PVs.to {h : Heap} {lo p lim : Nat} {st : WSt} (hw : PVs h (fun i => lo ≤ i) p lim st) : PWs h lo p lim st :=
  let ⟨sv, h1, h2, h3⟩ := hw.ex
  ⟨sv, ⟨h1.lt, h2, h1.get, h1.own, h1.apart, h3, h1.small⟩⟩
theorem PVs.lt {h : Heap} {S : Nat → Prop} {p lim : Nat} {st : WSt} (hw : PVs h S p lim st) : p < h.n := let ⟨_, h1, _⟩ := hw.ex; h1.lt
theorem put_okV {h : Heap} {S : Nat → Prop} {p lim : Nat} {st : WSt} {may : Bool} {v : Value} {ls : List (Value × List UInt8)} (hw : PVs h S p lim st) (hS : ∀ i, h.n ≤ i → S i) (hv : Rd h 1 v (ls.map (·.1)) ls.length) (hp : Parts h ls) (hn : ls.length < 1048576) (hs : st.bs.length + (flat ls).length < 1048576) :
    Runs Try.prog T0 (.fn fn_zpbQ) [.pointer (some ⟨p, 0, none⟩), .bool may, v] h (WritesV h S p lim (putS lim may (flat ls) st)) (fun _ _ => False) := by
  obtain ⟨bs, e⟩ := st
  obtain ⟨sv, hw, hSp, hSo⟩ := hw.ex
  have hs : bs.length + (flat ls).length < 1048576 := hs
  have hw : PW h 0 p sv bs lim e := hw
  have hlt := hw.lt
  obtain ⟨a0, cap0, rfl, hl0, _⟩ := hw.own.rd
  haveI : HGet h p _ := ⟨hw.get⟩
  refine zpbQ_runs ?_
  refine stp ?_
  refine O.call' (Concat_ok hv hp hn (by omega)) (fun r h1 hr => ?_)
  obtain ⟨ho, hnew, hf⟩ := hr
  obtain ⟨a1, cap1, rfl, hl1, _⟩ := ho.rd
  have hw1 := hw.keep hf id fun _ _ => id
  haveI : HGet h1 p _ := ⟨hw1.get⟩
  have hfl : Fr S h h1 := hf.mono fun _ _ h => h.elim
  refine stp ?_
  refine C.ifN (fun he => ?_) (fun he => ?_)
  · refine stp ?_
    unfold putS
    rw [if_pos (by simpa using he)]
    exact ⟨rfl, ⟨_, hw1, hSp, hSo⟩, hfl⟩
  · subst he
    refine stp ?_
    cases may with
    | false =>
      refine stp ?_
      unfold putS
      rw [if_neg (by simp), if_pos rfl]
      refine ⟨rfl, .mk' hSp hSo ⟨by simpa using hw1.lt, Nat.zero_le _, by rw [Heap.get_set, if_pos rfl], hw1.own.keep (S := fun i => i = p) (Fr.refl.set fun _ => rfl) fun i hi hp => hw1.apart (hp ▸ hi), hw1.apart, fun _ _ => Nat.zero_le _, hw1.small⟩, hfl.set fun _ => hSp⟩
    | true =>
      refine stp ?_
      refine C.if (fun hlong => ?_) (fun hfit => ?_)
      · refine stp ?_
        unfold putS
        rw [if_neg (by simp), if_neg (by simp), if_pos (by simp only; omega)]
        refine ⟨rfl, .mk' hSp hSo ⟨by simpa using hw1.lt, Nat.zero_le _, by rw [Heap.get_set, if_pos rfl], hw1.own.keep (S := fun i => i = p) (Fr.refl.set fun _ => rfl) fun i hi hp => hw1.apart (hp ▸ hi), hw1.apart, fun _ _ => Nat.zero_le _, hw1.small⟩, hfl.set fun _ => hSp⟩
      · refine stp ?_
        refine O.append hw1.own (ho.rd.new [.int .u8 0]) (by rw [bcells_len]; omega) (bcells_one _) (by omega) (by omega) (by omega) (fun v' h2 h3 h4 h5 => ?_)
        obtain ⟨a2, cap2, rfl, hl2, _⟩ := h3.rd
        have hp2 : HGet h2 p _ := h4.keep ⟨hw1.get⟩ hw1.lt hw1.apart
        refine stp ?_
        have hnp : ¬ ownedBy (.slice a2 (bs.length + (flat ls).length) cap2) p := fun hi => by
          rcases h5 p hi with h6 | h6
          · exact hw1.apart h6
          · have := hw1.lt; omega
        unfold putS
        rw [if_neg (by simp), if_neg (by simp), if_neg (by simp only; omega)]
        refine ⟨rfl, .mk' (sv := .slice a2 (bs.length + (flat ls).length) cap2) hSp (fun i hi => ?_) ⟨by have := h4.lt hw1.lt; simpa using this, Nat.zero_le _, by rw [Heap.get_set, if_pos rfl], ?_, hnp, fun _ _ => Nat.zero_le _, by simp; omega⟩, Fr.set (Fr.trans (S := S) hfl h4 fun i hi ho' => hSo i ho') fun _ => hSp⟩
        · rcases h5 i hi with h6 | h6
          · exact hSo i h6
          · have := hf.n; exact hS i (by omega)
        · show Own _ 1 (.slice a2 (bs.length + (flat ls).length) cap2) (bcells (bs ++ flat ls)) (bs ++ flat ls).length
          rw [bcells_append, List.length_append]
          exact h3.keep (S := fun i => i = p) (Fr.refl.set fun _ => rfl) fun i hi hp => hnp (hp ▸ hi)
theorem WNum_okV {h : Heap} {S : Nat → Prop} {p lim : Nat} {st : WSt} {n : Int} (hw : PVs h S p lim st) (hS : ∀ i, h.n ≤ i → S i) (hn : n ≤ 9223372036854775807) (hs : st.bs.length + 9 < 1048576) :
    Runs Try.prog T0 (.fn fn_zobQ) [.pointer (some ⟨p, 0, none⟩), .int .i64 n] h (WritesV h S p lim (putS lim (decide (0 ≤ n)) (numF n.toNat) st)) (fun _ _ => False) := by
  refine zobQ_runs ?_
  refine stp ?_
  have hm : (if (0 : Int) > n then 0 else n) = ((n.toNat : Nat) : Int) := by split <;> omega
  rw [hm]
  refine O.call' (number_ok (N := n.toNat) (by omega)) (fun r h1 hr => ?_)
  obtain ⟨hrd, hnew, hf⟩ := hr
  have hw1 := hw.none hf
  have hfl := numF_len (n := n.toNat) (by omega)
  obtain ⟨a1, cap1, rfl, hl1, _⟩ := id hrd
  refine stp ?_
  refine O.call' (put_okV (ls := [(.slice a1 (numF n.toNat).length cap1, numF n.toNat)]) (hw1.none Fr.refl.push) (fun i hi => hS i (by have := hf.n; simp at hi; omega)) (rd_lit rfl) ?_ (by simp) (by simp [flat]; omega)) (fun r h2 hr => ?_)
  · intro q hq
    simp at hq
    subst hq
    exact hrd.keep (S := fun _ => False) Fr.refl.push fun _ _ => id
  · refine stp ?_
    rw [show flat [(Value.slice a1 (numF n.toNat).length cap1, numF n.toNat)] = numF n.toNat from by simp [flat]] at hr
    exact ⟨hr.1, hr.2.1, Fr.trans (S := S) (hf.mono fun _ _ h => h.elim) (Fr.trans (S := S) Fr.refl.push hr.2.2 fun _ _ h => h) fun _ _ h => h⟩
theorem WKey_okV {h : Heap} {S : Nat → Prop} {p lim : Nat} {st : WSt} {v : Val} (hw : PVs h S p lim st) (hS : ∀ i, h.n ≤ i → S i) (hs : st.bs.length + 4 < 1048576) :
    Runs Try.prog T0 (.fn fn_znbQ) [.pointer (some ⟨p, 0, none⟩), .agg ⟨[.int .u8 v.k0.toNat, .int .u8 v.k1.toNat, .int .u8 v.k2.toNat, .int .u8 v.k3.toNat]⟩] h (WritesV h S p lim (putS lim true v.key st)) (fun _ _ => False) := by
  refine znbQ_runs ?_
  refine stp ?_
  refine O.call' (put_okV (ls := [(.slice (some ⟨h.n, 0, none⟩) 4 4, v.key)]) (hw.none Fr.refl.push.push) (fun i hi => hS i (by simp at hi; omega)) (rd_lit rfl) ?_ (by simp) (by simp [flat]; omega)) (fun r h2 hr => ?_)
  · intro q hq
    simp at hq
    subst hq
    exact (rd_lit (h := h) (c := bcells v.key) (es := 0) (n := 4) rfl).keep (S := fun _ => False) Fr.refl.push fun _ _ => id
  · refine stp ?_
    rw [show flat [(Value.slice (some ⟨h.n, 0, none⟩) 4 4, v.key)] = v.key from by simp [flat]] at hr
    exact ⟨hr.1, hr.2.1, Fr.trans (S := S) Fr.refl.push.push hr.2.2 fun _ _ h => h⟩
end Go.Proofs.Ytmfaepkmiceoeaa.A

namespace Go.Proofs.Ytmfaepkmiceoeaa.A
open Go Go.Vm
set_option maxRecDepth 10000
set_option linter.unusedVariables false
def bodyV (l : List Val) : List UInt8 := l.flatMap fun v => v.key ++ numF v.p.toNat
def encV (l : List Val) : List UInt8 := numF l.length ++ bodyV l
theorem stepsV_range {least : Int} : ∀ {l : List Val} {o : Option Val}, stepsV least o l = 0 → ∀ v ∈ l, least ≤ v.p ∧ v.p ≤ 4611686018427387904
  | [], _, _, _, h => by cases h
  | v :: l, o, h, w, hw => by
    have key : ∀ b : Bool, (if b = true then (9 : Int) else if v.p < least ∨ 4611686018427387904 < v.p then 3 else stepsV least (some v) l) = 0 → least ≤ w.p ∧ w.p ≤ 4611686018427387904 := by
      intro b h
      by_cases hA : b = true
      · rw [if_pos hA] at h; cases h
      · rw [if_neg hA] at h
        by_cases hB : v.p < least ∨ 4611686018427387904 < v.p
        · rw [if_pos hB] at h; cases h
        · rw [if_neg hB] at h
          rcases List.mem_cons.1 hw with rfl | hw
          · omega
          · exact stepsV_range h w hw
    exact key _ h
theorem checkV_ok {l : List Val} (h : checkV l = 0) : 0 < l.length ∧ l.length ≤ 64 ∧ stepsV 1 none l = 0 ∧ ∀ v ∈ l, 1 ≤ v.p ∧ v.p ≤ 4611686018427387904 := by
  unfold checkV at h
  split at h
  · cases h
  · split at h
    · cases h
    · exact ⟨by omega, by omega, h, stepsV_range h⟩
theorem bodyV_len : ∀ {l : List Val}, (∀ v ∈ l, 1 ≤ v.p ∧ v.p ≤ 4611686018427387904) → (bodyV l).length ≤ l.length * 13
  | [], _ => by simp [bodyV]
  | v :: l, h => by
    have h1 := bodyV_len (l := l) fun w hw => h w (by simp [hw])
    have h2 := h v (by simp)
    have h3 := numF_len (n := v.p.toNat) (by omega)
    simp only [bodyV, List.flatMap_cons, List.length_append, List.length_cons, List.length_nil] at h1 ⊢
    omega
theorem bodyV_take {l : List Val} {k : Nat} (hk : k < l.length) : bodyV (l.take (k + 1)) = bodyV (l.take k) ++ ((l.getD k zVal).key ++ numF (l.getD k zVal).p.toNat) := by
  have : l.take (k + 1) = l.take k ++ [l.getD k zVal] := by
    rw [List.take_succ_eq_append_getElem hk]
    simp [List.getD, hk]
  rw [this]
  simp [bodyV]
theorem encV_len {l : List Val} (h : checkV l = 0) : (encV l).length ≤ 841 := by
  obtain ⟨h1, h2, _, h3⟩ := checkV_ok h
  have h4 := bodyV_len h3
  have h5 := numF_len (n := l.length) (by omega)
  unfold encV
  rw [List.length_append]
  omega
theorem getD_mem {l : List Val} {k : Nat} (hk : k < l.length) : l.getD k zVal ∈ l := by
  simp [List.getD, hk]
theorem VEncode_ok {h : Heap} {v : Value} {l : List Val} (hv : Rd h 5 v (vcells l) l.length) : Runs Try.prog T0 (.fn fn_zpQ) [v] h
    (fun r h' => ∃ w, r = .tuple ⟨[w, .int .i64 (checkV l)]⟩ ∧ Own h' 1 w (bcells (if checkV l = 0 then encV l else [])) (if checkV l = 0 then encV l else []).length ∧ (∀ i, ownedBy w i → h.n ≤ i) ∧ Fr (fun _ => False) h h') (fun _ _ => False) := by
  have k1 := VCheck_ok hv
  obtain ⟨a, cap, rfl, hlen, hc⟩ := hv
  refine zpQ_runs ?_
  refine stp ?_
  refine O.call' k1 (fun r h1 hr => ?_)
  obtain ⟨rfl, hf1⟩ := hr
  have hn1 := hf1.n
  refine stp ?_
  refine C.ifN (fun hc => ?_) (fun hz => ?_)
  · refine stp ?_
    rw [if_neg hc]
    exact ⟨_, rfl, .none, fun i h => h.elim, hf1⟩
  · refine stp ?_
    obtain ⟨c1, c2, c3, c4⟩ := checkV_ok hz
    obtain ⟨b, o, sp, rfl, hb, hcc⟩ := hc (by omega)
    have hnl := numF_len (n := l.length) (by omega)
    refine O.call' (NewWriter_ok (lim := 1048576) (by omega)) (fun r h2 hr => ?_)
    obtain ⟨rfl, hw2, hf2⟩ := hr
    have hn2 := hf2.n
    refine stp ?_
    refine O.call' (WNum_ok hw2 (by omega) (by simp only [List.length_nil]; omega)) (fun r h3 hr => ?_)
    obtain ⟨rfl, hw3, hf3⟩ := hr
    have hn3 := hf3.n
    rw [decide_eq_true (by omega), putS_fit (by simp only [List.length_nil, Int.toNat_natCast]; omega), List.nil_append, Int.toNat_natCast] at hw3
    have f13 : Fr (fun i => h1.n ≤ i) h1 h3 := (hf2.mono fun _ _ h => h.elim).trans' hf3
    have f03 : Fr (fun i => h1.n ≤ i) h h3 := Fr.trans (S := fun i => h1.n ≤ i) (hf1.mono fun _ _ h => h.elim) f13 fun _ _ h => h
    refine stp ?_
    refine zpQ_l0_rule (fun m v24 h' => ∃ k : Nat, k ≤ l.length ∧ m = l.length - k ∧ v24 = .int .i64 k ∧ PVs h' (fun i => h1.n ≤ i) h1.n 1048576 ⟨numF l.length ++ bodyV (l.take k), 0⟩ ∧ Fr (fun i => h1.n ≤ i) h h') ?_ l.length ⟨0, by omega, rfl, rfl, by simpa [bodyV] using PVs.of hw3, f03⟩
    rintro m v24 h' x8 x25 x26 x27 x28 x29 x30 x31 x32 x33 x34 x35 x36 ⟨k, hk, rfl, rfl, hw, hf⟩
    refine stp ?_
    refine C.if (fun hlt => ?_) (fun hge => ?_)
    · have hlt : k < l.length := by omega
      have hcc' : cellsAt h' b o (l.length * 5) = some (vcells l) := by rw [cellsAt_keep hf hb (by omega)]; exact hcc
      haveI := val_cells hcc' rfl hlt
      have hr := c4 _ (getD_mem hlt)
      have hbl := bodyV_len (l := l.take k) fun v hv => c4 v (List.mem_of_mem_take hv)
      rw [List.length_take] at hbl
      have hmin : min k l.length = k := by omega
      rw [hmin] at hbl
      have hpl := numF_len (n := (l.getD k zVal).p.toNat) (by omega)
      refine stp ?_
      have hlt' := hw.lt
      have hS : ∀ i, (h'.push (.cells (l.getD k zVal).cells 0)).n ≤ i → h1.n ≤ i ∧ i ≠ h'.n := fun i hi => by simp at hi; omega
      have hw0 : PVs (h'.push (.cells (l.getD k zVal).cells 0)) (fun i => h1.n ≤ i ∧ i ≠ h'.n) h1.n 1048576 ⟨numF l.length ++ bodyV (l.take k), 0⟩ := (hw.mono fun i hi hs => ⟨hs, by omega⟩).none Fr.refl.push
      refine O.call' (WKey_okV (v := l.getD k zVal) hw0 hS (by simp only [List.length_append]; omega)) (fun r h4 hr => ?_)
      obtain ⟨rfl, hw4, hf4⟩ := hr
      rw [putS_fit (by simp only [List.length_append, List.length_cons, List.length_nil]; omega)] at hw4
      have hn4 := hf4.n
      have hq4 : HGet h4 h'.n (.cells (l.getD k zVal).cells 0) := hf4.keep HGet.new (by simp) (by simp)
      haveI := hq4
      simp only [Heap.n_push] at hn4
      refine stp ?_
      refine O.call' (WNum_okV hw4 (fun i hi => by omega) (by omega) (by simp only [List.length_append, List.length_cons, List.length_nil]; omega)) (fun r h5 hr => ?_)
      obtain ⟨rfl, hw5, hf5⟩ := hr
      rw [decide_eq_true (by omega), putS_fit (by simp only [List.length_append, List.length_cons, List.length_nil]; omega)] at hw5
      refine stp ?_
      refine zpQ_l0_again (l.length - (k + 1)) (by omega) ⟨k + 1, by omega, rfl, rfl, ?_, ?_⟩
      · rw [bodyV_take hlt, ← List.append_assoc, ← List.append_assoc]
        exact hw5.mono fun i _ hs => hs.1
      · exact Fr.trans (S := fun i => h1.n ≤ i) hf ((Fr.trans (S := fun i => h1.n ≤ i ∧ i ≠ h'.n) Fr.refl.push (hf4.trans' hf5) fun _ _ h => h).mono fun _ _ h => h.1) fun _ _ h => h
    · obtain rfl : k = l.length := by omega
      rw [List.take_length] at hw
      refine stp ?_
      refine O.call' (Done_ok hw.to) (fun r h4 hr => ?_)
      obtain ⟨w, rfl, ho, hnew, hf4⟩ := hr
      refine stp ?_
      rw [hz] at *
      rw [if_pos rfl]
      refine ⟨w, rfl, by simpa [encV] using ho, fun i hi => ?_, Fr.trans (S := fun _ => False) (S' := fun i => h1.n ≤ i) Fr.refl (hf.trans' (hf4.mono fun _ _ h => h.elim)) fun i hi h => by omega⟩
      have := hnew i hi
      have := hf.n
      omega
end Go.Proofs.Ytmfaepkmiceoeaa.A

namespace Go.Proofs.Ytmfaepkmiceoeaa.A
open Go Go.Vm
set_option maxRecDepth 10000
set_option linter.unusedVariables false
theorem PRs.own_lt {h : Heap} {p : Nat} {sv : Value} {bs : List UInt8} {st : RSt} (hp : PRs h p sv bs st) {i : Nat} (hi : ownedBy sv i) : i < h.n := let ⟨_, _, h2⟩ := hp.ex; h2.own.lt hi
theorem same_fault {a b : Int} : same [.int .i64 a, .int .i64 b] [.int .i64 0, .int .i64 0] = decide ((a, b) = ((0, 0) : Int × Int)) := by
  by_cases h : (a, b) = ((0, 0) : Int × Int)
  · rw [decide_eq_true h]
    cases h
    exact same_self _
  · rw [decide_eq_false h]
    exact same_ne.2 fun h2 => h (by cases h2; rfl)
theorem one_val {h : Heap} {c : List Value} {es : Nat} (hc : c.length = 5) : newCells (h.push (.cells c es)) 5 [.int .u8 0, .int .u8 0, .int .u8 0, .int .u8 0, .int .i64 0] false (.slice (some ⟨h.n, 0, none⟩) 1 1) = some (1, c) :=
  (Rd.mk (size := 5) (n := 1) (cap := 1) (sp := none) (o := 0) (b := h.n) (c := c) (by simp) (by rw [cellsAt_of (c := c) (by rw [Heap.get_push, if_pos rfl]; rfl) (by omega), List.drop_zero, List.take_of_length_le (by omega)])).new _
set_option maxHeartbeats 2000000 in
theorem VDecode_ok {h : Heap} {v : Value} {bs : List UInt8} (hv : Rd h 1 v (bcells bs) bs.length) (hs : bs.length < 1048576) : Runs Try.prog T0 (.fn fn_zoQ) [v] h
    (fun r h' => ∃ sl, r = .tuple ⟨[sl, .agg ⟨[.int .i64 (decV bs).2.1, .int .i64 (decV bs).2.2]⟩]⟩ ∧ Own h' 5 sl (vcells (decV bs).1) (decV bs).1.length ∧ (∀ i, ownedBy sl i → h.n ≤ i) ∧ Fr (fun _ => False) h h') (fun _ _ => False) := by
  refine zoQ_runs ?_
  refine stpP ?_
  have hf0 : Fr (fun _ => False) h (h.push (.cells [.int .i64 0, .int .i64 0] 0)) := Fr.refl.push
  refine O.call' (NewReader_ok (hv.keep hf0 fun _ _ => id) hs) (fun r h1 hr => ?_)
  obtain ⟨p, sv, rfl, hp1, hsv, hr1, hf1⟩ := hr
  simp only [Heap.n_push] at hp1 hsv
  refine stpP ?_
  refine O.call' (Num_run hr1) (fun r h2 hr => ?_)
  obtain ⟨hf2, rfl, hr2⟩ := hr
  have hf01 : Fr (fun _ => False) h h1 := hf0.trans' hf1
  have hn01 := hf1.n
  simp only [Heap.n_push] at hn01
  have hn12 := hf2.n
  have hA1 : HGet h1 h.n (.cells [.int .i64 0, .int .i64 0] 0) := hf1.keep (b := h.n) HGet.new (by simp) id
  have hA2 : HGet h2 h.n (.cells [.int .i64 0, .int .i64 0] 0) := hf2.keep hA1 (by omega) (by omega)
  have hfh2 : Fr (fun _ => False) h h2 := Fr.trans (S := fun _ => False) hf01 hf2 fun i hi ho => by omega
  have hdec : decV bs = (if 64 < (rd (numS bs) 0 ⟨0, 0, 0⟩).1 then ([], (4, 0)) else
    let y := stepV bs (rd (numS bs) 0 ⟨0, 0, 0⟩).1 ([], (rd (numS bs) 0 ⟨0, 0, 0⟩).2)
    let f := endS bs y.2
    let g := if f = (0, 0) then (checkV y.1, 0) else f
    if g = (0, 0) then (y.1, (0, 0)) else ([], g)) := rfl
  rw [hdec]
  clear hdec
  generalize rd (numS bs) 0 ⟨0, 0, 0⟩ = n at *
  obtain ⟨n, st0⟩ := n
  simp only at hr2 ⊢
  haveI : BLt h.n h2 := ⟨by omega⟩
  haveI : HGet h2 h.n _ := hA2
  refine stpP ?_
  refine C.if (fun hbig => ?_) (fun hsm => ?_)
  · refine stpP ?_
    rw [if_pos (by omega)]
    exact ⟨_, rfl, .none, fun i hi => hi.elim, Fr.set hfh2 fun hlt => by omega⟩
  rw [if_neg (by omega)]
  refine stpP ?_
  have hp2 := hr2.lt
  have hsv2 : ∀ i, ownedBy sv i → i < h2.n := fun i hi => hr2.own_lt hi
  refine zoQ_l0_rule (fun m v2 v15 h' => ∃ k : Nat, k ≤ n ∧ m = n - k ∧ v15 = .int .i64 k ∧ Own h' 5 v2 (vcells (stepV bs k ([], st0)).1) k ∧ (∀ i, ownedBy v2 i → h2.n ≤ i) ∧ PRs h' p sv bs (stepV bs k ([], st0)).2 ∧ Fr (fun i => i = p) h2 h') ?_ n ⟨0, by omega, rfl, rfl, .none, fun i hi => hi.elim, hr2, Fr.refl⟩
  rintro m v2 v15 h3 x6 x16 x17 x18 x19 x20 x21 x22 x23 x24 x25 x26 x27 ⟨k, hk, rfl, rfl, ho, hnew, hr3, hf3⟩
  have hstep : stepV bs (k + 1) ([], st0) = ((stepV bs k ([], st0)).1 ++ [Val.of (rd (partS 4 bs) zb4 (stepV bs k ([], st0)).2).1 ((rd (numS bs) 0 (rd (partS 4 bs) zb4 (stepV bs k ([], st0)).2).2).1 : Nat)], (rd (numS bs) 0 (rd (partS 4 bs) zb4 (stepV bs k ([], st0)).2).2).2) := rfl
  have hlenk : (stepV bs k ([], st0)).1.length = k := by rw [stepV_len]; simp
  have hn23 := hf3.n
  refine stpP ?_
  refine C.if (fun hlt => ?_) (fun hge => ?_)
  · generalize stepV bs k ([], st0) = z at *
    obtain ⟨L, st⟩ := z
    simp only at ho hr3 hstep hlenk
    refine stpP ?_
    have k1 := Key_run hr3
    generalize rd (partS 4 bs) zb4 st = a at *
    obtain ⟨ak, st4⟩ := a
    refine O.call' k1 (fun r h4 hq => ?_)
    obtain ⟨hf4, ⟨rfl, hl⟩, hr4⟩ := hq
    simp only at hl hr4 hstep
    obtain ⟨a1, a2, a3, a4, rfl⟩ := four hl
    rw [bcells4]
    have hn34 := hf4.n
    refine stpP ?_
    have k2 := Num_run (hr4.none (Fr.refl.push (o := .cells [.int .u8 a1.toNat, .int .u8 a2.toNat, .int .u8 a3.toNat, .int .u8 a4.toNat, .int .i64 0] 0)))
    generalize rd (numS bs) 0 st4 = b at *
    obtain ⟨b, st5⟩ := b
    refine O.call' k2 (fun r h5 hq => ?_)
    obtain ⟨hf5, rfl, hr5⟩ := hq
    simp only at hr5 hstep
    have hn45 := hf5.n
    simp only [Heap.n_push] at hn45
    have hp4 := hr4.lt
    haveI : HGet h5 h4.n _ := hf5.keep (b := h4.n) HGet.new (by simp) (by omega)
    refine stpP ?_
    have hol := fun {i : Nat} (hi : ownedBy v2 i) => ho.lt hi
    have ho5 : Own h5 5 v2 (vcells L) k := ((ho.keep hf4 fun i hi h => by have := hnew i hi; omega).keep (S := fun _ => False) (Fr.refl.push) fun _ _ => id).keep hf5 fun i hi h => by have := hnew i hi; omega
    refine O.append ((ho5.keep (S := fun i => i = h4.n) (Fr.refl.set fun _ => rfl) fun i hi h => by have := hol hi; omega).keep (S := fun _ => False) Fr.refl.push fun _ _ => id) (one_val rfl) rfl rfl (by omega) (by omega) (by omega) (fun v6 h6 ho6 hf6 hn6 => ?_)
    refine stpP ?_
    have hf56 : Fr (fun i => i = h4.n ∨ ownedBy v2 i) h5 h6 := Fr.trans (S := fun i => i = h4.n ∨ ownedBy v2 i) (Fr.refl.set fun _ => .inl rfl).push hf6 fun i _ hi => .inr hi
    refine zoQ_l0_again (n - (k + 1)) (by omega) ⟨k + 1, by omega, rfl, rfl, ?_, fun i hi => ?_, ?_, ?_⟩
    · rw [hstep]
      simp only
      rw [vcells_append]
      exact ho6
    · rcases hn6 i hi with h7 | h7
      · exact hnew i h7
      · simp at h7; omega
    · rw [hstep]
      refine hr5.keep hf56 (fun h => ?_) fun i hi h => ?_
      · rcases h with h | h
        · omega
        · have := hnew p h; omega
      · have := hsv2 i hi
        rcases h with h | h
        · omega
        · have := hnew i h; omega
    · have hf35 : Fr (fun i => i = p) h3 h5 := Fr.trans (S := fun i => i = p) hf4 (Fr.trans (S := fun i => i = p) Fr.refl.push hf5 fun _ _ h => h) fun _ _ h => h
      refine Fr.trans (S := fun i => i = p) hf3 (Fr.trans (S := fun i => i = p ∨ ownedBy v2 i) (hf35.mono fun _ _ h => .inl h) hf56 fun i hi h => ?_) fun i hi h => ?_
      · rcases h with h | h
        · omega
        · exact .inr h
      · rcases h with h | h
        · exact h
        · have := hnew i h; omega
  · obtain rfl : k = n := by omega
    have hA3 : HGet h3 h.n (.cells [.int .i64 0, .int .i64 0] 0) := hf3.keep hA2 (by omega) (by omega)
    haveI : HGet h3 h.n _ := hA3
    have hfh3 : Fr (fun _ => False) h h3 := Fr.trans (S := fun _ => False) hfh2 hf3 fun i hi ho => by omega
    generalize stepV bs k ([], st0) = z at *
    obtain ⟨L, st⟩ := z
    simp only at ho hr3 hlenk ⊢
    refine stpP ?_
    have k3 := End_run hr3
    generalize endS bs st = F at *
    obtain ⟨e, a⟩ := F
    refine O.call' k3 (fun r h4 hr => ?_)
    obtain ⟨rfl, hf4⟩ := hr
    have hn34 := hf4.n
    haveI : HGet h4 h.n _ := hf4.keep hA3 (by omega) id
    haveI : BLt h.n h4 := ⟨by omega⟩
    have hfh4 : Fr (fun _ => False) h h4 := hfh3.trans' hf4
    have ho4 : Own h4 5 (v2) (vcells L) k := ho.keep hf4 fun _ _ => id
    have hset : ∀ {o : AObj}, Own (h4.set h.n o) 5 v2 (vcells L) k := fun {o} => ho4.keep (S := fun i => i = h.n) (Fr.refl.set fun _ => rfl) fun i hi h => by have := hnew i hi; omega
    refine stpP ?_
    rw [same_fault]
    refine C.if (fun hz => ?_) (fun hz => ?_)
    · obtain ⟨he, ha⟩ := Prod.mk.inj hz
      subst he ha
      refine stpP ?_
      refine O.call' (VCheck_ok (l := L) (by rw [hlenk]; exact hset.rd)) (fun r h5 hr => ?_)
      obtain ⟨rfl, hf5⟩ := hr
      have hn45 := hf5.n
      simp only [Heap.n_set] at hn45
      haveI : HGet h5 h.n _ := hf5.keep (b := h.n) .same (by simp; omega) id
      haveI : BLt h.n h5 := ⟨by omega⟩
      have hfh5 : Fr (fun _ => False) h h5 := Fr.trans (S := fun _ => False) (Fr.set hfh4 fun hlt => by omega) hf5 fun _ _ h => h
      have ho5 : Own h5 5 v2 (vcells L) k := hset.keep hf5 fun _ _ => id
      refine stpP ?_
      rw [same_fault]
      refine C.ifN (fun hc => ?_) (fun hc => ?_)
      · refine stpP ?_
        simp only [if_true]
        rw [if_neg hc]
        exact ⟨_, rfl, .none, fun i hi => hi.elim, Fr.set hfh5 fun hlt => by omega⟩
      · have h0 : checkV L = 0 := by injection hc
        rw [h0]
        refine stpP ?_
        refine D.oneS ?_
        refine stpP ?_
        simp only [if_true]
        refine ⟨_, rfl, ?_, fun i hi => ?_, Fr.set hfh5 fun hlt => by omega⟩
        · rw [hlenk]
          exact ho5.keep (S := fun i => i = h.n) (Fr.refl.set fun _ => rfl) fun i hi h => by have := hnew i hi; omega
        · have := hnew i hi
          omega
    · refine stpP ?_
      rw [same_fault]
      refine C.ifN (fun hc => ?_) (fun hc => absurd hc hz)
      refine stpP ?_
      simp only [if_neg hz]
      exact ⟨_, rfl, .none, fun i hi => hi.elim, Fr.set hfh4 fun hlt => by omega⟩
end Go.Proofs.Ytmfaepkmiceoeaa.A

namespace Go.Proofs.Ytmfaepkmiceoeaa.A
open Go Go.Vm
set_option maxRecDepth 10000
set_option linter.unusedVariables false
theorem bigN_beN : ∀ (n : Nat), bigN (beN n) = n := by
  intro n
  induction n using Nat.strongRecOn with
  | _ n ih =>
    by_cases h : n = 0
    · subst h; rw [beN_zero]; rfl
    · rw [beN_pos h, bigN_snoc, ih (n / 256) (by omega), u8nat (Nat.mod_lt _ (by omega))]
      omega
theorem beN_head : ∀ (n : Nat), n ≠ 0 → ((beN n).getD 0 0).toNat ≠ 0 := by
  intro n
  induction n using Nat.strongRecOn with
  | _ n ih =>
    intro h
    rw [beN_pos h]
    by_cases h2 : n / 256 = 0
    · rw [h2, beN_zero]
      simp only [List.nil_append, List.getD_cons_zero]
      rw [u8nat (Nat.mod_lt _ (by omega))]
      omega
    · have h3 := ih (n / 256) (by omega) h2
      have hl : (beN (n / 256)) ≠ [] := by rw [beN_pos h2]; simp
      cases hb : beN (n / 256) with
      | nil => exact absurd hb hl
      | cons a l => rw [hb] at h3; simpa using h3
theorem bigN_pos {d : List UInt8} (h : (d.getD 0 0).toNat ≠ 0) : bigN d ≠ 0 := by
  have key : ∀ (l : List UInt8) (n : Nat), n ≠ 0 → l.foldl (fun n b => n * 256 + b.toNat) n ≠ 0 := by
    intro l
    induction l with
    | nil => intro n h; exact h
    | cons b l ih =>
      intro n h
      show l.foldl (fun n b => n * 256 + b.toNat) (n * 256 + b.toNat) ≠ 0
      exact ih _ (by omega)
  cases d with
  | nil => simp at h
  | cons a l =>
    show (a :: l).foldl (fun n b => n * 256 + b.toNat) 0 ≠ 0
    exact key l _ (by simpa using h)
theorem beN_bigN : ∀ (k : Nat) (d : List UInt8), d.length = k → (0 < d.length → (d.getD 0 0).toNat ≠ 0) → beN (bigN d) = d := by
  intro k
  induction k with
  | zero =>
    intro d hd _
    have : d = [] := List.length_eq_zero_iff.1 hd
    subst this
    exact beN_zero
  | succ k ih =>
    intro d hd h
    obtain ⟨l, b, rfl⟩ : ∃ l b, d = l ++ [b] := ⟨d.dropLast, d.getLast (by intro h; rw [h] at hd; simp at hd), (List.dropLast_concat_getLast _).symm⟩
    have hb := b.toNat_lt
    have hlen : l.length = k := by simpa using hd
    have hl : 0 < l.length → (l.getD 0 0).toNat ≠ 0 := fun hp => by
      cases l with
      | nil => simp at hp
      | cons a l => simpa using h (by simp)
    have h0 := bigN_pos (h (by simp))
    rw [bigN_snoc] at h0 ⊢
    rw [beN_pos h0]
    have e1 : (bigN l * 256 + b.toNat) / 256 = bigN l := by omega
    have e2 : (bigN l * 256 + b.toNat) % 256 = b.toNat := by omega
    rw [e1, e2, ih l hlen hl]
    congr 2
    exact UInt8.toNat_inj.1 (u8nat (by omega))
theorem drop_split {l : List UInt8} {pl k : Nat} (h : pl + k ≤ l.length) : l.drop pl = (l.drop pl).take k ++ l.drop (pl + k) := by
  rw [← List.drop_drop, List.take_append_drop]
theorem drop_one {l : List UInt8} {pl : Nat} (h : pl < l.length) : l.drop pl = l.getD pl 0 :: l.drop (pl + 1) := by
  rw [List.drop_eq_getElem_cons h]
  simp [List.getD_eq_getElem?_getD, List.getElem?_eq_getElem h]
theorem numS_form {bs : List UInt8} {pl n pl' : Nat} (h : numS bs pl = .ok (n, pl')) : bs.drop pl = numF n ++ bs.drop pl' := by
  have hb := (bs.getD pl 0).toNat_lt
  unfold numS at h
  split at h
  · cases h
  · split at h
    · cases h
    · split at h
      · cases h
      · split at h
        · cases h
        · rename_i h1 h2 h3 h4
          cases h
          have hd : ((bs.drop (pl + 1)).take (bs.getD pl 0).toNat).length = (bs.getD pl 0).toNat := by rw [List.length_take, List.length_drop]; omega
          rw [drop_one (by omega)]
          unfold numF
          rw [beN_bigN _ _ hd fun hp h0 => h4 (.inl ⟨by omega, h0⟩), hd]
          rw [show UInt8.ofNat (bs.getD pl 0).toNat = bs.getD pl 0 from UInt8.toNat_inj.1 (u8nat (by omega))]
          rw [List.cons_append, ← drop_split (by omega)]
theorem getD_at {a b : List UInt8} {x : UInt8} : (a ++ x :: b).getD a.length 0 = x := by simp [List.getD_eq_getElem?_getD]
theorem numS_back {a b : List UInt8} {n : Nat} (hn : n ≤ 9223372036854775807) : numS (a ++ (numF n ++ b)) a.length = .ok (n, a.length + (numF n).length) := by
  have h8 := beN_len 8 n (by omega)
  unfold numF
  have hg : (a ++ (UInt8.ofNat (beN n).length :: beN n ++ b)).getD a.length 0 = UInt8.ofNat (beN n).length := by rw [List.cons_append]; exact getD_at
  have hk : (UInt8.ofNat (beN n).length).toNat = (beN n).length := u8nat (by omega)
  have hd : ((a ++ (UInt8.ofNat (beN n).length :: beN n ++ b)).drop (a.length + 1)).take (beN n).length = beN n := by
    rw [← List.drop_drop, List.drop_left]
    simp
  unfold numS
  rw [hg, hk, hd, bigN_beN]
  simp only [List.length_append, List.length_cons]
  rw [if_neg (by omega), if_neg (by omega), if_neg (by omega), if_neg]
  · congr 2; omega
  · rintro (⟨h1, h2⟩ | h)
    · refine beN_head n (fun h0 => ?_) h2
      subst h0
      rw [beN_zero] at h1
      simp at h1
    · omega
theorem partS_form {bs l : List UInt8} {k pl pl' : Nat} (h : partS k bs pl = .ok (l, pl')) : l.length = k ∧ bs.drop pl = l ++ bs.drop pl' ∧ pl' ≤ bs.length := by
  unfold partS at h
  split at h
  · cases h
  · cases h
    exact ⟨by rw [List.length_take, List.length_drop]; omega, drop_split (by omega), by omega⟩
theorem partS_back {a b l : List UInt8} {k : Nat} (hl : l.length = k) : partS k (a ++ (l ++ b)) a.length = .ok (l, a.length + k) := by
  unfold partS
  simp only [List.length_append]
  rw [if_neg (by omega), List.drop_left]
  congr 2
  rw [← hl, List.take_left]
def Ends (bs : List UInt8) {α : Type} (S : Nat → Except Int (α × Nat)) : Prop := (∀ pl a pl', S pl = .ok (a, pl') → pl' ≤ bs.length) ∧ ∀ pl e, S pl = .error e → e = 4 ∨ e = 5 ∨ e = 6
theorem numS_ends {bs : List UInt8} : Ends bs (numS bs) := ⟨fun pl a pl' h => (numS_ok h).2.1, fun pl e h => .inr (numS_err h)⟩
theorem partS_ends {bs : List UInt8} {k : Nat} : Ends bs (partS k bs) := ⟨fun pl a pl' h => (partS_form h).2.2, fun pl e h => by
  unfold partS at h
  split at h
  · cases h; exact .inr (.inr rfl)
  · cases h⟩
structure RSt.ok (bs : List UInt8) (st : RSt) : Prop where
  pl : st.e = 0 → st.pl ≤ bs.length ∧ st.fa = 0
  fa : 0 ≤ st.fa ∧ st.fa ≤ bs.length
theorem rd_st {α : Type} {bs : List UInt8} {S : Nat → Except Int (α × Nat)} {zero : α} {st : RSt} (hE : Ends bs S) (hs : st.ok bs) : (rd S zero st).2.ok bs := by
  unfold rd
  split
  · rename_i he
    cases hS : S st.pl with
    | ok x => exact ⟨fun _ => ⟨hE.1 _ _ _ hS, rfl⟩, by simp⟩
    | error e => exact ⟨fun h0 => by have := hE.2 _ _ hS; have h0 : e = 0 := h0; omega, by have := (hs.pl he).1; simp only; omega⟩
  · exact hs
theorem rd_good {α : Type} {bs : List UInt8} {S : Nat → Except Int (α × Nat)} {zero : α} {st : RSt} (hE : Ends bs S) (h : (rd S zero st).2.e = 0) : st.e = 0 ∧ S st.pl = .ok ((rd S zero st).1, (rd S zero st).2.pl) := by
  unfold rd at h ⊢
  split at h
  · rename_i he
    rw [if_pos he]
    cases hS : S st.pl with
    | ok x => exact ⟨he, rfl⟩
    | error e =>
      rw [hS] at h
      have := hE.2 _ _ hS
      have h : e = 0 := h
      omega
  · rename_i he
    exact absurd h he
theorem rd_step {α : Type} {S : Nat → Except Int (α × Nat)} {zero a : α} {pl pl' : Nat} (h : S pl = .ok (a, pl')) : rd S zero ⟨pl, 0, 0⟩ = (a, ⟨pl', 0, 0⟩) := by
  unfold rd
  rw [if_pos rfl]
  simp only [h]
end Go.Proofs.Ytmfaepkmiceoeaa.A

namespace Go.Proofs.Ytmfaepkmiceoeaa.A
open Go Go.Vm
set_option maxRecDepth 10000
set_option linter.unusedVariables false
theorem st0_ok (bs : List UInt8) : RSt.ok bs ⟨0, 0, 0⟩ := ⟨fun _ => ⟨by simp, rfl⟩, by simp⟩
theorem endS_within {bs : List UInt8} {st : RSt} (h : st.ok bs) : 0 ≤ (endS bs st).2 ∧ (endS bs st).2 ≤ bs.length := by
  unfold endS
  split
  · rename_i hc
    simp only
    omega
  · exact h.fa
theorem endS_zero {bs : List UInt8} {st : RSt} (h : st.ok bs) (h0 : (endS bs st).1 = 0) : endS bs st = (0, 0) := by
  unfold endS at h0 ⊢
  split at h0
  · cases h0
  · rename_i hc
    rw [if_neg hc]
    have h0 : st.e = 0 := h0
    rw [h0, (h.pl h0).2]
end Go.Proofs.Ytmfaepkmiceoeaa.A

namespace Go.Proofs.Ytmfaepkmiceoeaa.A
open Go Go.Vm
set_option maxRecDepth 10000
set_option linter.unusedVariables false
theorem bodyV_append (l m : List Val) : bodyV (l ++ m) = bodyV l ++ bodyV m := by simp [bodyV]
theorem of_key {l : List UInt8} (h : l.length = 4) (p : Int) : (Val.of l p).key = l := by
  obtain ⟨a, b, c, d, rfl⟩ := four h
  rfl
theorem stepV_st (bs : List UInt8) {y : List Val × RSt} (hy : y.2.ok bs) : ∀ k, (stepV bs k y).2.ok bs
  | 0 => hy
  | k + 1 => rd_st numS_ends (rd_st partS_ends (stepV_st bs hy k))
def firstVals (bs : List UInt8) : List Val × RSt := ([], (rd (numS bs) 0 ⟨0, 0, 0⟩).2)
def manyVals (bs : List UInt8) : Nat := (rd (numS bs) 0 ⟨0, 0, 0⟩).1
def faultV (bs : List UInt8) : Int × Int := endS bs (stepV bs (manyVals bs) (firstVals bs)).2
def gaultV (bs : List UInt8) : Int × Int := if faultV bs = (0, 0) then (checkV (stepV bs (manyVals bs) (firstVals bs)).1, 0) else faultV bs
theorem decV_eq (bs : List UInt8) : decV bs = if 64 < manyVals bs then ([], (4, 0)) else if gaultV bs = (0, 0) then ((stepV bs (manyVals bs) (firstVals bs)).1, (0, 0)) else ([], gaultV bs) := rfl
theorem firstVals_st (bs : List UInt8) : (firstVals bs).2.ok bs := rd_st numS_ends (st0_ok bs)
theorem gaultV_zero {bs : List UInt8} (h : (gaultV bs).1 = 0) : gaultV bs = (0, 0) := by
  unfold gaultV at h ⊢
  split at h
  · rename_i hc
    rw [if_pos hc]
    have h : checkV (stepV bs (manyVals bs) (firstVals bs)).1 = 0 := h
    rw [h]
  · rename_i hc
    exact absurd (endS_zero (stepV_st bs (firstVals_st bs) _) h) hc
theorem decV_bad {bs : List UInt8} (h : (decV bs).2.1 ≠ 0) : (decV bs).1 = [] ∧ 0 ≤ (decV bs).2.2 ∧ (decV bs).2.2 ≤ bs.length := by
  rw [decV_eq] at h ⊢
  by_cases hm : 64 < manyVals bs
  · rw [if_pos hm]; simp
  · rw [if_neg hm] at h ⊢
    by_cases hg : gaultV bs = (0, 0)
    · rw [if_pos hg] at h; exact absurd rfl h
    · rw [if_neg hg]
      refine ⟨rfl, ?_⟩
      have := endS_within (stepV_st bs (firstVals_st bs) (manyVals bs))
      show 0 ≤ (gaultV bs).2 ∧ (gaultV bs).2 ≤ bs.length
      unfold gaultV
      split
      · simp
      · exact this
theorem stepV_form {bs : List UInt8} {st : RSt} : ∀ k, (stepV bs k ([], st)).2.e = 0 → st.e = 0 ∧ bs.drop st.pl = bodyV (stepV bs k ([], st)).1 ++ bs.drop (stepV bs k ([], st)).2.pl
  | 0, h => ⟨h, rfl⟩
  | k + 1, h => by
    have h : (rd (numS bs) 0 (rd (partS 4 bs) zb4 (stepV bs k ([], st)).2).2).2.e = 0 := h
    obtain ⟨h1, h2⟩ := rd_good numS_ends h
    obtain ⟨h3, h4⟩ := rd_good partS_ends h1
    obtain ⟨h5, h6⟩ := stepV_form k h3
    have f1 := numS_form h2
    obtain ⟨l1, f2, _⟩ := partS_form h4
    refine ⟨h5, ?_⟩
    show _ = bodyV ((stepV bs k ([], st)).1 ++ [Val.of (rd (partS 4 bs) zb4 (stepV bs k ([], st)).2).1 ((rd (numS bs) 0 (rd (partS 4 bs) zb4 (stepV bs k ([], st)).2).2).1 : Nat)]) ++ bs.drop (rd (numS bs) 0 (rd (partS 4 bs) zb4 (stepV bs k ([], st)).2).2).2.pl
    rw [h6, f2, f1, bodyV_append]
    simp only [bodyV, List.flatMap_cons, List.flatMap_nil, List.append_nil, List.append_assoc]
    rw [of_key l1]
    rfl
theorem decV_good {bs : List UInt8} (h : (decV bs).2.1 = 0) : checkV (decV bs).1 = 0 ∧ encV (decV bs).1 = bs ∧ (decV bs).2 = (0, 0) := by
  rw [decV_eq] at h ⊢
  by_cases hm : 64 < manyVals bs
  · rw [if_pos hm] at h; cases h
  · rw [if_neg hm] at h ⊢
    have hg : gaultV bs = (0, 0) := by
      by_cases hg : gaultV bs = (0, 0)
      · exact hg
      · rw [if_neg hg] at h; exact gaultV_zero h
    rw [if_pos hg]
    have hf : faultV bs = (0, 0) := by
      unfold gaultV at hg
      by_cases hf : faultV bs = (0, 0)
      · exact hf
      · rw [if_neg hf] at hg; exact hg
    have hc : checkV (stepV bs (manyVals bs) (firstVals bs)).1 = 0 := by
      unfold gaultV at hg
      rw [if_pos hf] at hg
      injection hg
    refine ⟨hc, ?_, rfl⟩
    have he : (stepV bs (manyVals bs) (firstVals bs)).2.e = 0 ∧ ¬ (stepV bs (manyVals bs) (firstVals bs)).2.pl < bs.length := by
      unfold faultV endS at hf
      split at hf
      · injection hf with h1 _; cases h1
      · rename_i hn
        injection hf with h1 _
        exact ⟨h1, fun hl => hn ⟨h1, hl⟩⟩
    obtain ⟨e1, e2⟩ := stepV_form _ he.1
    obtain ⟨e3, e4⟩ := rd_good numS_ends e1
    have f1 := numS_form e4
    have hlen : (stepV bs (manyVals bs) (firstVals bs)).1.length = manyVals bs := by
      rw [stepV_len]; simp [firstVals]
    have hd : bs.drop (stepV bs (manyVals bs) (firstVals bs)).2.pl = [] := List.drop_eq_nil_of_le (by omega)
    unfold encV
    rw [hlen]
    have e2 : bs.drop (firstVals bs).2.pl = bodyV (stepV bs (manyVals bs) (firstVals bs)).1 ++ bs.drop (stepV bs (manyVals bs) (firstVals bs)).2.pl := e2
    rw [hd, List.append_nil] at e2
    rw [← e2]
    have f1 : bs.drop 0 = numF (manyVals bs) ++ bs.drop (firstVals bs).2.pl := f1
    rw [← f1]; rfl
theorem stepV_back {pre post : List UInt8} {l : List Val} (hr : ∀ v ∈ l, 1 ≤ v.p ∧ v.p ≤ 4611686018427387904) : ∀ k, k ≤ l.length →
    stepV (pre ++ (bodyV l ++ post)) k ([], ⟨pre.length, 0, 0⟩) = (l.take k, ⟨pre.length + (bodyV (l.take k)).length, 0, 0⟩)
  | 0, _ => by simp [stepV, bodyV]
  | k + 1, hk => by
    have ih := stepV_back (pre := pre) (post := post) hr k (by omega)
    have hlt : k < l.length := by omega
    have hp := hr _ (getD_mem hlt)
    have hb : pre ++ (bodyV l ++ post) = (pre ++ bodyV (l.take k)) ++ ((l.getD k zVal).key ++ (numF (l.getD k zVal).p.toNat ++ (bodyV (l.drop (k + 1)) ++ post))) := by
      have : l = l.take k ++ (l.getD k zVal :: l.drop (k + 1)) := by rw [← drop_getD hlt, List.take_append_drop]
      conv => lhs; rw [this]
      rw [bodyV_append]
      simp [bodyV]
    have p1 : partS 4 (pre ++ (bodyV l ++ post)) (pre.length + (bodyV (l.take k)).length) = .ok ((l.getD k zVal).key, pre.length + (bodyV (l.take k)).length + 4) := by
      rw [hb, ← List.length_append]
      exact partS_back rfl
    have p2 : numS (pre ++ (bodyV l ++ post)) (pre.length + (bodyV (l.take k)).length + 4) = .ok ((l.getD k zVal).p.toNat, pre.length + (bodyV (l.take k)).length + 4 + (numF (l.getD k zVal).p.toNat).length) := by
      rw [hb, ← List.append_assoc, show pre.length + (bodyV (l.take k)).length + 4 = (pre ++ bodyV (l.take k) ++ (l.getD k zVal).key).length from by simp [Nat.add_assoc]]
      exact numS_back (by omega)
    show ((stepV _ k _).1 ++ [Val.of (rd (partS 4 _) zb4 (stepV _ k _).2).1 ((rd (numS _) 0 (rd (partS 4 _) zb4 (stepV _ k _).2).2).1 : Nat)], (rd (numS _) 0 (rd (partS 4 _) zb4 (stepV _ k _).2).2).2) = _
    rw [ih]
    simp only
    rw [rd_step p1]
    simp only
    rw [rd_step p2]
    simp only
    have e1 : Val.of (l.getD k zVal).key ((l.getD k zVal).p.toNat : Nat) = l.getD k zVal := by
      have : (((l.getD k zVal).p.toNat : Nat) : Int) = (l.getD k zVal).p := by omega
      rw [this]
      rfl
    have e2 : l.take (k + 1) = l.take k ++ [l.getD k zVal] := by
      rw [List.take_succ_eq_append_getElem hlt]
      simp [List.getD, hlt]
    rw [e1, bodyV_take hlt, e2]
    simp only [List.length_append, List.length_cons, List.length_nil]
    congr 2
    omega
theorem decV_back {l : List Val} (hc : checkV l = 0) (m : List UInt8) : decV (encV l ++ m) = if m = [] then (l, (0, 0)) else ([], (4, ((encV l).length : Int))) := by
  obtain ⟨c1, c2, c3, c4⟩ := checkV_ok hc
  have hn : rd (numS (encV l ++ m)) 0 ⟨0, 0, 0⟩ = (l.length, ⟨(numF l.length).length, 0, 0⟩) := by
    have h0 := numS_back (a := []) (b := bodyV l ++ m) (n := l.length) (by omega)
    simp only [List.nil_append, List.length_nil, Nat.zero_add] at h0
    unfold encV
    rw [List.append_assoc]
    exact rd_step h0
  have hs : stepV (encV l ++ m) l.length ([], ⟨(numF l.length).length, 0, 0⟩) = (l, ⟨(encV l).length, 0, 0⟩) := by
    have := stepV_back (pre := numF l.length) (post := m) c4 l.length (Nat.le_refl _)
    rw [List.take_length] at this
    unfold encV
    rw [List.append_assoc, this, List.length_append]
  have hm : manyVals (encV l ++ m) = l.length := by unfold manyVals; rw [hn]
  have hst : firstVals (encV l ++ m) = ([], ⟨(numF l.length).length, 0, 0⟩) := by unfold firstVals; rw [hn]
  rw [decV_eq, hm, if_neg (by omega)]
  unfold gaultV faultV
  rw [hm, hst, hs]
  by_cases h0 : m = []
  · subst h0
    have hE : endS (encV l ++ []) ⟨(encV l).length, 0, 0⟩ = (0, 0) := by
      unfold endS
      rw [if_neg (by simp)]
    rw [hE, if_pos rfl, if_pos rfl]
    simp [hc]
  · have hp : 0 < m.length := List.length_pos_iff.2 h0
    have hE : endS (encV l ++ m) ⟨(encV l).length, 0, 0⟩ = (4, ((encV l).length : Int)) := by
      unfold endS
      rw [if_pos ⟨rfl, by rw [List.length_append]; simp only; omega⟩]
    rw [hE, if_neg h0]
    have hn : ((4 : Int), ((encV l).length : Int)) ≠ (0, 0) := fun h => by cases (Prod.mk.inj h).1
    rw [if_neg hn, if_neg hn]
theorem decV_cut {l : List Val} (hc : checkV l = 0) {c : Nat} (h : c < (encV l).length) : (decV ((encV l).take c)).2.1 ≠ 0 := by
  intro h0
  obtain ⟨h1, h2, h3⟩ := decV_good h0
  generalize (decV ((encV l).take c)).1 = m at *
  have hb := decV_back h1 ((encV l).drop c)
  rw [h2, List.take_append_drop] at hb
  have hl := decV_back hc []
  rw [List.append_nil, if_pos rfl] at hl
  rw [hl, if_neg] at hb
  · have := congrArg (fun x => x.2.1) hb
    simp at this
  · intro he
    have := congrArg List.length he
    rw [List.length_drop] at this
    simp at this
    omega
end Go.Proofs.Ytmfaepkmiceoeaa.A

namespace Go.Proofs.Ytmfaepkmiceoeaa.A
open Go Go.Vm
set_option maxRecDepth 10000
set_option linter.unusedVariables false
abbrev u64 (n : Nat) : Value := .int .u64 (n : Nat)
abbrev tri (a b c : Nat) : List Value := [u64 a, u64 b, u64 c]
def bpw (k : Nat) : Nat := if k = 0 then 1 else if k = 1 then 18446744073709551616 else if k = 2 then 340282366920938463463374607431768211456 else 6277101735386680763835789423207666416102355444464034512896
def val3 (a b c : Nat) : Nat := a + b * 18446744073709551616 + c * 340282366920938463463374607431768211456
theorem wrap_add {a x : Nat} (ha : a < 18446744073709551616) (hx : x < 18446744073709551616) : IntKind.u64.wrap ((a : Int) + (x : Int)) = (((a + x) % 18446744073709551616 : Nat) : Int) := by
  rw [wrap_u64]; omega
theorem car1 {a y B : Nat} (ha : a < B) (hy : y < B) (h : (a + y) % B < y) : a + y = (a + y) % B + B := by
  rcases Nat.lt_or_ge (a + y) B with h1 | h1
  · rw [Nat.mod_eq_of_lt h1] at h; omega
  · have : (a + y) % B = a + y - B := by rw [Nat.mod_eq_sub_mod h1, Nat.mod_eq_of_lt (by omega)]
    omega
theorem car0 {a y B : Nat} (ha : a < B) (hy : y < B) (h : ¬ (a + y) % B < y) : a + y = (a + y) % B := by
  rcases Nat.lt_or_ge (a + y) B with h1 | h1
  · rw [Nat.mod_eq_of_lt h1]
  · exfalso
    have : (a + y) % B = a + y - B := by rw [Nat.mod_eq_sub_mod h1, Nat.mod_eq_of_lt (by omega)]
    omega
theorem bpw0 : bpw 0 = 1 := rfl
theorem bpw1 : bpw 1 = 18446744073709551616 := rfl
theorem bpw2 : bpw 2 = 340282366920938463463374607431768211456 := rfl
theorem bpw3 : bpw 3 = 6277101735386680763835789423207666416102355444464034512896 := rfl
theorem s01 {a y b c s : Nat} (h : a + y = s + 18446744073709551616) : val3 s b c + 1 * bpw 1 = val3 a b c + y * bpw 0 := by rw [bpw0, bpw1]; unfold val3; omega
theorem s00 {a y b c s : Nat} (h : a + y = s) : val3 s b c + 0 * bpw 1 = val3 a b c + y * bpw 0 := by rw [bpw0, bpw1]; unfold val3; omega
theorem s11 {a y b c s : Nat} (h : b + y = s + 18446744073709551616) : val3 a s c + 1 * bpw 2 = val3 a b c + y * bpw 1 := by rw [bpw1, bpw2]; unfold val3; omega
theorem s10 {a y b c s : Nat} (h : b + y = s) : val3 a s c + 0 * bpw 2 = val3 a b c + y * bpw 1 := by rw [bpw1, bpw2]; unfold val3; omega
theorem s21 {a y b c s : Nat} (h : c + y = s + 18446744073709551616) : val3 a b s + 1 * bpw 3 = val3 a b c + y * bpw 2 := by rw [bpw2, bpw3]; unfold val3; omega
theorem s20 {a y b c s : Nat} (h : c + y = s) : val3 a b s + 0 * bpw 3 = val3 a b c + y * bpw 2 := by rw [bpw2, bpw3]; unfold val3; omega
attribute [irreducible] bpw val3
theorem add_ok {h : Heap} {q a b c x k : Nat} (hg : h.get q = .cells (tri a b c) 0) (hq : q < h.n) (ha : a < 18446744073709551616) (hb : b < 18446744073709551616) (hc : c < 18446744073709551616) (hx : x < 18446744073709551616) (hk : k ≤ 3) :
    Runs Try.prog T0 (.fn fn_zabQ) [.pointer (some ⟨q, 0, none⟩), .int .i64 k, u64 x] h
      (fun r h' => ∃ a' b' c' y, h'.get q = .cells (tri a' b' c') 0 ∧ a' < 18446744073709551616 ∧ b' < 18446744073709551616 ∧ c' < 18446744073709551616 ∧ Fr (fun i => i = q) h h' ∧ val3 a' b' c' + y * bpw 3 = val3 a b c + x * bpw k) (fun _ _ => False) := by
  refine zabQ_runs ?_
  refine stpP ?_
  refine zabQ_l0_rule (fun m v1 v2 h' => ∃ j y a' b' c' : Nat, j ≤ 3 ∧ m = 3 - j ∧ v1 = .int .i64 j ∧ v2 = u64 y ∧ y < 18446744073709551616 ∧ h'.get q = .cells (tri a' b' c') 0 ∧ q < h'.n ∧ a' < 18446744073709551616 ∧ b' < 18446744073709551616 ∧ c' < 18446744073709551616 ∧ Fr (fun i => i = q) h h' ∧ val3 a' b' c' + y * bpw j = val3 a b c + x * bpw k) ?_ (3 - k) ⟨k, x, a, b, c, hk, rfl, rfl, rfl, hx, hg, hq, ha, hb, hc, Fr.refl, rfl⟩
  rintro m v1 v2 h' x7 x8 x9 x10 x11 x12 x13 x14 x15 x16 x17 x18 x19 x20 x21 x22 x23 x24 x25 x26 x27 x28 x29 x30 ⟨j, y, a', b', c', hj, rfl, rfl, rfl, hy, hg', hq', ha', hb', hc', hf, he⟩
  haveI : HGet h' q _ := ⟨hg'⟩
  haveI : BLt q h' := ⟨hq'⟩
  rcases (show j = 0 ∨ j = 1 ∨ j = 2 ∨ j = 3 by omega) with rfl | rfl | rfl | rfl
  · refine stpP ?_
    refine C.if (fun hpos => ?_) (fun hz => ?_)
    · refine stpP ?_
      rw [wrap_add ha' hy]
      refine C.if (fun hlt => ?_) (fun hge => ?_)
      · refine stpP ?_
        refine zabQ_l0_again (3 - 1) (by omega) ⟨0 + 1, 1, ((a' + y) % 18446744073709551616), b', c', by omega, rfl, rfl, rfl, by omega, by rw [Heap.get_set, if_pos rfl], by simpa using hq', Nat.mod_lt _ (by omega), hb', hc', hf.set fun _ => rfl, ?_⟩
        rw [← he]
        exact s01 (car1 ha' hy (by omega))
      · refine stpP ?_
        refine zabQ_l0_again (3 - 1) (by omega) ⟨0 + 1, 0, ((a' + y) % 18446744073709551616), b', c', by omega, rfl, rfl, rfl, by omega, by rw [Heap.get_set, if_pos rfl], by simpa using hq', Nat.mod_lt _ (by omega), hb', hc', hf.set fun _ => rfl, ?_⟩
        rw [← he]
        exact s00 (car0 ha' hy (by omega))
    · have hy0 : y = 0 := by omega
      refine stpP ?_
      refine ⟨a', b', c', 0, hg', ha', hb', hc', hf, ?_⟩
      rw [← he, hy0, Nat.zero_mul, Nat.zero_mul]
  · refine stpP ?_
    refine C.if (fun hpos => ?_) (fun hz => ?_)
    · refine stpP ?_
      rw [wrap_add hb' hy]
      refine C.if (fun hlt => ?_) (fun hge => ?_)
      · refine stpP ?_
        refine zabQ_l0_again (2 - 1) (by omega) ⟨1 + 1, 1, a', ((b' + y) % 18446744073709551616), c', by omega, rfl, rfl, rfl, by omega, by rw [Heap.get_set, if_pos rfl], by simpa using hq', ha', Nat.mod_lt _ (by omega), hc', hf.set fun _ => rfl, ?_⟩
        rw [← he]
        exact s11 (car1 hb' hy (by omega))
      · refine stpP ?_
        refine zabQ_l0_again (2 - 1) (by omega) ⟨1 + 1, 0, a', ((b' + y) % 18446744073709551616), c', by omega, rfl, rfl, rfl, by omega, by rw [Heap.get_set, if_pos rfl], by simpa using hq', ha', Nat.mod_lt _ (by omega), hc', hf.set fun _ => rfl, ?_⟩
        rw [← he]
        exact s10 (car0 hb' hy (by omega))
    · have hy0 : y = 0 := by omega
      refine stpP ?_
      refine ⟨a', b', c', 0, hg', ha', hb', hc', hf, ?_⟩
      rw [← he, hy0, Nat.zero_mul, Nat.zero_mul]
  · refine stpP ?_
    refine C.if (fun hpos => ?_) (fun hz => ?_)
    · refine stpP ?_
      rw [wrap_add hc' hy]
      refine C.if (fun hlt => ?_) (fun hge => ?_)
      · refine stpP ?_
        refine zabQ_l0_again (1 - 1) (by omega) ⟨2 + 1, 1, a', b', ((c' + y) % 18446744073709551616), by omega, rfl, rfl, rfl, by omega, by rw [Heap.get_set, if_pos rfl], by simpa using hq', ha', hb', Nat.mod_lt _ (by omega), hf.set fun _ => rfl, ?_⟩
        rw [← he]
        exact s21 (car1 hc' hy (by omega))
      · refine stpP ?_
        refine zabQ_l0_again (1 - 1) (by omega) ⟨2 + 1, 0, a', b', ((c' + y) % 18446744073709551616), by omega, rfl, rfl, rfl, by omega, by rw [Heap.get_set, if_pos rfl], by simpa using hq', ha', hb', Nat.mod_lt _ (by omega), hf.set fun _ => rfl, ?_⟩
        rw [← he]
        exact s20 (car0 hc' hy (by omega))
    · have hy0 : y = 0 := by omega
      refine stpP ?_
      refine ⟨a', b', c', 0, hg', ha', hb', hc', hf, ?_⟩
      rw [← he, hy0, Nat.zero_mul, Nat.zero_mul]
  · refine stpP ?_
    exact ⟨a', b', c', y, hg', ha', hb', hc', hf, he⟩
end Go.Proofs.Ytmfaepkmiceoeaa.A

namespace Go.Proofs.Ytmfaepkmiceoeaa.A
open Go Go.Vm
set_option maxRecDepth 10000
set_option linter.unusedVariables false
abbrev wide (n : Nat) : List Value := [u64 (n / 18446744073709551616), u64 (n % 18446744073709551616)]
theorem val3_eq (a b c : Nat) : val3 a b c = a + b * 18446744073709551616 + c * 340282366920938463463374607431768211456 := by unfold val3; rfl
theorem told_ok {h : Heap} {a b : Nat} (ha : a < 18446744073709551616) (hb : b < 18446744073709551616) :
    Runs Try.prog T0 (.fn fn_zbbQ) [.agg ⟨tri a b 0⟩] h (fun r h' => r = .tuple ⟨[.agg ⟨[u64 b, u64 a]⟩, .int .i64 0]⟩ ∧ Fr (fun _ => False) h h') (fun _ _ => False) := by
  refine zbbQ_runs ?_
  refine stpP ?_
  exact ⟨rfl, Fr.refl.push.push⟩
theorem plus_arith {A B a b c y a2 b2 c2 y2 : Nat} (h : A + B < 340282366920938463463374607431768211456)
  (he1 : a + b * 18446744073709551616 + c * 340282366920938463463374607431768211456 + y * 6277101735386680763835789423207666416102355444464034512896 = A % 18446744073709551616 + A / 18446744073709551616 * 18446744073709551616 + 0 * 340282366920938463463374607431768211456 + B % 18446744073709551616 * 1)
  (he2 : a2 + b2 * 18446744073709551616 + c2 * 340282366920938463463374607431768211456 + y2 * 6277101735386680763835789423207666416102355444464034512896 = a + b * 18446744073709551616 + c * 340282366920938463463374607431768211456 + B / 18446744073709551616 * 18446744073709551616)
  (ha : a2 < 18446744073709551616) (hb : b2 < 18446744073709551616) : c2 = 0 ∧ a2 = (A + B) % 18446744073709551616 ∧ b2 = (A + B) / 18446744073709551616 := by
  have e1 : A % 18446744073709551616 + A / 18446744073709551616 * 18446744073709551616 = A := by omega
  have e2 : B % 18446744073709551616 + B / 18446744073709551616 * 18446744073709551616 = B := by omega
  have e3 : a2 + b2 * 18446744073709551616 + c2 * 340282366920938463463374607431768211456 + y2 * 6277101735386680763835789423207666416102355444464034512896 + y * 6277101735386680763835789423207666416102355444464034512896 = A + B := by omega
  have e4 : c2 = 0 := by omega
  have e5 : a2 + b2 * 18446744073709551616 = A + B := by omega
  clear he1 he2 e1 e2 e3
  exact ⟨e4, by omega, by omega⟩
theorem Plus_ok {h : Heap} {N1 N2 : Nat} (hAB : N1 + N2 < 340282366920938463463374607431768211456) :
    Runs Try.prog T0 (.fn fn_zwQ) [.agg ⟨wide N1⟩, .agg ⟨wide N2⟩] h (fun r h' => r = .tuple ⟨[.agg ⟨wide (N1 + N2)⟩, .int .i64 0]⟩ ∧ Fr (fun _ => False) h h') (fun _ _ => False) := by
  have hA0 : N1 % 18446744073709551616 < 18446744073709551616 := by omega
  have hA1 : N1 / 18446744073709551616 < 18446744073709551616 := by omega
  have hB0 : N2 % 18446744073709551616 < 18446744073709551616 := by omega
  have hB1 : N2 / 18446744073709551616 < 18446744073709551616 := by omega
  refine zwQ_runs ?_
  refine stpP ?_
  simp only [Heap.n_push]
  generalize hh : (((h.push (.cells (wide N1) 0)).push (.cells (wide N2) 0)).push (.cells [.int .u64 0, .int .u64 0] 0)).push (.cells (tri (N1 % 18446744073709551616) (N1 / 18446744073709551616) 0) 0) = h0
  have f0 : Fr (fun _ => False) h h0 := by rw [← hh]; exact Fr.refl.push.push.push.push
  have n0 : h0.n = h.n + 4 := by rw [← hh]; rfl
  have gB : HGet h0 (h.n + 1) (.cells (wide N2) 0) := ⟨by rw [← hh, Heap.get_push, if_neg (by simp), Heap.get_push, if_neg (by simp), Heap.get_push, if_pos (by simp)]⟩
  have gR : HGet h0 (h.n + 1 + 1) (.cells [.int .u64 0, .int .u64 0] 0) := ⟨by rw [← hh, Heap.get_push, if_neg (by simp), Heap.get_push, if_pos (by simp)]⟩
  have gQ : HGet h0 (h.n + 1 + 1 + 1) (.cells (tri (N1 % 18446744073709551616) (N1 / 18446744073709551616) 0) 0) := ⟨by rw [← hh, Heap.get_push, if_pos (by simp)]⟩
  clear hh
  refine O.call' (add_ok (k := 0) gQ.eq (by omega) hA0 hA1 (by omega) hB0 (by omega)) (fun r h1 hr => ?_)
  obtain ⟨a', b', c', y, hg1, ha', hb', hc', hf1, he1⟩ := hr
  have n1 := hf1.n
  haveI := hf1.keep gB (by omega) (by omega)
  refine stpP ?_
  refine O.call' (add_ok (k := 1) hg1 (by omega) ha' hb' hc' hB1 (by omega)) (fun r h2 hr => ?_)
  obtain ⟨a2, b2, c2, y2, hg2, ha2, hb2, hc2, hf2, he2⟩ := hr
  have n2 := hf2.n
  rw [val3_eq, val3_eq, bpw0, bpw3] at he1
  rw [val3_eq, val3_eq, bpw1, bpw3] at he2
  obtain ⟨e2, e3, e4⟩ := plus_arith hAB he1 he2 ha2 hb2
  subst e2 e3 e4
  haveI : HGet h2 _ _ := ⟨hg2⟩
  haveI := hf2.keep (hf1.keep gR (by omega) (by omega)) (by omega) (by omega)
  refine stpP ?_
  refine O.call' (told_ok ha2 hb2) (fun r h3 hr => ?_)
  obtain ⟨rfl, hf3⟩ := hr
  have n3 := hf3.n
  haveI := hf3.keep (hf2.keep (hf1.keep gR (by omega) (by omega)) (by omega) (by omega)) (by omega) id
  haveI : BLt (h.n + 1 + 1) h3 := ⟨by omega⟩
  refine stpP ?_
  refine ⟨rfl, Fr.set (Fr.trans (S := fun _ => False) f0 (Fr.trans (S := fun i => i = h.n + 1 + 1 + 1) (hf1.trans' hf2) hf3 fun _ _ h => h.elim) fun i hi e => by omega) fun hlt => by omega⟩
theorem Of_ok {h : Heap} {n : Nat} (hn : n < 9223372036854775808) :
    Runs Try.prog T0 (.fn fn_zvQ) [.int .i64 n] h (fun r h' => r = .tuple ⟨[.agg ⟨wide n⟩, .int .i64 0]⟩ ∧ Fr (fun _ => False) h h') (fun _ _ => False) := by
  refine zvQ_runs ?_
  refine stpP ?_
  have h1 : n / 18446744073709551616 = 0 := by omega
  have h2 : n % 18446744073709551616 = n := by omega
  exact ⟨by simp only [wide, h1, h2]; rfl, Fr.refl.push⟩
end Go.Proofs.Ytmfaepkmiceoeaa.A

namespace Go.Proofs.Ytmfaepkmiceoeaa.A
open Go Go.Vm
set_option maxRecDepth 10000
set_option linter.unusedVariables false
def ncells (l : List Nat) : List Value := l.map fun n => .int .i64 (n : Nat)
theorem ncells_len (l : List Nat) : (ncells l).length = l.length := by simp [ncells]
theorem ncells_one : ∀ l : List Nat, (ncells l).all Value.oneCell' = true
  | [] => rfl
  | n :: l => by simp only [ncells, List.map_cons, List.all_cons]; rw [show (l.map fun n : Nat => Value.int .i64 (n : Nat)) = ncells l from rfl, ncells_one l]; rfl
theorem ncells_append (l m : List Nat) : ncells (l ++ m) = ncells l ++ ncells m := by simp [ncells]
theorem int_cell {h : Heap} {b o n k : Nat} {l : List Nat} (hc : cellsAt h b o n = some (ncells l)) (hn : l.length = n) (hk : k < n) : Cell h b (o + k) (.int .i64 (l.getD k 0 : Nat)) := ⟨by
  have := cellsAt_sub (k := k) (m := 1) hc (by omega)
  rw [this]
  have hk' : k < (ncells l).length := by rw [ncells_len]; omega
  rw [List.drop_eq_getElem_cons hk']
  simp [ncells, List.getD, List.getElem?_eq_getElem (show k < l.length by omega)]⟩
def sumN (l : List Nat) : Nat := l.foldl (· + ·) 0
theorem sumN_snoc (l : List Nat) (n : Nat) : sumN (l ++ [n]) = sumN l + n := by simp [sumN]
theorem sumN_append_le (l m : List Nat) : sumN l ≤ sumN (l ++ m) := by
  induction m generalizing l with
  | nil => simp
  | cons n m ih =>
    have := ih (l ++ [n])
    rw [sumN_snoc] at this
    simp only [List.append_assoc, List.cons_append, List.nil_append] at this
    omega
theorem sumN_take (l : List Nat) {k : Nat} (hk : k < l.length) : sumN (l.take (k + 1)) = sumN (l.take k) + l.getD k 0 := by
  have : l.take (k + 1) = l.take k ++ [l.getD k 0] := by
    rw [List.take_succ_eq_append_getElem hk]
    simp [List.getD, hk]
  rw [this, sumN_snoc]
theorem sumN_take_le (l : List Nat) (k : Nat) : sumN (l.take k) ≤ sumN l := by
  have := sumN_append_le (l.take k) (l.drop k)
  rwa [List.take_append_drop] at this
theorem Sum1_ok {h : Heap} {N n : Nat} (hn : n < 9223372036854775808) (hs : N + n < 340282366920938463463374607431768211456) :
    Runs Try.prog T0 (.fn fn_zyQ) [.agg ⟨wide N⟩, .int .i64 n] h (fun r h' => r = .tuple ⟨[.agg ⟨wide (N + n)⟩, .int .i64 0]⟩ ∧ Fr (fun _ => False) h h') (fun _ _ => False) := by
  refine zyQ_runs ?_
  refine stpP ?_
  refine O.call' (Of_ok hn) (fun r h1 hr => ?_)
  obtain ⟨rfl, hf1⟩ := hr
  have n1 := hf1.n
  simp only [Heap.n_push] at n1
  have gA : HGet h1 h.n (.cells (wide N) 0) := hf1.keep (b := h.n) inferInstance (by simp; omega) id
  have gB : HGet h1 (h.push (.cells (wide N) 0)).n (.cells [.int .u64 0, .int .u64 0] 0) := hf1.keep inferInstance (by simp) id
  haveI := gA
  haveI := gB
  haveI : BLt h.n h1 := ⟨by omega⟩
  haveI : BLt (h.push (.cells (wide N) 0)).n h1 := ⟨by simp; omega⟩
  refine stpP ?_
  refine O.call' (Plus_ok hs) (fun r h2 hr => ?_)
  obtain ⟨rfl, hf2⟩ := hr
  have n2 := hf2.n
  simp only [Heap.n_push] at n2
  haveI := hf2.keep (b := (h.push (.cells (wide N) 0)).n) inferInstance (by simp; omega) id
  haveI : BLt (h.push (.cells (wide N) 0)).n h2 := ⟨by simp; omega⟩
  refine stpP ?_
  exact ⟨rfl, Fr.set (Fr.trans (S := fun _ => False) (Fr.trans (S := fun _ => False) Fr.refl.push.push hf1 fun _ _ h => h) (Fr.trans (S := fun _ => False) Fr.refl.push hf2 fun _ _ h => h) fun _ _ h => h) fun h => by simp at h; omega⟩
theorem fold_ok {h : Heap} {v : Value} {l : List Nat} (hv : Rd h 1 v (ncells l) l.length) (hr : ∀ n ∈ l, n < 9223372036854775808) (hs : sumN l < 340282366920938463463374607431768211456) (hsm : l.length < 1048576) :
    Runs Try.prog T0 (.fn fn_zzQ) [.agg ⟨[.int .u64 0, .int .u64 0]⟩, v, .func (.func fn_zyQ) ⟨[]⟩ ⟨[]⟩] h (fun r h' => r = .tuple ⟨[.agg ⟨wide (sumN l)⟩, .int .i64 0]⟩ ∧ Fr (fun _ => False) h h') (fun _ _ => False) := by
  obtain ⟨a, cap, rfl, hlen, hc⟩ := hv
  refine zzQ_runs ?_
  refine stpP ?_
  simp only [Heap.n_push]
  refine zzQ_l0_rule (fun m v15 h' => ∃ k : Nat, k ≤ l.length ∧ m = l.length - k ∧ v15 = .int .i64 k ∧ h'.get h.n = .cells (wide (sumN (l.take k))) 0 ∧ h'.get (h.n + 1) = .cells [.int .u64 0, .int .u64 0] 0 ∧ h.n + 1 < h'.n ∧ Fr (fun _ => False) h h') ?_ l.length ⟨0, by omega, rfl, rfl, ?_, ?_, by simp, Fr.refl.push.push⟩
  · rintro m v15 h' x7 x9 x10 x11 x12 x16 x17 x18 x19 x20 x21 x22 x23 x24 x25 x26 x27 x28 x29 x30 x31 ⟨k, hk, rfl, rfl, hgA, hgB, hlt', hf⟩
    haveI : HGet h' h.n _ := ⟨hgA⟩
    haveI : HGet h' (h.n + 1) _ := ⟨hgB⟩
    haveI : BLt h.n h' := ⟨by omega⟩
    haveI : BLt (h.n + 1) h' := ⟨by omega⟩
    refine stpP ?_
    refine C.if (fun hlt => ?_) (fun hge => ?_)
    · have hlt : k < l.length := by omega
      obtain ⟨b, o, sp, rfl, hb, hcc⟩ := hc (by omega)
      have hcc' : cellsAt h' b o l.length = some (ncells l) := by rw [cellsAt_keep hf hb id]; simpa using hcc
      haveI := int_cell hcc' rfl hlt
      have hn := hr _ (show l.getD k 0 ∈ l by simp [List.getD, hlt])
      have hst := sumN_take l hlt
      have hsl := sumN_take_le l (k + 1)
      refine stpP ?_
      refine O.call' (Sum1_ok (N := sumN (l.take k)) (n := l.getD k 0) hn (by omega)) (fun r h1 hr1 => ?_)
      obtain ⟨rfl, hf1⟩ := hr1
      rw [← hst]
      have n1 := hf1.n
      have gA1 := hf1.keep (b := h.n) ⟨hgA⟩ (by omega) id
      have gB1 := hf1.keep (b := h.n + 1) ⟨hgB⟩ (by omega) id
      haveI := gA1
      haveI := gB1
      haveI : BLt h.n h1 := ⟨by omega⟩
      haveI : BLt (h.n + 1) h1 := ⟨by omega⟩
      refine stpP ?_
      refine zzQ_l0_again (l.length - (k + 1)) (by omega) ⟨k + 1, by omega, rfl, rfl, by rw [Heap.get_set, if_pos rfl], ?_, by simp; omega, ?_⟩
      · rw [Heap.get_set, if_neg (by omega), Heap.get_push, if_neg (by omega), gB1.eq]
      · exact Fr.set (Fr.push (hf.trans' hf1)) fun h => by omega
    · obtain rfl : k = l.length := by omega
      rw [List.take_length] at *
      refine stpP ?_
      exact ⟨rfl, Fr.set hf fun h => by omega⟩
  · rw [Heap.get_push, if_neg (by simp), Heap.get_push, if_pos rfl]
    simp [sumN]
  · rw [Heap.get_push, if_pos (by simp)]
theorem WSum_ok {h : Heap} {v : Value} {l : List Nat} (hv : Rd h 1 v (ncells l) l.length) (hr : ∀ n ∈ l, n < 9223372036854775808) (hs : sumN l < 340282366920938463463374607431768211456) (hsm : l.length < 1048576) :
    Runs Try.prog T0 (.fn fn_zxQ) [v] h (fun r h' => r = .tuple ⟨[.agg ⟨wide (sumN l)⟩, .int .i64 0]⟩ ∧ Fr (fun _ => False) h h') (fun _ _ => False) := by
  have hv0 := hv
  obtain ⟨a, cap, rfl, hlen, hc⟩ := hv
  refine zxQ_runs ?_
  refine stpP ?_
  refine O.call' (fold_ok (hv0.keep (S := fun _ => False) Fr.refl.push fun _ _ => id) hr hs hsm) (fun r h1 hr1 => ?_)
  obtain ⟨rfl, hf1⟩ := hr1
  have n1 := hf1.n
  simp only [Heap.n_push] at n1
  haveI := hf1.keep (b := h.n) inferInstance (by simp) id
  haveI : BLt h.n h1 := ⟨by omega⟩
  refine stpP ?_
  exact ⟨rfl, Fr.set (Fr.trans (S := fun _ => False) Fr.refl.push hf1 fun _ _ h => h) fun h => by omega⟩
end Go.Proofs.Ytmfaepkmiceoeaa.A

namespace Go.Proofs.Ytmfaepkmiceoeaa.A
open Go Go.Vm
set_option maxRecDepth 10000
set_option linter.unusedVariables false
def powersV (l : List Val) : List Nat := l.map fun v => v.p.toNat
theorem powersV_len (l : List Val) : (powersV l).length = l.length := by simp [powersV]
theorem powersV_take {l : List Val} {k : Nat} (hk : k < l.length) : powersV (l.take (k + 1)) = powersV (l.take k) ++ [(l.getD k zVal).p.toNat] := by
  have : l.take (k + 1) = l.take k ++ [l.getD k zVal] := by
    rw [List.take_succ_eq_append_getElem hk]
    simp [List.getD, hk]
  rw [this]
  simp [powersV]
theorem sumN_le {l : List Nat} {b : Nat} (h : ∀ n ∈ l, n ≤ b) : sumN l ≤ l.length * b := by
  have key : ∀ (l : List Nat) (a : Nat), (∀ n ∈ l, n ≤ b) → l.foldl (· + ·) a ≤ a + l.length * b := by
    intro l
    induction l with
    | nil => intro a _; simp
    | cons n l ih =>
      intro a h
      have h1 := ih (a + n) fun m hm => h m (by simp [hm])
      have h2 := h n (by simp)
      rw [List.foldl_cons, List.length_cons, Nat.succ_mul]
      omega
  have := key l 0 h
  unfold sumN
  omega
theorem powersV_mem {l : List Val} (h : ∀ v ∈ l, 1 ≤ v.p ∧ v.p ≤ 4611686018427387904) : ∀ n ∈ powersV l, n ≤ 4611686018427387904 := by
  intro n hn
  obtain ⟨v, hv, rfl⟩ := List.mem_map.1 hn
  have := h v hv
  omega
theorem one_int {h : Heap} {n : Nat} {es : Nat} : newCells (h.push (.cells [.int .i64 (n : Nat)] es)) 1 [.int .i64 0] false (.slice (some ⟨h.n, 0, none⟩) 1 1) = some (1, ncells [n]) :=
  (Rd.mk (size := 1) (n := 1) (cap := 1) (sp := none) (o := 0) (b := h.n) (c := ncells [n]) (by simp) (by rw [cellsAt_of (c := [.int .i64 (n : Nat)]) (by rw [Heap.get_push, if_pos rfl]; rfl) (by simp)]; rfl)).new _
def totalS (l : List Val) : Nat := if checkV l = 0 then sumN (powersV l) else 0
theorem VTotal_ok {h : Heap} {v : Value} {l : List Val} (hv : Rd h 5 v (vcells l) l.length) : Runs Try.prog T0 (.fn fn_zsQ) [v] h
    (fun r h' => r = .tuple ⟨[.agg ⟨wide (totalS l)⟩, .int .i64 (checkV l)]⟩ ∧ Fr (fun _ => False) h h') (fun _ _ => False) := by
  have k1 := VCheck_ok (hv.keep (S := fun _ => False) (Fr.refl.push (o := .cells [.int .u64 0, .int .u64 0] 0)) fun _ _ => id)
  obtain ⟨a, cap, rfl, hlen, hc⟩ := hv
  refine zsQ_runs ?_
  refine stpP ?_
  refine O.call' k1 (fun r h1 hr => ?_)
  obtain ⟨rfl, hf1⟩ := hr
  have n1 := hf1.n
  simp only [Heap.n_push] at n1
  have gA1 : HGet h1 h.n (.cells [.int .u64 0, .int .u64 0] 0) := hf1.keep (b := h.n) HGet.new (by simp) id
  have f1 : Fr (fun _ => False) h h1 := Fr.trans (S := fun _ => False) Fr.refl.push hf1 fun _ _ h => h
  haveI := gA1
  haveI : BLt h.n h1 := ⟨by omega⟩
  refine stpP ?_
  unfold totalS
  refine C.ifN (fun hz => ?_) (fun hz => ?_)
  · refine stpP ?_
    rw [if_neg hz]
    exact ⟨rfl, Fr.set f1 fun h => by omega⟩
  · refine stpP ?_
    obtain ⟨c1, c2, c3, c4⟩ := checkV_ok hz
    obtain ⟨b, o, sp, rfl, hb, hcc⟩ := hc (by omega)
    refine zsQ_l0_rule (fun m v5 v16 h' => ∃ k : Nat, k ≤ l.length ∧ m = l.length - k ∧ v16 = .int .i64 k ∧ Own h' 1 v5 (ncells (powersV (l.take k))) k ∧ (∀ i, ownedBy v5 i → h1.n ≤ i) ∧ Fr (fun _ => False) h1 h') ?_ l.length ⟨0, by omega, rfl, rfl, .none, fun i hi => hi.elim, Fr.refl⟩
    rintro m v5 v16 h' x7 x17 x18 x19 x20 x21 x22 x23 x24 x25 ⟨k, hk, rfl, rfl, ho, hnew, hf⟩
    refine stpP ?_
    refine C.if (fun hlt => ?_) (fun hge => ?_)
    · have hlt : k < l.length := by omega
      have hcc' : cellsAt h' b o (l.length * 5) = some (vcells l) := by rw [cellsAt_keep (f1.trans' hf) hb id]; exact hcc
      haveI := val_cells hcc' rfl hlt
      have hr := c4 _ (getD_mem hlt)
      refine stpP ?_
      have e1 : (l.getD k zVal).p = (((l.getD k zVal).p.toNat : Nat) : Int) := by omega
      have hn' := hf.n
      have f2 : ∀ {o1 o2 : AObj}, Fr (fun _ => False) h' ((h'.push o1).push o2) := Fr.refl.push.push
      rw [e1]
      refine O.append (size := 1) (bytes := 8) (n := k) (m := 1) (d := ncells [(l.getD k zVal).p.toNat]) (ho.keep f2 fun _ _ => id) one_int (by simp [ncells]) (ncells_one _) (by omega) (by omega) (by omega) (fun v2 h2 ho2 hf2 hn2 => ?_)
      refine stpP ?_
      refine zsQ_l0_again (l.length - (k + 1)) (by omega) ⟨k + 1, by omega, rfl, rfl, ?_, fun i hi => ?_, ?_⟩
      · rw [powersV_take hlt, ncells_append]
        exact ho2
      · rcases hn2 i hi with e | e
        · exact hnew i e
        · simp at e; omega
      · exact Fr.trans (S := fun _ => False) (hf.trans' f2) hf2 fun i hi e => by have := hnew i e; omega
    · obtain rfl : k = l.length := by omega
      rw [List.take_length] at *
      refine stpP ?_
      have hm := powersV_mem c4
      have hsl := sumN_le hm
      rw [powersV_len] at hsl
      have hrd := ho.rd
      rw [← powersV_len l] at hrd
      have hn' := hf.n
      refine O.call' (WSum_ok (l := powersV l) hrd (fun n hn => by have := hm n hn; omega) (by omega) (by rw [powersV_len]; omega)) (fun r h2 hr => ?_)
      obtain ⟨rfl, hf2⟩ := hr
      have n2 := hf2.n
      haveI := (hf.trans' hf2).keep gA1 (by omega) id
      haveI : BLt h.n h2 := ⟨by omega⟩
      refine stpP ?_
      rw [hz] at *
      rw [if_pos rfl]
      exact ⟨rfl, Fr.set (f1.trans' (hf.trans' hf2)) fun h => by omega⟩
end Go.Proofs.Ytmfaepkmiceoeaa.A

namespace Go.Proofs.Ytmfaepkmiceoeaa.A
open Go Go.Vm
set_option maxRecDepth 10000
set_option linter.unusedVariables false
def kn (v : Val) : Nat := v.k0.toNat * 16777216 + v.k1.toNat * 65536 + v.k2.toNat * 256 + v.k3.toNat
theorem u8ne {a b : UInt8} : a ≠ b ↔ a.toNat ≠ b.toNat := ⟨fun h e => h (UInt8.toNat_inj.1 e), fun h e => h (by rw [e])⟩
theorem u8lt' {a b : UInt8} : a < b ↔ a.toNat < b.toNat := Iff.rfl
theorem cmp_kn (v w : Val) : cmpB v.key w.key = if kn v < kn w then -1 else if kn v = kn w then 0 else 1 := by
  obtain ⟨a0, a1, a2, a3, p⟩ := v
  obtain ⟨b0, b1, b2, b3, q⟩ := w
  have e : cmpB (Val.key ⟨a0, a1, a2, a3, p⟩) (Val.key ⟨b0, b1, b2, b3, q⟩) = _ := cmp4 a0 a1 a2 a3 b0 b1 b2 b3
  rw [e]
  unfold kn
  simp only [u8ne, u8lt']
  have h0 := a0.toNat_lt; have h1 := a1.toNat_lt; have h2 := a2.toNat_lt; have h3 := a3.toNat_lt
  have g0 := b0.toNat_lt; have g1 := b1.toNat_lt; have g2 := b2.toNat_lt; have g3 := b3.toNat_lt
  generalize a0.toNat = a0 at *; generalize a1.toNat = a1 at *; generalize a2.toNat = a2 at *; generalize a3.toNat = a3 at *
  generalize b0.toNat = b0 at *; generalize b1.toNat = b1 at *; generalize b2.toNat = b2 at *; generalize b3.toNat = b3 at *
  by_cases c0 : a0 = b0
  · rw [if_neg (by omega)]
    by_cases c1 : a1 = b1
    · rw [if_neg (by omega)]
      by_cases c2 : a2 = b2
      · rw [if_neg (by omega)]
        by_cases c3 : a3 = b3
        · rw [if_neg (by omega), if_neg (by omega), if_pos (by omega)]
        · rw [if_pos (by omega)]
          by_cases l : a3 < b3
          · rw [if_pos l, if_pos (by omega)]
          · rw [if_neg l, if_neg (by omega), if_neg (by omega)]
      · rw [if_pos (by omega)]
        by_cases l : a2 < b2
        · rw [if_pos l, if_pos (by omega)]
        · rw [if_neg l, if_neg (by omega), if_neg (by omega)]
    · rw [if_pos (by omega)]
      by_cases l : a1 < b1
      · rw [if_pos l, if_pos (by omega)]
      · rw [if_neg l, if_neg (by omega), if_neg (by omega)]
  · rw [if_pos (by omega)]
    by_cases l : a0 < b0
    · rw [if_pos l, if_pos (by omega)]
    · rw [if_neg l, if_neg (by omega), if_neg (by omega)]
theorem keyLt_kn (v w : Val) : keyLt v.key w.key = decide (kn v < kn w) := by
  unfold keyLt
  rw [cmp_kn]
  by_cases h : kn v < kn w
  · rw [if_pos h]; simp [h]
  · rw [if_neg h]
    by_cases h2 : kn v = kn w
    · rw [if_pos h2]; simp [h2]
    · rw [if_neg h2]; simp [h]
theorem kn_key {v w : Val} : kn v = kn w ↔ v.key = w.key := by
  constructor
  · intro h
    obtain ⟨a0, a1, a2, a3, p⟩ := v
    obtain ⟨b0, b1, b2, b3, q⟩ := w
    unfold kn at h
    have h0 := a0.toNat_lt; have h1 := a1.toNat_lt; have h2 := a2.toNat_lt; have h3 := a3.toNat_lt
    have g0 := b0.toNat_lt; have g1 := b1.toNat_lt; have g2 := b2.toNat_lt; have g3 := b3.toNat_lt
    simp only at h
    have e0 : a0 = b0 := UInt8.toNat_inj.1 (by omega)
    have e1 : a1 = b1 := UInt8.toNat_inj.1 (by omega)
    have e2 : a2 = b2 := UInt8.toNat_inj.1 (by omega)
    have e3 : a3 = b3 := UInt8.toNat_inj.1 (by omega)
    subst e0 e1 e2 e3
    rfl
  · intro h
    unfold kn
    injection h with h0 h
    injection h with h1 h
    injection h with h2 h
    injection h with h3 _
    rw [h0, h1, h2, h3]
theorem steps_rise {least : Int} : ∀ {l : List Val} {o : Option Val}, stepsV least o l = 0 → (∀ x, o = some x → ∀ v ∈ l, kn x < kn v) ∧ l.Pairwise (fun a b => kn a < kn b)
  | [], _, _ => ⟨(fun _ _ v hv => (by cases hv)), List.Pairwise.nil⟩
  | v :: l, o, h => by
    have key : ∀ b : Bool, (if b = true then (9 : Int) else if v.p < least ∨ 4611686018427387904 < v.p then 3 else stepsV least (some v) l) = 0 → b = false ∧ stepsV least (some v) l = 0 := by
      intro b h
      by_cases hA : b = true
      · rw [if_pos hA] at h; cases h
      · rw [if_neg hA] at h
        by_cases hB : v.p < least ∨ 4611686018427387904 < v.p
        · rw [if_pos hB] at h; cases h
        · rw [if_neg hB] at h
          exact ⟨by simpa using hA, h⟩
    obtain ⟨h1, h2⟩ := key _ h
    obtain ⟨h3, h4⟩ := steps_rise h2
    have hv := h3 v rfl
    refine ⟨fun x hx w hw => ?_, .cons hv h4⟩
    subst hx
    have hxv : kn x < kn v := by
      have h1 : (!keyLt x.key v.key) = false := h1
      rw [keyLt_kn] at h1
      simpa using h1
    rcases List.mem_cons.1 hw with rfl | hw
    · exact hxv
    · have := hv w hw; omega
theorem rises {l : List Val} (h : checkV l = 0) {i j : Nat} (hij : i < j) (hj : j < l.length) : kn (l.getD i zVal) < kn (l.getD j zVal) := by
  obtain ⟨_, _, c3, _⟩ := checkV_ok h
  have hp := (steps_rise c3).2
  have := List.pairwise_iff_getElem.1 hp i j (by omega) hj hij
  simpa [List.getD, hj, show i < l.length by omega] using this
end Go.Proofs.Ytmfaepkmiceoeaa.A

namespace Go.Proofs.Ytmfaepkmiceoeaa.A
open Go Go.Vm
set_option maxRecDepth 10000
set_option linter.unusedVariables false
abbrev Val.kcells (v : Val) : List Value := [.int .u8 v.k0.toNat, .int .u8 v.k1.toNat, .int .u8 v.k2.toNat, .int .u8 v.k3.toNat]
theorem compare_ok {h : Heap} {v w : Val} : Runs Try.prog T0 (.fn fn_ztQ) [.agg ⟨v.cells⟩, .agg ⟨w.kcells⟩] h (fun r h' => r = .int .i64 (cmpB v.key w.key) ∧ Fr (fun _ => False) h h') (fun _ _ => False) := by
  refine ztQ_runs ?_
  refine stp ?_
  refine D.callX (Compare_ok (a := v.key) (b := w.key) (Rd.mk (n := 4) (by simp; omega) ?_) (Rd.mk (n := 4) (by simp) ?_)) (fun _ _ _ => rfl) (fun r h1 hr => ?_) (fun _ _ hx => hx.elim)
  · rw [cellsAt_of (c := v.cells) (by rw [Heap.get_push, if_neg (by simp), Heap.get_push, if_pos rfl]; rfl) (by simp)]
    rfl
  · rw [cellsAt_of (c := w.kcells) (by rw [Heap.get_push, if_pos rfl]; rfl) (by simp)]
    rfl
  obtain ⟨rfl, rfl⟩ := hr
  refine stp ?_
  exact ⟨rfl, Fr.refl.push.push⟩
theorem shr1 {P : Program} {ts : List Value} {h : Heap} {x y : Operand} {t t' ty : TypeId} {J : IntKind} {n : Nat} [e1 : Ev ts x (.int .u64 (n : Nat))] [e2 : Ev ts y (.int J 1)] : XOp P ts h (.bin .shr (so (.binOp .shr t x y t') ty) x y) (.int .u64 ((n / 2 : Nat) : Int)) h := by
  have := XOp.shr (P := P) (ts := ts) (h := h) (x := x) (y := y) (t := t) (t' := t') (ty := ty) (K := .u64) (J := J) (p := (n : Int)) (q := 1) (by omega)
  rw [show ((n : Int).fdiv (2 ^ (min (1 : Int).toNat IntKind.u64.bits))) = ((n / 2 : Nat) : Int) from by
    rw [show (2 : Int) ^ (min (1 : Int).toNat IntKind.u64.bits) = 2 from rfl, Int.fdiv_eq_ediv_of_nonneg _ (by omega)]
    omega] at this
  exact this
def atV (l : List Val) (w : Val) (i : Nat) : Prop := i ≤ l.length ∧ (∀ t, t < i → kn (l.getD t zVal) < kn w) ∧ ∀ t, i ≤ t → t < l.length → kn w ≤ kn (l.getD t zVal)
set_option maxHeartbeats 1000000 in
theorem Search_ok {h : Heap} {v : Value} {l : List Val} {w : Val} (hv : Rd h 5 v (vcells l) l.length) (hl : l.length < 1048576) (hup : ∀ i j, i < j → j < l.length → kn (l.getD i zVal) < kn (l.getD j zVal)) :
    Runs Try.prog T0 (.fn fn_ziQ) [v, .agg ⟨w.kcells⟩, .func (.func fn_ztQ) ⟨[]⟩ ⟨[]⟩] h
      (fun r h' => ∃ i, atV l w i ∧ r = .tuple ⟨[.int .i64 (i : Nat), .bool (decide (i < l.length ∧ kn (l.getD i zVal) = kn w))]⟩ ∧ Fr (fun _ => False) h h') (fun _ _ => False) := by
  obtain ⟨a, cap, rfl, hlen, hc⟩ := hv
  refine ziQ_runs ?_
  refine stp ?_
  refine ziQ_l0_rule (fun m v9 v10 h' => ∃ i j : Nat, i ≤ j ∧ j ≤ l.length ∧ m = j - i ∧ v9 = .int .i64 i ∧ v10 = .int .i64 j ∧ (∀ t, t < i → kn (l.getD t zVal) < kn w) ∧ (∀ t, j ≤ t → t < l.length → kn w ≤ kn (l.getD t zVal)) ∧ h'.get h.n = .cells w.kcells 0 ∧ h.n < h'.n ∧ Fr (fun _ => False) h h') ?_ l.length ⟨0, l.length, by omega, Nat.le_refl _, by omega, rfl, rfl, fun t ht => by omega, fun t h1 h2 => by omega, by rw [Heap.get_push, if_pos rfl], by simp, Fr.refl.push⟩
  rintro m v9 v10 h' x11 x15 x16 x17 x18 x19 x20 x21 x22 x23 x24 x25 x26 x27 x28 x29 x30 x31 x32 x33 x34 ⟨i, j, hij, hj, rfl, rfl, rfl, hlo, hhi, hg, hn, hf⟩
  haveI : HGet h' h.n _ := ⟨hg⟩
  haveI : BLt h.n h' := ⟨hn⟩
  refine stp ?_
  refine C.if (fun hlt => ?_) (fun hge => ?_)
  · have hlt : i < j := by omega
    refine stp ?_
    rw [show ((i : Nat) : Int) + ((j : Nat) : Int) = (((i + j : Nat)) : Int) from by omega]
    refine O.how shr1 ?_
    obtain ⟨md, hmd⟩ : ∃ md : Nat, md = (i + j) / 2 := ⟨_, rfl⟩
    rw [← hmd]
    have hm1 : i ≤ md := by omega
    have hm2 : md < j := by omega
    obtain ⟨b, o, sp, rfl, hb, hcc⟩ := hc (by omega)
    have hcc' : cellsAt h' b o (l.length * 5) = some (vcells l) := by rw [cellsAt_keep hf hb id]; exact hcc
    haveI := val_cells hcc' rfl (show md < l.length by omega)
    refine stp ?_
    refine D.callX (compare_ok (v := l.getD md zVal) (w := w)) (fun _ _ _ => rfl) (fun r h1 hr => ?_) (fun _ _ hx => hx.elim)
    obtain ⟨rfl, hf1⟩ := hr
    have n1 := hf1.n
    rw [cmp_kn]
    refine stp ?_
    refine C.if (fun hc1 => ?_) (fun hc1 => ?_)
    · have hkn : kn (l.getD md zVal) < kn w := by
        apply Classical.byContradiction
        intro hno
        rw [if_neg hno] at hc1
        split at hc1 <;> omega
      refine stp ?_
      refine ziQ_l0_again (j - (md + 1)) (by omega) ⟨md + 1, j, by omega, hj, rfl, rfl, rfl, fun t ht => ?_, hhi, by rw [hf1.get _ hn id, hg], by omega, hf.trans' hf1⟩
      rcases Nat.lt_or_ge t md with h2 | h2
      · have := hup t md h2 (by omega); omega
      · obtain rfl : t = md := by omega
        exact hkn
    · have hkn : kn w ≤ kn (l.getD md zVal) := by
        apply Classical.byContradiction
        intro hno
        rw [if_pos (by omega)] at hc1
        omega
      refine stp ?_
      refine ziQ_l0_again (md - i) (by omega) ⟨i, md, by omega, by omega, rfl, rfl, rfl, hlo, fun t h1 h2 => ?_, by rw [hf1.get _ hn id, hg], by omega, hf.trans' hf1⟩
      rcases Nat.lt_or_ge md t with h3 | h3
      · have := hup md t h3 h2; omega
      · obtain rfl : t = md := by omega
        exact hkn
  · obtain rfl : i = j := by omega
    refine stp ?_
    refine D.dec (fun hin => ?_) (fun hout => ?_)
    · have hin : i < l.length := by omega
      obtain ⟨b, o, sp, rfl, hb, hcc⟩ := hc (by omega)
      have hcc' : cellsAt h' b o (l.length * 5) = some (vcells l) := by rw [cellsAt_keep hf hb id]; exact hcc
      haveI := val_cells hcc' rfl hin
      refine stp ?_
      refine D.howT (XOp.mkIndexSl (by omega)) rfl ?_
      refine stp ?_
      refine D.callT (compare_ok (v := l.getD i zVal) (w := w)) (fun _ _ _ => ?_) (fun r h1 hr => ?_)
      · exact StabL.ok
      obtain ⟨rfl, hf1⟩ := hr
      rw [cmp_kn]
      refine stp ?_
      refine ⟨i, ⟨hj, hlo, hhi⟩, ?_, hf.trans' hf1⟩
      have hd : decide ((if kn (l.getD i zVal) < kn w then (-1 : Int) else if kn (l.getD i zVal) = kn w then 0 else 1) = 0) = decide (i < l.length ∧ kn (l.getD i zVal) = kn w) := by
        refine decide_eq_decide.2 ⟨fun h => ⟨hin, ?_⟩, fun h => ?_⟩
        · apply Classical.byContradiction
          intro hno
          rw [if_neg hno] at h
          split at h <;> omega
        · rw [if_neg (by omega), if_pos h.2]
      rw [← hd]
    · refine stp ?_
      refine D.skT ?_ ?_
      · exact StabL.ok
      refine stp ?_
      refine ⟨i, ⟨hj, hlo, hhi⟩, ?_, hf⟩
      rw [decide_eq_false (fun h => hout (by omega))]
end Go.Proofs.Ytmfaepkmiceoeaa.A

namespace Go.Proofs.Ytmfaepkmiceoeaa.A
open Go Go.Vm
set_option maxRecDepth 10000
set_option linter.unusedVariables false
theorem same_key {v w : Val} : same v.kcells w.kcells = decide (kn v = kn w) := by
  by_cases h : kn v = kn w
  · rw [decide_eq_true h]
    have hk := kn_key.1 h
    have : v.kcells = w.kcells := congrArg bcells hk
    rw [this]
    exact same_self _
  · rw [decide_eq_false h]
    refine same_ne.2 fun h2 => h (kn_key.2 ?_)
    have h2 : bcells v.key = bcells w.key := h2
    have := congrArg bytesOf h2
    rw [bytesOf_bcells, bytesOf_bcells] at this
    injection this
def findN (l : List Val) (w : Val) : Option Nat := l.findIdx? fun v => decide (kn v = kn w)
def findA (l : List Val) (w : Val) : Nat := (findN l w).getD 0
theorem findN_some {l : List Val} {w : Val} {i : Nat} (hi : i < l.length) (h : kn (l.getD i zVal) = kn w) (hf : ∀ t, t < i → kn (l.getD t zVal) ≠ kn w) : findN l w = some i := by
  unfold findN
  rw [List.findIdx?_eq_some_iff_getElem]
  refine ⟨hi, by simpa [List.getD, hi] using h, fun t ht => ?_⟩
  have := hf t ht
  simpa [List.getD, show t < l.length by omega] using this
theorem findN_none {l : List Val} {w : Val} (hf : ∀ t, t < l.length → kn (l.getD t zVal) ≠ kn w) : findN l w = none := by
  unfold findN
  rw [List.findIdx?_eq_none_iff]
  intro v hv
  obtain ⟨t, ht, rfl⟩ := List.getElem_of_mem hv
  have := hf t ht
  simpa [List.getD, ht] using this
theorem Find1_ok {h : Heap} {q : Nat} {v w : Val} (hg : h.get q = .cells w.kcells 0) (hq : q < h.n) : Runs Try.prog T0 (.fn fn_zrQ) [.agg ⟨v.cells⟩, .pointer (some ⟨q, 0, none⟩)] h (fun r h' => r = .bool (decide (kn v = kn w)) ∧ Fr (fun _ => False) h h') (fun _ _ => False) := by
  haveI : HGet h q _ := ⟨hg⟩
  haveI : BLt q h := ⟨hq⟩
  refine zrQ_runs ?_
  refine stp ?_
  rw [← same_key]
  exact ⟨rfl, Fr.refl.push⟩
theorem IndexFunc_ok {h : Heap} {q : Nat} {v : Value} {l : List Val} {w : Val} (hv : Rd h 5 v (vcells l) l.length) (hl : l.length < 1048576) (hg : h.get q = .cells w.kcells 0) (hq : q < h.n) :
    Runs Try.prog T0 (.fn fn_zmQ) [v, .func (.func fn_zrQ) ⟨[]⟩ ⟨[.pointer (some ⟨q, 0, none⟩)]⟩] h
      (fun r h' => r = .int .i64 (match findN l w with | some i => ((i : Nat) : Int) | none => -1) ∧ Fr (fun _ => False) h h') (fun _ _ => False) := by
  obtain ⟨a, cap, rfl, hlen, hc⟩ := hv
  refine zmQ_runs ?_
  refine stp ?_
  refine zmQ_l0_rule (fun m v8 h' => ∃ k : Nat, k ≤ l.length ∧ m = l.length - k ∧ v8 = .int .i64 k ∧ (∀ t, t < k → kn (l.getD t zVal) ≠ kn w) ∧ Fr (fun _ => False) h h') ?_ l.length ⟨0, by omega, rfl, rfl, fun t ht => by omega, Fr.refl⟩
  rintro m v8 h' x4 x5 x9 x10 x11 x12 x13 x14 x15 x16 x17 x18 ⟨k, hk, rfl, rfl, hno, hf⟩
  refine stp ?_
  refine C.if (fun hlt => ?_) (fun hge => ?_)
  · have hlt : k < l.length := by omega
    obtain ⟨b, o, sp, rfl, hb, hcc⟩ := hc (by omega)
    have hcc' : cellsAt h' b o (l.length * 5) = some (vcells l) := by rw [cellsAt_keep hf hb id]; exact hcc
    haveI := val_cells hcc' rfl hlt
    have n' := hf.n
    refine stp ?_
    refine O.call' (Find1_ok (v := l.getD k zVal) (w := w) (by rw [hf.get _ hq id, hg]) (by omega)) (fun r h1 hr => ?_)
    obtain ⟨rfl, hf1⟩ := hr
    refine stp ?_
    refine C.if (fun hy => ?_) (fun hn => ?_)
    · refine stp ?_
      rw [findN_some hlt hy hno]
      exact ⟨rfl, hf.trans' hf1⟩
    · refine stp ?_
      refine zmQ_l0_again (l.length - (k + 1)) (by omega) ⟨k + 1, by omega, rfl, rfl, fun t ht => ?_, hf.trans' hf1⟩
      rcases Nat.lt_or_ge t k with h2 | h2
      · exact hno t h2
      · obtain rfl : t = k := by omega
        exact hn
  · obtain rfl : k = l.length := by omega
    refine stp ?_
    rw [findN_none hno]
    exact ⟨rfl, hf⟩
theorem Find_ok {h : Heap} {v : Value} {l : List Val} {w : Val} (hv : Rd h 5 v (vcells l) l.length) (hl : l.length < 1048576) :
    Runs Try.prog T0 (.fn fn_zqQ) [v, .agg ⟨w.kcells⟩] h (fun r h' => r = .tuple ⟨[.int .i64 (findA l w : Nat), .bool (findN l w).isSome]⟩ ∧ Fr (fun _ => False) h h') (fun _ _ => False) := by
  have hv0 := hv
  obtain ⟨a, cap, rfl, hlen, _⟩ := hv
  refine zqQ_runs ?_
  refine stp ?_
  have f0 : Fr (fun _ => False) h (h.push (.cells w.kcells 0)) := Fr.refl.push
  have g0 : HGet (h.push (.cells w.kcells 0)) h.n (.cells w.kcells 0) := HGet.new
  have n0 : (h.push (.cells w.kcells 0)).n = h.n + 1 := rfl
  generalize h.push (.cells w.kcells 0) = h0 at *
  refine O.call' (VCheck_ok (hv0.keep f0 fun _ _ => id)) (fun r h1 hr => ?_)
  obtain ⟨rfl, hf1⟩ := hr
  have n1 := hf1.n
  have g1 := hf1.keep g0 (by omega) id
  have f1 := f0.trans' hf1
  haveI := g1
  refine stp ?_
  refine C.if (fun hz => ?_) (fun hz => ?_)
  · refine stp ?_
    refine O.call' (Search_ok (w := w) (hv0.keep f1 fun _ _ => id) hl (fun i j hij hj => rises hz hij hj)) (fun r h2 hr => ?_)
    obtain ⟨i, ⟨hi, hlo, hhi⟩, rfl, hf2⟩ := hr
    refine stp ?_
    by_cases hy : i < l.length ∧ kn (l.getD i zVal) = kn w
    · rw [decide_eq_true hy]
      refine stp ?_
      have hs := findN_some hy.1 hy.2 fun t ht => by have := hlo t ht; omega
      unfold findA
      rw [hs]
      exact ⟨rfl, f1.trans' hf2⟩
    · rw [decide_eq_false hy]
      refine stp ?_
      have hs : findN l w = none := findN_none fun t ht => by
        rcases Nat.lt_or_ge t i with h2 | h2
        · have := hlo t h2; omega
        · rcases Nat.lt_or_ge i t with h3 | h3
          · have h4 := rises hz h3 ht
            have h5 := hhi i (Nat.le_refl _) (by omega)
            omega
          · obtain rfl : t = i := by omega
            exact fun h => hy ⟨ht, h⟩
      unfold findA
      rw [hs]
      exact ⟨rfl, f1.trans' hf2⟩
  · refine stp ?_
    refine O.call' (IndexFunc_ok (w := w) (hv0.keep f1 fun _ _ => id) hl g1.eq (by omega)) (fun r h2 hr => ?_)
    obtain ⟨rfl, hf2⟩ := hr
    unfold findA
    cases hs : findN l w with
    | none =>
      refine stp ?_
      exact ⟨rfl, f1.trans' hf2⟩
    | some i =>
      refine stp ?_
      refine ⟨?_, f1.trans' hf2⟩
      have e1 : (if (0 : Int) > ((i : Nat) : Int) then (0 : Int) else ((i : Nat) : Int)) = ((i : Nat) : Int) := if_neg (by omega)
      have e2 : decide ((0 : Int) ≤ ((i : Nat) : Int)) = true := decide_eq_true (by omega)
      show Value.tuple ⟨[.int .i64 (if (0 : Int) > ((i : Nat) : Int) then (0 : Int) else ((i : Nat) : Int)), .bool (decide ((0 : Int) ≤ ((i : Nat) : Int)))]⟩ = _
      rw [e1, e2]
      rfl
end Go.Proofs.Ytmfaepkmiceoeaa.A

namespace Go.Proofs.Ytmfaepkmiceoeaa.A
open Go Go.Vm
set_option maxRecDepth 10000
set_option linter.unusedVariables false
theorem SameVals_same {h : Heap} {v w : Value} {l : List Val} (hv : Rd h 5 v (vcells l) l.length) (hw : Rd h 5 w (vcells l) l.length) (hs : l.length < 1048576) :
    Runs Try.prog T0 (.fn fn_zeQ) [v, w] h (fun r h' => r = .bool true ∧ h' = h) (fun _ _ => False) := by
  obtain ⟨a, cap, rfl, hlen, hc⟩ := hv
  obtain ⟨a', cap', rfl, hlen', hc'⟩ := hw
  refine zeQ_runs ?_
  refine stpP ?_
  refine zeQ_l0_rule (fun m v5 v6 h' => ∃ k : Nat, k ≤ l.length ∧ m = l.length - k ∧ v6 = .int .i64 k ∧ v5 = .bool true ∧ h' = h) ?_ l.length ⟨0, by omega, rfl, rfl, by simp, rfl⟩
  rintro m v5 v6 h' x12 x13 x14 x15 x16 x17 x18 x19 x20 x21 x22 x23 x24 x25 x26 x27 x28 x29 ⟨k, hk, rfl, rfl, rfl, rfl⟩
  refine stpP ?_
  refine C.if (fun hlt => ?_) (fun hge => ?_)
  · have hlt : k < l.length := by omega
    obtain ⟨b, o, sp, rfl, hb, hcc⟩ := hc (by omega)
    obtain ⟨b', o', sp', rfl, hb', hcc'⟩ := hc' (by omega)
    haveI := val_cells hcc rfl hlt
    haveI := val_cells hcc' rfl hlt
    refine stpP ?_
    rw [same_self]
    exact zeQ_l0_again (l.length - (k + 1)) (by omega) ⟨k + 1, by omega, rfl, rfl, rfl, rfl⟩
  · refine stpP ?_
    exact ⟨rfl, rfl⟩
theorem Rd.block_lt {h : Heap} {size n : Nat} {v : Value} {c : List Value} (hv : Rd h size v c n) {i : Nat} (hi : blockOf v i) : i < h.n := by
  obtain ⟨a, cap, rfl, _, hc⟩ := hv
  cases a with
  | none => exact hi.elim
  | some a =>
    obtain ⟨h1, h2⟩ := hi
    obtain ⟨b, o, sp, e, hb, _⟩ := hc h2
    cases e
    subst h1
    exact hb
end Go.Proofs.Ytmfaepkmiceoeaa.A

namespace Go.Proofs.Ytmfaepkmiceoeaa.A
open Go Go.Vm
set_option maxRecDepth 10000
set_option linter.unusedVariables false
theorem SameBytes_ok {h : Heap} {v w : Value} {a b : List UInt8} (hv : Rd h 1 v (bcells a) a.length) (hw : Rd h 1 w (bcells b) b.length) :
    Runs Try.prog T0 (.fn fn_zdQ) [v, w] h (fun r h' => r = .bool (decide (a = b)) ∧ h' = h) (fun _ _ => False) := by
  refine zdQ_runs ?_
  refine stp ?_
  refine O.how (XOp.mkStr hv) ?_
  refine stp ?_
  refine O.how (XOp.mkStr hw) ?_
  refine stp ?_
  refine ⟨?_, rfl⟩
  congr 1
  rw [ByteArray.toList_eq, ByteArray.toList_eq]
  show (a == b) = decide (a = b)
  by_cases e : a = b
  · subst e; simp
  · simp [e]
end Go.Proofs.Ytmfaepkmiceoeaa.A

namespace Go.Proofs.Ytmfaepkmiceoeaa.A
open Go Go.Vm
set_option maxRecDepth 10000
set_option linter.unusedVariables false
theorem CopyBytes_ok {h : Heap} {v : Value} {l : List UInt8} (hr : Rd h 1 v (bcells l) l.length) (hs : l.length < 1048576) :
    Runs Try.prog T0 (.fn fn_zbQ) [v] h (fun r h' => Own h' 1 r (bcells l) l.length ∧ (∀ i, ownedBy r i → h.n ≤ i) ∧ Fr (fun _ => False) h h') (fun _ _ => False) := by
  refine zbQ_runs ?_
  refine stp ?_
  have hz : Own (h.push (.cells [] 0)) 1 (.slice (some ⟨h.n, 0, none⟩) 0 0) [] 0 := .lit (by simp) (by rw [Heap.get_push, if_pos rfl])
  refine O.append hz ((hr.keep (S := fun _ => False) Fr.refl.push fun _ _ => id).new [.int .u8 0]) (by rw [bcells_len]; omega) (bcells_one l) (by omega) (by omega) (by omega) (fun v' h' h1 h2 h3 => ?_)
  refine stp ?_
  rw [Nat.zero_add, List.nil_append] at h1
  refine ⟨h1, fun i hi => ?_, Fr.trans (S := fun _ => False) Fr.refl.push h2 fun i hi ho => ?_⟩
  · rcases h3 i hi with h4 | h4
    · rw [← h4]; exact Nat.le_refl _
    · simp at h4; omega
  · have : h.n = i := ho
    omega
def pickS (x n : Int) : Int := if n ≤ 0 then 0 else x % n
theorem Pick_ok {h : Heap} {x n : Int} (hn : n ≤ 9223372036854775807) : Runs Try.prog T0 (.fn fn_zcQ) [.int .i64 x, .int .i64 n] h (fun r h' => r = .int .i64 (pickS x n) ∧ h' = h) (fun _ _ => False) := by
  refine zcQ_runs ?_
  refine stp ?_
  unfold pickS
  refine C.if (fun h0 => ?_) (fun h0 => ?_)
  · refine stp ?_
    rw [if_pos h0]
    exact ⟨rfl, rfl⟩
  · refine stp ?_
    refine O.how (XOp.remI (by omega)) ?_
    have h1 := Int.tmod_lt_of_pos x (show 0 < n by omega)
    have h2 : -n < x.tmod n := by
      have := Int.lt_tmod_of_pos x (show 0 < n by omega)
      omega
    have e := Int.tmod_eq_emod (a := x) (b := n)
    have p1 := Int.emod_nonneg x (show n ≠ 0 by omega)
    have p2 := Int.emod_lt_of_pos x (show 0 < n by omega)
    have p3 : (n.natAbs : Int) = n := Int.natAbs_of_nonneg (by omega)
    refine stp ?_
    rw [if_neg h0]
    refine C.if (fun h3 => ?_) (fun h3 => ?_)
    · refine stp ?_
      refine ⟨?_, rfl⟩
      congr 1
      split at e <;> omega
    · refine stp ?_
      refine ⟨?_, rfl⟩
      congr 1
      split at e <;> omega
end Go.Proofs.Ytmfaepkmiceoeaa.A

namespace Go.Proofs.Ytmfaepkmiceoeaa.A
open Go Go.Vm
set_option maxRecDepth 10000
set_option linter.unusedVariables false
set_option linter.unusedSimpArgs false
theorem encV_pos (l : List Val) (h : l.length ≤ 64) : 1 ≤ (encV l).length := by
  simp [encV, numF]
theorem decV_self {l : List Val} (hc : checkV l = 0) : decV (encV l) = (l, (0, 0)) := by
  have := decV_back hc []
  rwa [List.append_nil, if_pos rfl] at this
theorem find_at {l : List Val} (hc : checkV l = 0) {k : Nat} (hk : k < l.length) : findN l (l.getD k zVal) = some k :=
  findN_some hk rfl fun t ht => by have := rises hc ht hk; omega
theorem findA_at {l : List Val} (hc : checkV l = 0) {k : Nat} (hk : k < l.length) : findA l (l.getD k zVal) = k := by
  unfold findA
  rw [find_at hc hk]
  rfl
theorem big_sum {n a b : Nat} (h1 : n ≤ 64) (h2 : b ≤ n * 4611686018427387904) (h3 : a ≤ b) : a < 340282366920938463463374607431768211456 := by omega
theorem sum_none (l : List Val) : wide (sumN (powersV (l.take 0))) = [.int .u64 0, .int .u64 0] := by simp [powersV, sumN, u64]
set_option maxHeartbeats 8000000 in
theorem ValsBack_true {h : Heap} {v u : Value} {l : List Val} {cut : Int} {b : List UInt8} (hv : Rd h 5 v (vcells l) l.length) (hu : Rd h 1 u (bcells b) b.length) :
    Runs Try.prog T0 (.fn fn_zfQ) [v, .int .i64 cut, u] h (fun r h' => r = .bool true) (fun _ _ => False) := by
  have hv0 := hv
  have hu0 := hu
  obtain ⟨a, cap, rfl, hlen, _⟩ := hv
  obtain ⟨a', cap', rfl, hlen', _⟩ := hu
  refine zfQ_runs ?_
  refine stp ?_
  refine O.call' zgQ_known (fun r h1 hr => ?_)
  obtain ⟨rfl, rfl⟩ := hr
  refine stp ?_
  refine O.dec (fun hbig => ?_) (fun hsm => ?_)
  · refine stp ?_
    rfl
  refine stp ?_
  refine C.if (fun hbig => ?_) (fun hsm2 => ?_)
  · refine stp ?_
    rfl
  refine stp ?_
  have hl64 : l.length ≤ 64 := by omega
  have hb1000 : b.length ≤ 1000 := by omega
  refine O.call' (VDecode_ok hu0 (by omega)) (fun r h2 hr => ?_)
  obtain ⟨mv, rfl, hm2, hmn2, hf2⟩ := hr
  have n2 := hf2.n
  have good := fun h => decV_good (bs := b) h
  have bad := fun h => decV_bad (bs := b) h
  generalize decV b = D at *
  obtain ⟨m, e, at_⟩ := D
  simp only at hm2 good bad
  obtain ⟨am, cm, rfl, hlm, _⟩ := id hm2.rd
  refine stp ?_
  have f23 : Fr (fun _ => False) h2 (h2.push (.cells [.int .i64 e, .int .i64 at_] 0)) := Fr.refl.push
  have gF3 : HGet (h2.push (.cells [.int .i64 e, .int .i64 at_] 0)) h2.n (.cells [.int .i64 e, .int .i64 at_] 0) := HGet.new
  have n3 : (h2.push (.cells [.int .i64 e, .int .i64 at_] 0)).n = h2.n + 1 := rfl
  generalize h2.push (.cells [.int .i64 e, .int .i64 at_] 0) = h3 at *
  haveI := gF3
  refine stp ?_
  have kE := VEncode_ok (h := h3) (hm2.rd.keep f23 fun _ _ => id)
  have hf03 : Fr (fun _ => False) h1 h3 := hf2.trans' f23
  by_cases hz : e = 0
  case' pos =>
    obtain ⟨c0, e0, ee⟩ := good hz
    obtain ⟨rfl, rfl⟩ := Prod.mk.inj ee
    rw [if_pos c0, e0, c0] at kE
    refine O.call' kE (fun r h4 hr => ?_)
    obtain ⟨cv, rfl, hc4, hcn4, hf4⟩ := hr
    have n4 := hf4.n
    obtain ⟨ac, cc, rfl, hlc, _⟩ := id hc4.rd
    have gF4 := hf4.keep gF3 (by omega) id
    haveI := gF4
    haveI : BLt h2.n h4 := ⟨by omega⟩
    refine stp ?_
    rw [same_self]
    refine stp ?_
    refine O.callT (SameBytes_ok (hu0.keep (hf03.trans' hf4) fun _ _ => id) hc4.rd) (fun r h5 hr => ?_)
    rw [show decide (b = b) = true from by simp] at hr
    obtain ⟨rfl, rfl⟩ := hr
    refine stp ?_
    rw [same_self]
    simp only [Bool.not_true]
    refine stp ?_
    try simp only [decide_true, Bool.not_true, Bool.false_eq_true, if_false]
    refine stp ?_
  case' neg =>
    obtain ⟨m0, a0, a1⟩ := bad hz
    refine O.call' kE (fun r h4 hr => ?_)
    obtain ⟨cv, rfl, hc4, hcn4, hf4⟩ := hr
    have n4 := hf4.n
    obtain ⟨ac, cc, rfl, hlc, _⟩ := id hc4.rd
    have gF4 := hf4.keep gF3 (by omega) id
    haveI := gF4
    haveI : BLt h2.n h4 := ⟨by omega⟩
    refine stp ?_
    have hne : same [.int .i64 e, .int .i64 at_] [.int .i64 0, .int .i64 0] = false := by
      rw [same_fault, decide_eq_false]
      intro h; injection h with h _; exact hz h
    rw [hne]
    refine stp ?_
    rw [hne]
    refine stp ?_
    have m0l : m.length = 0 := by rw [m0]; rfl
    refine O.dec (fun h => absurd h (by omega)) (fun h => ?_)
    refine stp ?_
    refine O.dec (fun h => absurd h (by omega)) (fun h => ?_)
    refine stp ?_
    refine C.if (fun h => absurd h (by omega)) (fun h => ?_)
  all_goals
    refine stp ?_
  case' pos => have hfE := hf4
  case' neg => have hfE := hf4
  all_goals
    have f14 : Fr (fun _ => False) h1 _ := hf03.trans' hfE
    clear hcn4 hc4 hfE gF4 hf03 hm2 hmn2 hlm hlc good bad kE
    refine O.call' (VCheck_ok (hv0.keep f14 fun _ _ => id)) (fun r h6 hr => ?_)
    obtain ⟨rfl, hf6⟩ := hr
    have n6 := hf6.n
    have f16 := f14.trans' hf6
    refine stp ?_
    refine C.ifN (fun hc => ?_) (fun hc => ?_)
  any_goals
    refine stp ?_
    rfl
  all_goals
    refine stp ?_
    refine O.call' (VEncode_ok (hv0.keep f16 fun _ _ => id)) (fun r h7 hr => ?_)
    obtain ⟨dv, rfl, hd, hdn, hf7⟩ := hr
    rw [if_pos hc] at hd
    rw [hc]
    have hel := encV_len hc
    have hel1 := encV_pos l hl64
    obtain ⟨ad, cd, rfl, hld, _⟩ := id hd.rd
    have n7 := hf7.n
    have f17 := f16.trans' hf7
    refine stp ?_
    have kD := VDecode_ok (h := h7) hd.rd (by omega)
    rw [decV_self hc] at kD
    refine O.call' kD (fun r h8 hr => ?_)
    obtain ⟨xv, rfl, hx8, hxn8, hf8⟩ := hr
    replace hx8 : Own h8 5 xv (vcells l) l.length := hx8
    obtain ⟨ax, cx, rfl, hlx, _⟩ := id hx8.rd
    have n8 := hf8.n
    refine stp ?_
    have f89 : Fr (fun _ => False) h8 (h8.push (.cells [.int .i64 0, .int .i64 0] 0)) := Fr.refl.push
    have gH9 : HGet (h8.push (.cells [.int .i64 0, .int .i64 0] 0)) h8.n (.cells [.int .i64 0, .int .i64 0] 0) := HGet.new
    have n9 : (h8.push (.cells [.int .i64 0, .int .i64 0] 0)).n = h8.n + 1 := rfl
    generalize h8.push (.cells [.int .i64 0, .int .i64 0] 0) = h9 at *
    have f79 := hf8.trans' f89
    refine stp ?_
    refine O.call' (Pick_ok (x := cut) (n := ((encV l).length : Int)) (by omega)) (fun r h10 hr => ?_)
    obtain ⟨rfl, rfl⟩ := hr
    have hp0 : 0 ≤ pickS cut (encV l).length ∧ pickS cut (encV l).length < (encV l).length := by
      unfold pickS
      rw [if_neg (by omega)]
      exact ⟨Int.emod_nonneg _ (by omega), Int.emod_lt_of_pos _ (by omega)⟩
    generalize pickS cut (encV l).length = j at hp0 ⊢
    refine O.sliceTo j.toNat (hd.keep f79 fun _ _ => id) (by omega) (by omega) (fun v' hbl hrd => ?_)
    rw [Nat.mul_one, bcells_take] at hrd
    have htl : ((encV l).take j.toNat).length = j.toNat := by rw [List.length_take]; omega
    refine O.call' (VDecode_ok (bs := (encV l).take j.toNat) (by rw [htl]; exact hrd) (by omega)) (fun r h11 hr => ?_)
    obtain ⟨iv, rfl, hi11, hin11, hf11⟩ := hr
    have hcut := decV_cut hc (c := j.toNat) (by omega)
    generalize decV ((encV l).take j.toNat) = D3 at hcut hi11 ⊢
    obtain ⟨m3, e3, a3⟩ := D3
    simp only at hcut hi11 ⊢
    obtain ⟨ai, ci, rfl, hli, _⟩ := id hi11.rd
    have n11 := hf11.n
    refine stp ?_
    have f1112 : Fr (fun _ => False) h11 (h11.push (.cells [.int .i64 e3, .int .i64 a3] 0)) := Fr.refl.push
    have gI12 : HGet (h11.push (.cells [.int .i64 e3, .int .i64 a3] 0)) h11.n (.cells [.int .i64 e3, .int .i64 a3] 0) := HGet.new
    have n12 : (h11.push (.cells [.int .i64 e3, .int .i64 a3] 0)).n = h11.n + 1 := rfl
    generalize h11.push (.cells [.int .i64 e3, .int .i64 a3] 0) = h12 at *
    have f912 := hf11.trans' f1112
    have f712 := f79.trans' f912
    have hd12 := hd.keep f712 fun _ _ => id
    refine O.call' (CopyBytes_ok hd12.rd (by omega)) (fun r h13 hr => ?_)
    obtain ⟨hy13, hyn13, hf13⟩ := hr
    have n13 := hf13.n
    refine stp ?_
    have f1314 : Fr (fun _ => False) h13 (h13.push (.cells [.int .u8 1] 0)) := Fr.refl.push
    have hlit : newCells (h13.push (.cells [.int .u8 1] 0)) 1 [.int .u8 0] false (.slice (some ⟨h13.n, 0, none⟩) 1 1) = some (1, [.int .u8 1]) := (rd_lit rfl).new [.int .u8 0]
    have n14 : (h13.push (.cells [.int .u8 1] 0)).n = h13.n + 1 := rfl
    refine O.append (hy13.keep f1314 fun _ _ => id) hlit rfl rfl (by omega) (by omega) (by omega) (fun v15 h15 ho15 hf15 hn15 => ?_)
    have hb1 : bcells (encV l) ++ [.int .u8 1] = bcells (encV l ++ [1]) := by rw [bcells_append]; rfl
    rw [hb1] at ho15
    have hl1 : (encV l ++ [1]).length = (encV l).length + 1 := by simp
    have n15 := hf15.n
    have f1215 : Fr (fun i => h12.n ≤ i) h12 h15 := ((hf13.trans' f1314).mono fun _ _ h => h.elim).trans' (hf15.mono fun i _ hi => by have := hyn13 i hi; omega)
    have kJ := VDecode_ok (h := h15) (bs := encV l ++ [1]) (by rw [hl1]; exact ho15.rd) (by omega)
    rw [decV_back hc [1], if_neg (by simp)] at kJ
    refine O.call' kJ (fun r h16 hr => ?_)
    obtain ⟨jv, rfl, hj16, hjn16, hf16⟩ := hr
    obtain ⟨aj, cj, rfl, hlj, _⟩ := id hj16.rd
    have n16 := hf16.n
    refine stp ?_
    have f1617 : Fr (fun _ => False) h16 (h16.push (.cells [.int .i64 4, .int .i64 (encV l).length] 0)) := Fr.refl.push
    have gJ17 : HGet (h16.push (.cells [.int .i64 4, .int .i64 (encV l).length] 0)) h16.n (.cells [.int .i64 4, .int .i64 (encV l).length] 0) := HGet.new
    have n17 : (h16.push (.cells [.int .i64 4, .int .i64 (encV l).length] 0)).n = h16.n + 1 := rfl
    simp only
    generalize h16.push (.cells [.int .i64 4, .int .i64 (encV l).length] 0) = h17 at *
    have f1517 := hf16.trans' f1617
    have f1217 : Fr (fun i => h12.n ≤ i) h12 h17 := f1215.trans' (f1517.mono fun _ _ h => h.elim)
    have gI17 := f1217.keep gI12 (by omega) (by omega)
    have f917 : Fr (fun i => h12.n ≤ i) h10 h17 := (f912.mono fun _ _ h => h.elim).trans' f1217
    have gH17 := f917.keep gH9 (by omega) (by omega)
    have f117 : Fr (fun i => h12.n ≤ i) h1 h17 := (((f17.trans' f79).trans' f912).mono fun _ _ h => h.elim).trans' f1217
    haveI := gI17
    haveI := gH17
    haveI := gJ17
    haveI : BLt h8.n h17 := ⟨by omega⟩
    haveI : BLt h11.n h17 := ⟨by omega⟩
    haveI : BLt h16.n h17 := ⟨by omega⟩
    refine stp ?_
    rw [same_self]
    simp only [Bool.not_true]
    refine stp ?_
    have f817 : Fr (fun i => h12.n ≤ i) h8 h17 := ((f89.trans' f912).mono fun _ _ h => h.elim).trans' f1217
    refine O.callT (SameVals_same (hx8.rd.keep f817 fun i hi h => ?_) (hv0.keep f117 fun i hi h => ?_) (by omega)) (fun r h18 hr => ?_)
    · have := Rd.block_lt hx8.rd hi; omega
    · have := Rd.block_lt hv0 hi; omega
    obtain ⟨rfl, rfl⟩ := hr
    refine stp ?_
    try simp only [decide_true, Bool.not_true, Bool.false_eq_true, if_false]
    refine stp ?_
    refine O.dec (fun h => absurd h hcut) (fun h => ?_)
    refine stp ?_
    rw [same_self]
    simp only [Bool.not_true]
    refine stp ?_
    have hrv : Rd h18 5 (.slice a l.length cap) (vcells l) l.length := hv0.keep f117 fun i hi h => by have := Rd.block_lt hv0 hi; omega
    clear f117 f817 f917 f1217 f1517 f1215 f712 f912 f79 f89 f17 f16 f14 hd hx8 hi11 hj16 ho15 hy13 hd12 hrd hlit hf15 hf16 hf13 hf11 hf8 hf7 hf6
    have gS : HGet (h18.push (.cells (wide (sumN (powersV (l.take 0)))) 0)) h18.n (.cells (wide (sumN (powersV (l.take 0)))) 0) := HGet.new
    have hrv19 : Rd (h18.push (.cells (wide (sumN (powersV (l.take 0)))) 0)) 5 (.slice a l.length cap) (vcells l) l.length := hrv.keep (S := fun _ => False) Fr.refl.push fun _ _ => id
    have n19 : (h18.push (.cells (wide (sumN (powersV (l.take 0)))) 0)).n = h18.n + 1 := rfl
    rw [← sum_none l]
    generalize h18.push (.cells (wide (sumN (powersV (l.take 0)))) 0) = h19 at *
    obtain ⟨c1, c2, c3, c4⟩ := checkV_ok hc
    refine zfQ_l0_rule (fun q v21 h' => ∃ k : Nat, k ≤ l.length ∧ q = l.length - k ∧ v21 = .int .i64 k ∧ HGet h' h18.n (.cells (wide (sumN (powersV (l.take k)))) 0) ∧ Fr (fun i => i = h18.n) h19 h') ?_ l.length ⟨0, by omega, rfl, rfl, gS, Fr.refl⟩
    rintro m v21 h' x6 x22 x23 x24 x25 x26 x27 x143 x144 x145 x146 x147 x148 x149 x150 x151 x152 x153 x154 x155 x156 x157 x158 x159 x160 x161 x162 x163 x164 x165 x166 x167 x168 x169 x170 x171 x172 x173 x174 x175 x176 x177 x178 x179 x180 x181 x182 x183 x184 x185 x186 x187 x188 x189 ⟨k, hk, rfl, rfl, gk, hf⟩
    have nk := hf.n
    refine stp ?_
    refine C.if (fun hlt => ?_) (fun hge => ?_)
    · have hlt : k < l.length := by omega
      have hrk := hrv19.keep hf fun i hi h => by have := Rd.block_lt hrv hi; omega
      have hrk0 := hrk
      obtain ⟨a1, cap1, e1, _, hcc⟩ := hrk0
      injection e1 with e1 _ _
      subst e1
      obtain ⟨b0, o, sp, rfl, hb0, hcc⟩ := hcc (by omega)
      haveI := val_key hcc rfl hlt
      haveI := val_power hcc rfl hlt
      refine stp ?_
      have kF := Find_ok (w := l.getD k zVal) hrk (by omega)
      rw [find_at hc hlt, findA_at hc hlt, show (some k).isSome = true from rfl] at kF
      refine O.call' kF (fun r h20 hr => ?_)
      obtain ⟨rfl, hf20⟩ := hr
      have n20 := hf20.n
      have hp := c4 _ (getD_mem hlt)
      have e1 : (l.getD k zVal).p = (((l.getD k zVal).p.toNat : Nat) : Int) := by omega
      have hcc20 : cellsAt h20 b0 o (l.length * 5) = some (vcells l) := by rw [cellsAt_keep hf20 hb0 id]; exact hcc
      haveI := val_key hcc20 rfl hlt
      haveI := val_power hcc20 rfl hlt
      refine stp ?_
      rw [e1]
      refine O.call' (Of_ok (by omega)) (fun r h21 hr => ?_)
      obtain ⟨rfl, hf21⟩ := hr
      have n21 := hf21.n
      refine stp ?_
      have f2122 : Fr (fun _ => False) h21 (h21.push (.cells (wide (l.getD k zVal).p.toNat) 0)) := Fr.refl.push
      have gP22 : HGet (h21.push (.cells (wide (l.getD k zVal).p.toNat) 0)) h21.n (.cells (wide (l.getD k zVal).p.toNat) 0) := HGet.new
      have n22 : (h21.push (.cells (wide (l.getD k zVal).p.toNat) 0)).n = h21.n + 1 := rfl
      generalize h21.push (.cells (wide (l.getD k zVal).p.toNat) 0) = h22 at *
      have fk22 := hf20.trans' (hf21.trans' f2122)
      have gS22 := fk22.keep gk (by omega) id
      haveI := gP22
      haveI := gS22
      haveI : BLt h18.n h22 := ⟨by omega⟩
      haveI : BLt h21.n h22 := ⟨by omega⟩
      refine stp ?_
      have hm := powersV_mem c4
      have hsl := sumN_le hm
      rw [powersV_len] at hsl
      have hk1 : k < (powersV l).length := by rw [powersV_len]; exact hlt
      have hst : sumN (powersV (l.take (k + 1))) = sumN (powersV (l.take k)) + (l.getD k zVal).p.toNat := by rw [powersV_take hlt, sumN_snoc]
      have hle : sumN (powersV (l.take (k + 1))) ≤ sumN (powersV l) := by
        have := sumN_append_le (powersV (l.take (k + 1))) (powersV (l.drop (k + 1)))
        rwa [show powersV (l.take (k + 1)) ++ powersV (l.drop (k + 1)) = powersV l from by unfold powersV; rw [← List.map_append, List.take_append_drop]] at this
      have hbig := big_sum hl64 hsl hle
      refine O.call' (Plus_ok (by omega)) (fun r h23 hr => ?_)
      obtain ⟨rfl, hf23⟩ := hr
      have n23 := hf23.n
      rw [← hst]
      refine stp ?_
      have f2324 : Fr (fun _ => False) h23 (h23.push (.cells (wide (sumN (powersV (l.take (k + 1))))) 0)) := Fr.refl.push
      have gQ24 : HGet (h23.push (.cells (wide (sumN (powersV (l.take (k + 1))))) 0)) h23.n (.cells (wide (sumN (powersV (l.take (k + 1))))) 0) := HGet.new
      have n24 : (h23.push (.cells (wide (sumN (powersV (l.take (k + 1))))) 0)).n = h23.n + 1 := rfl
      generalize h23.push (.cells (wide (sumN (powersV (l.take (k + 1))))) 0) = h24 at *
      have f2224 := hf23.trans' f2324
      have gS24 := f2224.keep gS22 (by omega) id
      haveI := gQ24
      haveI := gS24
      haveI : BLt h18.n h24 := ⟨by omega⟩
      haveI : BLt h23.n h24 := ⟨by omega⟩
      refine stp ?_
      try simp only [eq_self, Option.isSome_some, decide_true, Bool.not_true, Bool.false_eq_true, if_false]
      refine stp ?_
      try simp only [eq_self, Option.isSome_some, decide_true, Bool.not_true, Bool.false_eq_true, if_false]
      refine stp ?_
      try simp only [eq_self, Option.isSome_some, decide_true, Bool.not_true, Bool.false_eq_true, if_false]
      try refine stp ?_
      refine zfQ_l0_again (l.length - (k + 1)) (by omega) ⟨k + 1, by omega, rfl, rfl, HGet.same, ?_⟩
      exact (Fr.trans' hf ((fk22.trans' f2224).mono fun _ _ h => h.elim)).set fun _ => rfl
    · obtain rfl : k = l.length := by omega
      have hrk := hrv19.keep hf fun i hi h => by have := Rd.block_lt hrv hi; omega
      rw [List.take_length] at gk
      refine stp ?_
      refine O.call' (VTotal_ok hrk) (fun r h20 hr => ?_)
      obtain ⟨rfl, hf20⟩ := hr
      have n20 := hf20.n
      unfold totalS
      rw [if_pos hc, hc]
      refine stp ?_
      have f2021 : Fr (fun _ => False) h20 (h20.push (.cells (wide (sumN (powersV l))) 0)) := Fr.refl.push
      have gT21 : HGet (h20.push (.cells (wide (sumN (powersV l))) 0)) h20.n (.cells (wide (sumN (powersV l))) 0) := HGet.new
      have n21 : (h20.push (.cells (wide (sumN (powersV l))) 0)).n = h20.n + 1 := rfl
      generalize h20.push (.cells (wide (sumN (powersV l))) 0) = h21 at *
      have gS21 := (hf20.trans' f2021).keep gk (by omega) id
      haveI := gT21
      haveI := gS21
      haveI : BLt h18.n h21 := ⟨by omega⟩
      haveI : BLt h20.n h21 := ⟨by omega⟩
      refine stp ?_
      rw [same_self]
      refine stp ?_
      rfl
end Go.Proofs.Ytmfaepkmiceoeaa.A

namespace Go.Proofs.Ytmfaepkmiceoeaa.A
open Go Go.Vm
set_option maxRecDepth 10000
set_option linter.unusedVariables false
theorem fits_bytes {h : Heap} {m : Nat} {te : TypeId} {c : List Value} {len : Nat} (hu : Try.prog.underlying te = some (.int .u8)) (hs : Try.prog.cellsOf te = 1) (hl : c.length = len * Try.prog.cellsOf te) (hall : ∀ i, i < len → Fits Try.prog h (m + 1) te ((c.drop (i * Try.prog.cellsOf te)).take (Try.prog.cellsOf te))) : ∃ bs : List UInt8, c = bcells bs ∧ bs.length = len := by
  rw [hs, Nat.mul_one] at hl
  induction c generalizing len with
  | nil => exact ⟨[], rfl, by simpa using hl⟩
  | cons v c ih =>
    cases len with
    | zero => simp at hl
    | succ len =>
      have h0 := hall 0 (by omega)
      rw [hs] at h0
      unfold Fits at h0
      rw [hu] at h0
      simp only [Nat.zero_mul, List.drop_zero, List.take_succ_cons, List.take_zero] at h0
      obtain ⟨x, hx, hwf⟩ := h0
      injection hx with hx _
      obtain ⟨bs, rfl, hb⟩ := ih (len := len) (by simpa using hl) fun i hi => by
        have := hall (i + 1) (by omega)
        rw [hs] at this ⊢
        simpa using this
      have hr : 0 ≤ x ∧ x ≤ 255 := by
        simp [Lit.wf, IntKind.min, IntKind.max, IntKind.signed, IntKind.bits] at hwf
        omega
      refine ⟨UInt8.ofNat x.toNat :: bs, ?_, by simp [hb]⟩
      rw [hx]
      show Value.int .u8 x :: bcells bs = Value.int .u8 ((UInt8.ofNat x.toNat).toNat : Nat) :: bcells bs
      rw [u8nat (by omega)]
      congr 2
      omega
theorem fits_slice {h : Heap} {m : Nat} {t te : TypeId} {v : Value} (ht : Try.prog.underlying t = some (.slice te)) (hu : Try.prog.underlying te = some (.int .u8)) (hs : Try.prog.cellsOf te = 1) (hv : FitsV Try.prog h (m + 2) t v) : ∃ bs : List UInt8, Rd h 1 v (bcells bs) bs.length := by
  unfold FitsV at hv
  rw [ht] at hv
  unfold Fits at hv
  rw [ht] at hv
  rcases hv with hv | ⟨b, len, cap, c, hv, hb, hlc, hcap, hro, hl, hall⟩
  · injection hv with hv
    subst hv
    exact ⟨[], Rd.nil⟩
  · injection hv with hv
    subst hv
    obtain ⟨bs, rfl, hbl⟩ := fits_bytes hu hs hl hall
    refine ⟨bs, _, _, by rw [hbl], by simp [bcells], fun hn => ⟨b, 0, none, rfl, hb, ?_⟩⟩
    rw [cellsAt_of (c := bcells bs) (by rw [hro (by omega)]; rfl) (by simp [bcells]), List.drop_zero, List.take_of_length_le (by simp [bcells])]
end Go.Proofs.Ytmfaepkmiceoeaa.A

namespace Go.Proofs.Ytmfaepkmiceoeaa.A
open Go Go.Vm
set_option maxRecDepth 100000
set_option linter.unusedVariables false
theorem i64_fits {h : Heap} {v : Value} (hv : FitsV Try.prog h 8 3 v) : ∃ x : Int, v = .int .i64 x ∧ (-9223372036854775808 ≤ x ∧ x ≤ 9223372036854775807) := by
  have u2 : Try.prog.underlying 3 = some (.int .i64) := by kernel_rfl
  obtain ⟨x, h1, h2⟩ := hv.int u2
  exact ⟨x, h1, wf_i64 h2⟩
end Go.Proofs.Ytmfaepkmiceoeaa.A

namespace Go.Proofs.Ytmfaepkmiceoeaa.A
open Go Go.Vm
set_option maxRecDepth 100000
set_option linter.unusedVariables false
theorem vals_cells_fit {h : Heap} {m : Nat} {te tk tb ti : TypeId} (f0 : fieldAt Try.prog te 0 = some (0, tk)) (f1 : fieldAt Try.prog te 1 = some (4, ti)) (uk : Try.prog.underlying tk = some (.array 4 tb)) (ub : Try.prog.underlying tb = some (.int .u8)) (ui : Try.prog.underlying ti = some (.int .i64))
    (ce : Try.prog.cellsOf te = 5) (ck : Try.prog.cellsOf tk = 4) (cb : Try.prog.cellsOf tb = 1) (ci : Try.prog.cellsOf ti = 1) : ∀ (len : Nat) (c : List Value), c.length = len * 5 → (∀ i, i < len → Fits Try.prog h (m + 3) te ((c.drop (i * 5)).take 5)) →
    ∃ l : List Val, c = vcells l ∧ l.length = len ∧ ∀ v ∈ l, -9223372036854775808 ≤ v.p ∧ v.p ≤ 9223372036854775807
  | 0, c, hl, _ => ⟨[], by rw [vcells_nil]; simpa using hl, rfl, fun v hv => by cases hv⟩
  | len + 1, c, hl, hall => by
    have h0 := hall 0 (by omega)
    rw [Nat.zero_mul, List.drop_zero] at h0
    have hk := h0.field f0
    obtain ⟨p, g1, w1⟩ := (h0.field f1).int ui
    rw [ck] at hk
    rw [ci] at g1
    rw [List.drop_zero] at hk
    have h4 : (c.take 5).take 4 = c.take 4 := by rw [List.take_take]; rfl
    rw [h4] at hk
    have hb : ∃ bs : List UInt8, c.take 4 = bcells bs ∧ bs.length = 4 := by
      unfold Fits at hk
      rw [uk] at hk
      exact fits_bytes ub cb (by rw [hk.1, ck, cb]) hk.2
    obtain ⟨bs, hb1, hb2⟩ := hb
    obtain ⟨a0, a1, a2, a3, rfl⟩ := four hb2
    obtain ⟨l, e1, e2, e3⟩ := vals_cells_fit f0 f1 uk ub ui ce ck cb ci len (c.drop 5) (by rw [List.length_drop]; omega) fun i hi => by
      have := hall (i + 1) (by omega)
      rw [List.drop_drop]
      rw [show (i + 1) * 5 = 5 + i * 5 from by omega] at this
      exact this
    refine ⟨⟨a0, a1, a2, a3, p⟩ :: l, ?_, by simp [e2], fun v hv => ?_⟩
    · rw [vcells_cons, ← e1]
      have e5 : c = c.take 5 ++ c.drop 5 := (List.take_append_drop 5 c).symm
      have e6 : c.take 5 = c.take 4 ++ ((c.take 5).drop 4).take 1 := by
        have h1 : ((c.take 5).drop 4).take 1 = (c.take 5).drop 4 := List.take_of_length_le (by rw [List.length_drop, List.length_take]; omega)
        rw [h1, ← h4, List.take_append_drop]
      conv => lhs; rw [e5, e6, hb1, g1]
      rfl
    · rcases List.mem_cons.1 hv with rfl | hv
      · exact wf_i64 w1
      · exact e3 v hv
theorem fits_vlist {h : Heap} {m : Nat} {t te tk tb ti : TypeId} {v : Value} (ht : Try.prog.underlying t = some (.slice te)) (f0 : fieldAt Try.prog te 0 = some (0, tk)) (f1 : fieldAt Try.prog te 1 = some (4, ti)) (uk : Try.prog.underlying tk = some (.array 4 tb)) (ub : Try.prog.underlying tb = some (.int .u8)) (ui : Try.prog.underlying ti = some (.int .i64))
    (ce : Try.prog.cellsOf te = 5) (ck : Try.prog.cellsOf tk = 4) (cb : Try.prog.cellsOf tb = 1) (ci : Try.prog.cellsOf ti = 1) (hv : FitsV Try.prog h (m + 4) t v) : ∃ l : List Val, Rd h 5 v (vcells l) l.length ∧ ∀ v ∈ l, -9223372036854775808 ≤ v.p ∧ v.p ≤ 9223372036854775807 := by
  unfold FitsV at hv
  rw [ht] at hv
  unfold Fits at hv
  rw [ht] at hv
  rcases hv with hv | ⟨b, len, cap, c, hv, hb, hlc, hcap, hro, hl, hall⟩
  · injection hv with hv
    subst hv
    exact ⟨[], Rd.nil, fun v hv => by cases hv⟩
  · injection hv with hv
    subst hv
    rw [ce] at hl hall
    obtain ⟨l, rfl, e2, e3⟩ := vals_cells_fit f0 f1 uk ub ui ce ck cb ci len c hl hall
    refine ⟨l, ⟨_, _, by rw [e2], vcells_len l, fun hn => ⟨b, 0, none, rfl, hb, ?_⟩⟩, e3⟩
    rw [cellsAt_of (c := vcells l) (by rw [hro (by omega)]; rfl) (by rw [vcells_len]; omega), List.drop_zero, List.take_of_length_le (by rw [vcells_len]; omega)]
end Go.Proofs.Ytmfaepkmiceoeaa.A

namespace Go.Proofs.Ytmfaepkmiceoeaa.A
open Go Go.Vm
set_option maxRecDepth 100000
set_option linter.unusedVariables false
theorem ValsBack_run (h : Heap) (vs : List Value) (hf : FitsAll Try.prog h 8 [25, 3, 22] vs) : Runs Try.prog T0 (.fn fn_zfQ) vs h (fun r _ => r = .bool true) (fun _ _ => False) := by
  obtain ⟨v1, _, rfl, h1, hf⟩ := hf.cons
  obtain ⟨v2, _, rfl, h2, hf⟩ := hf.cons
  obtain ⟨v3, _, rfl, h3, hf⟩ := hf.cons
  obtain rfl := hf.nil
  obtain ⟨l, hl, _⟩ := fits_vlist (m := 4) (te := 54) (tk := 42) (tb := 5) (ti := 3) (by kernel_rfl) (by kernel_rfl) (by kernel_rfl) (by kernel_rfl) (by kernel_rfl) (by kernel_rfl) (by kernel_rfl) (by kernel_rfl) (by kernel_rfl) (by kernel_rfl) h1
  obtain ⟨cut, rfl, _⟩ := i64_fits h2
  obtain ⟨b, hb⟩ := fits_slice (m := 6) (te := 5) (by kernel_rfl) (by kernel_rfl) (by kernel_rfl) h3
  exact ValsBack_true hl hb
end Go.Proofs.Ytmfaepkmiceoeaa.A
