/- Contracts of functions, over the machine. -/
import Derived.Test.YtlckmpioipiihaaQCrossJudges3
import Derived.Test.YtlckmpioipiihaaVK
import Derived.Test.YtlckmpioipiihaaVJ
set_option linter.unusedSimpArgs false
noncomputable section
namespace Go.Proofs.Ytlckmpioipiihaa.A
open Go.Proofs.Ytlckmpioipiihaa.K
open Go Go.Vm
set_option maxRecDepth 10000
set_option linter.unusedVariables false
def stW (c : Cr) (who : Int) : Int := (c.ws.getD who.toNat zWit).st
def mayS (c : Cr) (who : Int) : Int := if anyS c 4 = true then 11 else if who < 0 ∨ 16 ≤ who then 10 else if stW c who = 0 then 10 else if stW c who ≠ 1 then 8 else 0
def resS (c : Cr) : Int := if anyS c 4 = false ∧ anyS c 1 = true then 0 else if anyS c 4 = true then 3 else if anyS c 2 = true then 1 else 2
def stateS (c : Cr) (who : Int) : Int := if who < 0 ∨ 16 ≤ who then 0 else stW c who
theorem any_ok {h : Heap} {p : Nat} {c : Cr} {s : Int} (hs : s ≠ 0) (hc : CrAt h p c) {bx bs : Nat} (hbx : h.get bx = .cells [.pointer (some ⟨p, 0, none⟩)] 0) (hbs : h.get bs = .cells [.int .i64 s] 0) (lx : bx < h.n) (ls : bs < h.n) :
    Runs Try.prog T0 (.fn fn_zyQ) [.func (.func fn_zsQ) ⟨[]⟩ ⟨[.pointer (some ⟨bx, 0, none⟩)]⟩, .func (.func fn_zxQ) ⟨[]⟩ ⟨[.pointer (some ⟨bs, 0, none⟩)]⟩] h (fun r h' => r = .bool (anyS c s) ∧ Fr (fun _ => False) h h') (fun _ _ => False) := one_ok hs hc hbx hbs lx ls
theorem State_ok {h : Heap} {p : Nat} {c : Cr} {who : Int} (hc : CrAt h p c) : Runs Try.prog T0 (.fn fn_zqQ) [.pointer (some ⟨p, 0, none⟩), .int .i64 who] h (fun r h' => r = .int .i64 (stateS c who) ∧ h' = h) (fun _ _ => False) := by
  refine zqQ_runs ?_
  refine stp ?_
  refine O.call' (off_ok hc) (fun r h1 hr => ?_)
  obtain ⟨rfl, rfl⟩ := hr
  unfold stateS
  refine stp ?_
  refine O.dec (fun e1 => ?_) (fun e1 => ?_)
  · refine stp ?_
    rw [if_pos (.inl e1)]
    exact ⟨rfl, rfl⟩
  refine stp ?_
  refine C.if (fun e2 => ?_) (fun e2 => ?_)
  · refine stp ?_
    rw [if_pos (.inr e2)]
    exact ⟨rfl, rfl⟩
  rw [if_neg (by omega)]
  haveI := Cr.st hc.ok hc.get (k := who.toNat) (by omega)
  refine stp ?_
  exact ⟨rfl, rfl⟩
set_option maxHeartbeats 4000000 in
theorem may_ok {h : Heap} {p : Nat} {c : Cr} {who : Int} (hc : CrAt h p c) : Runs Try.prog T0 (.fn fn_ztQ) [.pointer (some ⟨p, 0, none⟩), .int .i64 who] h (fun r h' => r = .int .i64 (mayS c who) ∧ Fr (fun _ => False) h h') (fun _ _ => False) := by
  refine ztQ_runs ?_
  refine stp ?_
  refine O.call' (off_ok hc) (fun r h1 hr => ?_)
  obtain ⟨rfl, rfl⟩ := hr
  unfold mayS
  refine stp ?_
  refine O.call' all_ok (fun r h2 hr => ?_)
  obtain ⟨rfl, n2, g2, f2⟩ := hr
  refine stp ?_
  refine O.call' are_ok (fun r h3 hr => ?_)
  obtain ⟨rfl, n3, g3, f3⟩ := hr
  refine stp ?_
  have c3 := (hc.keep f2 fun _ _ => id).keep f3 fun _ _ => id
  refine O.call' (any_ok (by omega) c3 (by rw [f3.get _ (by omega) id]; exact g2) g3 (by omega) (by omega)) (fun r h4 hr => ?_)
  obtain ⟨rfl, f4⟩ := hr
  have F4 := (f2.trans' f3).trans' f4
  have c4 := c3.keep f4 fun _ _ => id
  refine stp ?_
  refine C.ifB (fun e1 => ?_) (fun e1 => ?_)
  · refine stp ?_
    rw [if_pos e1]
    exact ⟨rfl, F4⟩
  rw [if_neg (by rw [e1]; simp)]
  refine stp ?_
  refine O.dec (fun e2 => ?_) (fun e2 => ?_)
  · refine stp ?_
    rw [if_pos (.inl e2)]
    exact ⟨rfl, F4⟩
  refine stp ?_
  refine O.dec (fun e3 => ?_) (fun e3 => ?_)
  · refine stp ?_
    rw [if_pos (.inr e3)]
    exact ⟨rfl, F4⟩
  rw [if_neg (by omega)]
  haveI := Cr.st c4.ok c4.get (k := who.toNat) (by omega)
  rw [show (c.ws.getD who.toNat zWit).st = stW c who from rfl] at *
  refine stp ?_
  refine C.if (fun e4 => ?_) (fun e4 => ?_)
  · refine stp ?_
    rw [if_pos e4]
    exact ⟨rfl, F4⟩
  rw [if_neg e4]
  refine stp ?_
  refine C.ifN (fun e5 => ?_) (fun e5 => ?_)
  · refine stp ?_
    rw [if_pos e5]
    exact ⟨rfl, F4⟩
  rw [if_neg (fun e => e e5)]
  refine stp ?_
  exact ⟨rfl, F4⟩
end Go.Proofs.Ytlckmpioipiihaa.A

namespace Go.Proofs.Ytlckmpioipiihaa.A
open Go.Proofs.Ytlckmpioipiihaa.K
open Go Go.Vm
set_option maxRecDepth 10000
set_option linter.unusedVariables false
theorem block_owned {a : Option Addr} {n c b : Nat} (h : blockOf (.slice a n c) b) : ownedBy (.slice a n c) b := by
  cases a with
  | none => simp [blockOf] at h
  | some a => exact h.1
theorem mayS_zero {c : Cr} {who : Int} (h : mayS c who = 0) : anyS c 4 = false ∧ 0 ≤ who ∧ who < 16 ∧ stW c who = 1 := by
  unfold mayS at h
  split at h
  · cases h
  · rename_i h1
    split at h
    · cases h
    · rename_i h2
      split at h
      · cases h
      · rename_i h3
        split at h
        · cases h
        · rename_i h4
          exact ⟨by simpa using h1, by omega, by omega, Classical.not_not.1 h4⟩
abbrev Cr.put (c : Cr) (k : Nat) (w : Wit) : Cr := { c with ws := c.ws.set k w }
theorem CrAt.put {h : Heap} {p k : Nat} {c : Cr} {w : Wit} (hc : CrAt h p c) (hw : w.ok) (ha : WAt h p w) : CrAt (h.set p (.cells (c.put k w).cells 0)) p (c.put k w) := by
  have f : Fr (fun i => i = p) h (h.set p (.cells (c.put k w).cells 0)) := Fr.refl.set fun _ => rfl
  refine ⟨Cr.okS hc.ok hw, hc.lt, by rw [Heap.get_set, if_pos rfl], fun v hv => ?_⟩
  rcases List.mem_or_eq_of_mem_set hv with h1 | h1
  · exact (hc.ws v h1).keep f fun i _ hi => hi
  · rw [h1]; exact ha.keep f fun i _ hi => hi
abbrev Cr.stand (c : Cr) (k : Nat) (s : Int) : Cr := c.put k { c.ws.getD k zWit with st := s }
theorem CrAt.stand {h : Heap} {p k : Nat} {c : Cr} {s : Int} (hc : CrAt h p c) (hk : k < 16) : CrAt (h.set p (.cells (c.stand k s).cells 0)) p (c.stand k s) := by
  have h1 := Cr.get hc.ok hk
  have h2 := hc.ws _ (wit_mem (by rw [hc.ok.len]; exact hk))
  exact hc.put ⟨h1.hd, h1.hash, h1.cv, h1.cl⟩ ⟨h2.sv, h2.sl, h2.nv, h2.nl, h2.lv, h2.ll⟩
def leaveC (c : Cr) (who : Int) : Cr := if mayS c who = 0 then c.stand who.toNat 3 else c
theorem Leave_ok {h : Heap} {p : Nat} {c : Cr} {who : Int} (hc : CrAt h p c) : Runs Try.prog T0 (.fn fn_znQ) [.pointer (some ⟨p, 0, none⟩), .int .i64 who] h (fun r h' => r = .int .i64 (mayS c who) ∧ CrAt h' p (leaveC c who) ∧ Fr (fun i => i = p) h h') (fun _ _ => False) := by
  refine znQ_runs ?_
  refine stp ?_
  refine O.call' (may_ok hc) (fun r h1 hr => ?_)
  obtain ⟨rfl, f1⟩ := hr
  have c1 := hc.keep f1 fun _ _ => id
  unfold leaveC
  refine stp ?_
  refine C.if (fun e => ?_) (fun e => ?_)
  · rw [if_pos e]
    obtain ⟨_, w1, w2, _⟩ := mayS_zero e
    haveI := Cr.putS c1.ok c1.get (k := who.toNat) (by omega) 3
    refine stp ?_
    exact ⟨rfl, c1.stand (by omega), (f1.mono fun _ _ h => h.elim).set fun _ => rfl⟩
  · rw [if_neg e]
    refine stp ?_
    exact ⟨rfl, c1, f1.mono fun _ _ h => h.elim⟩
def sayE (c : Cr) (who : Int) (x : Bk) : Int := if mayS c who ≠ 0 then mayS c who else checkS x.h
def Said (n : Nat) (c : Cr) (who : Int) (x : Bk) (c' : Cr) : Prop :=
  if sayE c who x ≠ 0 then c' = c else if hashH x.h = c.hash then c' = c.stand who.toNat 2 else ∃ sw sm, c' = c.put who.toNat ⟨4, x, sw, sm⟩ ∧ ∀ i, blockOf sw i ∨ blockOf sm i → n ≤ i
set_option maxHeartbeats 8000000 in
theorem Say_ok {h : Heap} {p : Nat} {c : Cr} {who : Int} {x : Bk} {sv sl : Value} (hc : CrAt h p c) (hb : BkRd h x sv sl) (h1 : x.c.votes.length ≤ 70) (h2 : x.vals.length ≤ 70) :
    Runs Try.prog T0 (.fn fn_zpQ) [.pointer (some ⟨p, 0, none⟩), .int .i64 who, .agg ⟨x.cells sv sl⟩] h (fun r h' => r = .int .i64 (sayE c who x) ∧ (∃ c', Said h.n c who x c' ∧ CrAt h' p c') ∧ Fr (fun i => i = p) h h') (fun _ _ => False) := by
  have hx := hb.hd
  have hch := hb.hash
  haveI := l32 hx.prev
  haveI := l32 hx.vals
  haveI := l32 hx.next
  haveI := l32 hx.app
  haveI := l32 hch
  obtain ⟨a1, c1, rfl, _, _⟩ := id hb.sv
  obtain ⟨a2, c2, rfl, _, _⟩ := id hb.sl
  refine zpQ_runs ?_
  refine stp ?_
  have F0 : Fr (fun _ => False) h (h.push (.cells (x.cells (.slice a1 x.c.votes.length c1) (.slice a2 x.vals.length c2)) 0)) := Fr.refl.push
  have g0 : HGet (h.push (.cells (x.cells (.slice a1 x.c.votes.length c1) (.slice a2 x.vals.length c2)) 0)) h.n (.cells (x.cells (.slice a1 x.c.votes.length c1) (.slice a2 x.vals.length c2)) 0) := HGet.new
  have n0 : (h.push (.cells (x.cells (.slice a1 x.c.votes.length c1) (.slice a2 x.vals.length c2)) 0)).n = h.n + 1 := rfl
  generalize h.push (.cells (x.cells (.slice a1 x.c.votes.length c1) (.slice a2 x.vals.length c2)) 0) = h0 at *
  refine O.call' (may_ok (hc.keep F0 fun _ _ => id)) (fun r h3 hr => ?_)
  obtain ⟨rfl, f3⟩ := hr
  have F3 := F0.trans' f3
  have n3 := f3.n
  have g3 := f3.keep g0 (by omega) id
  haveI := g3
  unfold sayE Said
  refine stp ?_
  refine C.ifN (fun e1 => ?_) (fun e1 => ?_)
  · refine stp ?_
    unfold sayE
    rw [if_pos e1]
    exact ⟨rfl, ⟨c, by rw [if_pos e1], hc.keep F3 fun _ _ => id⟩, F3.mono fun _ _ h => h.elim⟩
  unfold sayE
  rw [if_neg (fun e => e e1)]
  obtain ⟨_, w1, w2, _⟩ := mayS_zero e1
  refine stp ?_
  refine O.call' (BHash_ok (hb.keep F3 fun _ _ => id)) (fun r h4 hr => ?_)
  obtain ⟨rfl, f4⟩ := hr
  have F4 := F3.trans' f4
  have n4 := f4.n
  have g4 := f4.keep g3 (by omega) id
  haveI := l32 (hashH_len x.h)
  haveI := g4
  haveI : BLt h.n h4 := ⟨by omega⟩
  refine stp ?_
  have F5 : Fr (fun _ => False) h (h4.push (.cells (bcells (hashH x.h)) 0)) := F4.push
  have g5 : HGet (h4.push (.cells (bcells (hashH x.h)) 0)) h.n (.cells (x.cells (.slice a1 x.c.votes.length c1) (.slice a2 x.vals.length c2)) 0) := HGet.push (g := g4)
  have gH : HGet (h4.push (.cells (bcells (hashH x.h)) 0)) h4.n (.cells (bcells (hashH x.h)) 0) := HGet.new
  have n5 : (h4.push (.cells (bcells (hashH x.h)) 0)).n = h4.n + 1 := rfl
  generalize h4.push (.cells (bcells (hashH x.h)) 0) = h5 at *
  have c5 := hc.keep F5 fun _ _ => id
  haveI := g5
  haveI := gH
  haveI : BLt h.n h5 := ⟨by omega⟩
  haveI : BLt h4.n h5 := ⟨by omega⟩
  refine C.ifN (fun e2 => ?_) (fun e2 => ?_)
  · refine stp ?_
    exact ⟨rfl, ⟨c, by rw [if_pos e2], c5⟩, F5.mono fun _ _ h => h.elim⟩
  haveI := l32 hc.ok.hash
  haveI := Cr.sum c5.ok c5.get
  refine stp ?_
  rw [same_bytes]
  refine C.if (fun e3 => ?_) (fun e3 => ?_)
  · haveI := Cr.putS c5.ok c5.get (k := who.toNat) (by omega) 2
    refine stp ?_
    exact ⟨by rw [e2], ⟨_, by rw [if_neg (fun e => e e2), if_pos e3], c5.stand (by omega)⟩, (F5.mono fun _ _ h => h.elim).set fun _ => rfl⟩
  · refine stp ?_
    refine D.callX (own_ok (hb.keep F5 fun _ _ => id) (by omega) (by omega)) (fun r h6 hr => ?_) (fun r h6 hr => ?_) (fun _ _ hx => hx.elim)
    · exact StabL.ok
    obtain ⟨sw, sm, rfl, o1, o2, m1, m2, f6⟩ := hr
    have F6 := F5.trans' f6
    have n6 := f6.n
    have c6 := hc.keep F6 fun _ _ => id
    have hpl := hc.lt
    obtain ⟨a3, c3, rfl, _, _⟩ := id o1.rd
    obtain ⟨a4, c4, rfl, _, _⟩ := id o2.rd
    have hw : (⟨4, x, .slice a3 x.c.votes.length c3, .slice a4 x.vals.length c4⟩ : Wit).ok := ⟨hx, hch, inferInstance, inferInstance⟩
    have ha : WAt h6 p ⟨4, x, .slice a3 x.c.votes.length c3, .slice a4 x.vals.length c4⟩ := ⟨o1.rd, o2.rd, fun e => by have := m1 p (block_owned e); omega, fun e => by have := m2 p (block_owned e); omega, h1, h2⟩
    haveI := Cr.putW c6.ok hw c6.get (k := who.toNat) (by omega)
    refine stp ?_
    exact ⟨by rw [e2], ⟨_, by rw [if_neg (fun e => e e2), if_neg e3]; exact ⟨_, _, rfl, fun i hi => by have := F5.n; rcases hi with hi | hi; (have := m1 i (block_owned hi); omega); (have := m2 i (block_owned hi); omega)⟩, c6.put hw ha⟩, (F6.mono fun _ _ h => h.elim).set fun _ => rfl⟩
end Go.Proofs.Ytlckmpioipiihaa.A

namespace Go.Proofs.Ytlckmpioipiihaa.A
open Go.Proofs.Ytlckmpioipiihaa.K
open Go Go.Vm
set_option maxRecDepth 10000
set_option linter.unusedVariables false
def newE : Int → List Int → Int
  | _, [] => 0
  | last, w :: l => if w < 0 ∨ 16 ≤ w then 3 else if w ≤ last then 9 else newE w l
def askW (ws : List Wit) (w : Int) : List Wit := ws.set w.toNat { ws.getD w.toNat zWit with st := 1 }
def askAll (l : List Int) : List Wit := l.foldl askW (List.replicate 16 zWit)
def lastI (l : List Int) (k : Nat) : Int := if k = 0 then -1 else l.getD (k - 1) 0
theorem newE_at {l : List Int} {k : Nat} (hk : k < l.length) : newE (lastI l k) (l.drop k) = if l.getD k 0 < 0 ∨ 16 ≤ l.getD k 0 then 3 else if l.getD k 0 ≤ lastI l k then 9 else newE (lastI l (k + 1)) (l.drop (k + 1)) := by
  have : l.drop k = l.getD k 0 :: l.drop (k + 1) := by
    rw [List.drop_eq_getElem_cons hk]
    simp [List.getD, hk]
  rw [this]
  simp only [newE, lastI, Nat.add_sub_cancel, if_neg (Nat.succ_ne_zero k)]
  rfl
theorem askAll_at {l : List Int} {k : Nat} (hk : k < l.length) : askAll (l.take (k + 1)) = askW (askAll (l.take k)) (l.getD k 0) := by
  have g : l.getD k 0 = l[k] := by simp [List.getD_eq_getElem?_getD, hk]
  unfold askAll
  rw [List.take_succ_eq_append_getElem hk, g, List.foldl_append]
  rfl
def icells (l : List Int) : List Value := l.map fun n => .int .i64 n
theorem icells_len (l : List Int) : (icells l).length = l.length := by simp [icells]
theorem icell_at {h : Heap} {b o n k : Nat} {l : List Int} (hc : cellsAt h b o (n * 1) = some (icells l)) (hn : l.length = n) (hk : k < n) : Cell h b (o + k) (.int .i64 (l.getD k 0)) := ⟨by
  have := cellsAt_sub (k := k) (m := 1) hc (by omega)
  rw [this]
  subst hn
  unfold icells
  have g : l.getD k 0 = l[k] := by simp [List.getD, hk]
  rw [← List.map_drop, List.drop_eq_getElem_cons hk, List.map_cons, g]
  rfl⟩
def crZ : List Value := z32 ++ (wtc (List.replicate 16 zWit) ++ [.bool false])
theorem zAll : ∀ w ∈ List.replicate 16 zWit, w.ok := fun w hw => by rw [List.eq_of_mem_replicate hw]; exact zWit_ok
theorem fill_cr {l : List UInt8} (hl : l.length = 32) : fillL crZ [(0, 32, .agg ⟨bcells l⟩), (2704, 1, .bool true)] = some (⟨l, List.replicate 16 zWit⟩ : Cr).cells := by
  have h1 : (bcells l).length = 32 := by rw [bcells_len, hl]
  have h2 : (wtc (List.replicate 16 zWit)).length = 2672 := by rw [wtc_len zAll, List.length_replicate]
  have h3 : z32.length = 32 := rfl
  have hz : crZ.length = 2705 := by
    unfold crZ
    rw [List.length_append, List.length_append, h2, h3]
    rfl
  have e1 : over crZ 0 (bcells l) = bcells l ++ (wtc (List.replicate 16 zWit) ++ [.bool false]) := by
    unfold crZ
    rw [over_front _ _ (by rw [h1, List.length_append, h3]; omega), h1, List.drop_left' h3]
  have e2 : over (bcells l ++ (wtc (List.replicate 16 zWit) ++ [.bool false])) 2704 [.bool true] = bcells l ++ (wtc (List.replicate 16 zWit) ++ [.bool true]) := by
    have e3 : 2704 = (bcells l ++ wtc (List.replicate 16 zWit)).length := by rw [List.length_append, h1, h2]
    have := over_mid (bcells l ++ wtc (List.replicate 16 zWit)) [.bool false] [] [.bool true] (by simp)
    simp only [List.append_assoc, List.append_nil] at this
    rw [e3, this]
    rfl
  have s1 : (Value.agg ⟨bcells l⟩).cells.size = 32 := by simp [Value.cells, h1]
  have s2 : (Value.agg ⟨bcells l⟩).cells.toList = bcells l := by simp [Value.cells]
  simp only [fillL]
  rw [if_pos ⟨s1, by omega⟩, s2, e1, if_pos ⟨rfl, by simp only [List.length_append, h1, h2, List.length_cons, List.length_nil]; omega⟩]
  show some (over _ 2704 [.bool true]) = _
  rw [e2]
theorem XOp.mkCr {P : Program} {ts : List Value} {h : Heap} {zero : List Value} {x : Operand} {l : List UInt8} (hl : l.length = 32) (hz : zero = crZ) [e : Ev ts x (.agg ⟨bcells l⟩)] : XOp P ts h (.build zero [(0, 32, x), (2704, 1, .const (.bool true))]) (.agg ⟨(⟨l, List.replicate 16 zWit⟩ : Cr).cells⟩) h := ⟨rfl, by
  subst hz
  simp only [xop, List.map_cons, List.map_nil, e.eq]
  rw [show eval ts (.const (.bool true)) = .bool true from rfl, fill_cr hl]⟩
set_option maxHeartbeats 8000000 in
theorem New_ok {h : Heap} {x : Bk} {sv sl v : Value} {l : List Int} (hb : BkRd h x sv sl) (hv : Rd h 1 v (icells l) l.length) (hsm : l.length < 1048576) :
    Runs Try.prog T0 (.fn fn_zvQ) [.agg ⟨x.cells sv sl⟩, v] h (fun r h' => Fr (fun _ => False) h h' ∧ (
      (checkS x.h ≠ 0 ∧ r = .tuple ⟨[.pointer none, .int .i64 (checkS x.h)]⟩) ∨
      (checkS x.h = 0 ∧ newE (-1) l ≠ 0 ∧ r = .tuple ⟨[.pointer none, .int .i64 (newE (-1) l)]⟩) ∨
      (checkS x.h = 0 ∧ newE (-1) l = 0 ∧ ∃ p, r = .tuple ⟨[.pointer (some ⟨p, 0, none⟩), .int .i64 0]⟩ ∧ h.n ≤ p ∧ CrAt h' p ⟨hashH x.h, askAll l⟩))) (fun _ _ => False) := by
  have hx := hb.hd
  have hch := hb.hash
  haveI := l32 hx.prev
  haveI := l32 hx.vals
  haveI := l32 hx.next
  haveI := l32 hx.app
  haveI := l32 hch
  obtain ⟨a1, c1, rfl, _, _⟩ := id hb.sv
  obtain ⟨a2, c2, rfl, _, _⟩ := id hb.sl
  obtain ⟨a, cap, rfl, hlen, hcl⟩ := hv
  refine zvQ_runs ?_
  refine stp ?_
  have F0 : Fr (fun _ => False) h (h.push (.cells (x.cells (.slice a1 x.c.votes.length c1) (.slice a2 x.vals.length c2)) 0)) := Fr.refl.push
  have n0 : (h.push (.cells (x.cells (.slice a1 x.c.votes.length c1) (.slice a2 x.vals.length c2)) 0)).n = h.n + 1 := rfl
  generalize h.push (.cells (x.cells (.slice a1 x.c.votes.length c1) (.slice a2 x.vals.length c2)) 0) = h0 at *
  refine O.call' (BHash_ok (hb.keep F0 fun _ _ => id)) (fun r h4 hr => ?_)
  obtain ⟨rfl, f4⟩ := hr
  have F4 := F0.trans' f4
  have n4 := f4.n
  haveI := l32 (hashH_len x.h)
  refine stp ?_
  have F5 : Fr (fun _ => False) h (h4.push (.cells (bcells (hashH x.h)) 0)) := F4.push
  have gH : HGet (h4.push (.cells (bcells (hashH x.h)) 0)) h4.n (.cells (bcells (hashH x.h)) 0) := HGet.new
  have n5 : (h4.push (.cells (bcells (hashH x.h)) 0)).n = h4.n + 1 := rfl
  generalize h4.push (.cells (bcells (hashH x.h)) 0) = h5 at *
  haveI := gH
  haveI : BLt h4.n h5 := ⟨by omega⟩
  refine C.ifN (fun e2 => ?_) (fun e2 => ?_)
  · refine stp ?_
    exact ⟨F5, .inl ⟨e2, rfl⟩⟩
  refine stp ?_
  refine O.how (XOp.mkCr (hashH_len x.h) (by kernel_rfl)) ?_
  have hc0 : (⟨hashH x.h, List.replicate 16 zWit⟩ : Cr).ok := ⟨hashH_len _, by simp, zAll⟩
  have hcz : ∀ {g : Heap} {p : Nat}, ∀ w ∈ (⟨hashH x.h, List.replicate 16 zWit⟩ : Cr).ws, WAt g p w := fun w hw => by
    rw [List.eq_of_mem_replicate hw]
    exact ⟨Rd.nil, Rd.nil, fun e => e, fun e => e, by simp [zWit], by simp [zWit]⟩
  generalize hC : (⟨hashH x.h, List.replicate 16 zWit⟩ : Cr) = C0 at *
  refine stp ?_
  have F6 : Fr (fun _ => False) h (h5.push (.cells C0.cells 0)) := F5.push
  have C6 : CrAt (h5.push (.cells C0.cells 0)) h5.n C0 := ⟨hc0, by simp, HGet.new.eq, hcz⟩
  have n6 : (h5.push (.cells C0.cells 0)).n = h5.n + 1 := rfl
  generalize h5.push (.cells C0.cells 0) = h6 at *
  refine loop2 zvQ_l0_M 9 25 (fun q v9 v25 h' => ∃ k : Nat, k ≤ l.length ∧ q = l.length - k ∧ v9 = .int .i64 (lastI l k) ∧ v25 = .int .i64 k ∧ newE (-1) l = newE (lastI l k) (l.drop k) ∧ CrAt h' h5.n ⟨hashH x.h, askAll (l.take k)⟩ ∧ Fr (fun i => i = h5.n) h6 h') ?_ l.length ⟨0, by omega, rfl, rfl, rfl, rfl, by rw [← hC] at C6; exact C6, Fr.refl⟩
  rintro m v9 v25 h' x4 x5 x11 x26 x27 x28 x29 x30 x31 x32 x33 x34 x35 x36 x37 x38 x39 x40 x41 x42 x43 x44 x45 x46 x47 ⟨k, hk, rfl, rfl, rfl, hne, hC', hf⟩
  have F7 : Fr (fun _ => False) h h' := F6.trans hf fun i hi e => by have := F5.n; omega
  refine stp ?_
  refine C.if (fun hlt => ?_) (fun hge => ?_)
  · have hlt : k < l.length := by omega
    obtain ⟨b, o, sp, rfl, hb1, hcc⟩ := hcl (by omega)
    have hcc' : cellsAt h' b o (l.length * 1) = some (icells l) := by rw [cellsAt_keep F7 hb1 id]; exact hcc
    haveI := icell_at hcc' rfl hlt
    have hat := newE_at hlt
    have hask := askAll_at hlt
    rw [← hne] at hat
    refine stp ?_
    generalize hw : l.getD k 0 = w at *
    have hl1 : lastI l (k + 1) = w := by unfold lastI; rw [if_neg (Nat.succ_ne_zero k), Nat.add_sub_cancel, hw]
    refine O.dec (fun e3 => ?_) (fun e3 => ?_)
    · refine stp ?_
      rw [if_pos (.inl e3)] at hat
      exact ⟨F7, .inr (.inl ⟨by omega, by omega, by rw [hat]⟩)⟩
    refine stp ?_
    refine C.if (fun e4 => ?_) (fun e4 => ?_)
    · refine stp ?_
      rw [if_pos (.inr e4)] at hat
      exact ⟨F7, .inr (.inl ⟨by omega, by omega, by rw [hat]⟩)⟩
    rw [if_neg (by omega)] at hat
    refine stp ?_
    refine C.if (fun e5 => ?_) (fun e5 => ?_)
    · refine stp ?_
      rw [if_pos e5] at hat
      exact ⟨F7, .inr (.inl ⟨by omega, by omega, by rw [hat]⟩)⟩
    rw [if_neg e5] at hat
    haveI := Cr.putS hC'.ok hC'.get (k := w.toNat) (by omega) 1
    have hlt5 := hC'.lt
    haveI : BLt h5.n h' := ⟨hlt5⟩
    refine stp ?_
    exact loop2a 9 25 (l.length - (k + 1)) (by omega) ⟨k + 1, by omega, rfl, by rw [hl1], rfl, hat, by rw [hask]; exact hC'.stand (by omega), hf.set fun _ => rfl⟩
  · refine stp ?_
    obtain rfl : k = l.length := by omega
    rw [List.drop_eq_nil_of_le (by omega)] at hne
    rw [List.take_of_length_le (by omega)] at hC'
    exact ⟨F7, .inr (.inr ⟨by omega, hne, h5.n, rfl, by have := F5.n; omega, hC'⟩)⟩
end Go.Proofs.Ytlckmpioipiihaa.A

namespace Go.Proofs.Ytlckmpioipiihaa.A
open Go.Proofs.Ytlckmpioipiihaa.K
open Go Go.Vm
set_option maxRecDepth 10000
set_option linter.unusedVariables false
def SS (c : Cr) : List Int := c.ws.map Wit.st
theorem SS_len {c : Cr} (h : c.ok) : (SS c).length = 16 := by unfold SS; rw [List.length_map]; exact h.len
theorem SS_get (c : Cr) (k : Nat) : (c.ws.getD k zWit).st = (SS c).getD k 0 := by
  unfold SS
  simp only [List.getD_eq_getElem?_getD, List.getElem?_map]
  cases c.ws[k]? <;> rfl
theorem anyS_iff {c : Cr} {s : Int} : anyS c s = true ↔ s ∈ SS c := by
  unfold anyS SS
  rw [List.any_eq_true, List.mem_map]
  constructor
  · rintro ⟨w, h1, h2⟩; exact ⟨w, h1, by simpa using h2⟩
  · rintro ⟨w, h1, h2⟩; exact ⟨w, h1, by simpa using h2⟩
theorem SS_put (c : Cr) (k : Nat) (w : Wit) : SS (c.put k w) = (SS c).set k w.st := by
  unfold SS
  rw [List.map_set]
theorem SS_stand (c : Cr) (k : Nat) (s : Int) : SS (c.stand k s) = (SS c).set k s := SS_put _ _ _
theorem askAll_map (l : List Int) : (askAll l).map Wit.st = l.foldl (fun S w => S.set w.toNat 1) (List.replicate 16 0) := by
  have : ∀ (l : List Int) (ws : List Wit), (l.foldl askW ws).map Wit.st = l.foldl (fun S w => S.set w.toNat 1) (ws.map Wit.st) := by
    intro l
    induction l with
    | nil => intro ws; rfl
    | cons w l ih =>
      intro ws
      simp only [List.foldl_cons]
      rw [ih]
      unfold askW
      rw [List.map_set]
  unfold askAll
  rw [this]
  simp [zWit]
def Dif (S : List Int) (d : Int) : Prop := (d = -1 ∧ (4 : Int) ∉ S) ∨ ∃ k : Nat, k < 16 ∧ d = k ∧ S.getD k 0 = 4 ∧ ∀ j, S.getD j 0 = 4 → j = k
theorem getD_set {S : List Int} {k j : Nat} {s : Int} (hk : k < S.length) : (S.set k s).getD j 0 = if j = k then s else S.getD j 0 := by
  simp only [List.getD_eq_getElem?_getD, List.getElem?_set]
  by_cases h : k = j
  · subst h; simp [hk]
  · rw [if_neg h, if_neg (fun e => h e.symm)]
theorem mem_getD {S : List Int} {s : Int} : s ∈ S ↔ ∃ k, k < S.length ∧ S.getD k 0 = s := by
  rw [List.mem_iff_getElem]
  constructor
  · rintro ⟨k, h, e⟩; exact ⟨k, h, by simp [List.getD, h, e]⟩
  · rintro ⟨k, h, e⟩; exact ⟨k, h, by simpa [List.getD, h] using e⟩
theorem Dif.set {S : List Int} {k : Nat} {s : Int} (hl : S.length = 16) (hk : k < 16) (hs : s ≠ 4) (h : (4 : Int) ∉ S) : (4 : Int) ∉ S.set k s := by
  rw [mem_getD] at h ⊢
  rintro ⟨j, h1, h2⟩
  rw [getD_set (by omega)] at h2
  rw [List.length_set] at h1
  split at h2
  · exact hs h2
  · exact h ⟨j, h1, h2⟩
theorem Dif.four {S : List Int} {k : Nat} (hl : S.length = 16) (hk : k < 16) (h : (4 : Int) ∉ S) : Dif (S.set k 4) k := by
  refine .inr ⟨k, hk, rfl, by rw [getD_set (by omega), if_pos rfl], fun j hj => ?_⟩
  rw [getD_set (by omega)] at hj
  split at hj
  · assumption
  · exfalso
    by_cases hjl : j < S.length
    · exact h (mem_getD.2 ⟨j, hjl, hj⟩)
    · rw [List.getD_eq_getElem?_getD, List.getElem?_eq_none (by omega)] at hj; cases hj
theorem Dif.neg {S : List Int} {d : Int} (h : Dif S d) : d < 0 ↔ (4 : Int) ∉ S := by
  rcases h with ⟨rfl, h⟩ | ⟨k, h1, rfl, h2, h3⟩
  · exact ⟨fun _ => h, fun _ => by omega⟩
  · refine ⟨fun e => by omega, fun e => ?_⟩
    exfalso
    by_cases hjl : k < S.length
    · exact e (mem_getD.2 ⟨k, hjl, h2⟩)
    · rw [List.getD_eq_getElem?_getD, List.getElem?_eq_none (by omega)] at h2; cases h2
def wAcc (l : List Bool) : Nat → List Int
  | 0 => []
  | k + 1 => if l.getD k false = true then wAcc l k ++ [(k : Int)] else wAcc l k
theorem newE_snoc : ∀ {l : List Int} {last w : Int}, newE last l = 0 → (∀ v ∈ l, v < w) → last < w → 0 ≤ w → w < 16 → newE last (l ++ [w]) = 0
  | [], last, w, _, _, h1, h2, h3 => by
    simp only [List.nil_append, newE]
    rw [if_neg (by omega), if_neg (by omega)]
  | v :: l, last, w, h, hv, h1, h2, h3 => by
    simp only [List.cons_append, newE] at h ⊢
    split at h
    · cases h
    · rename_i e1
      split at h
      · cases h
      · rename_i e2
        rw [if_neg e1, if_neg e2]
        exact newE_snoc h (fun x hx => hv x (by simp [hx])) (hv v (by simp)) h2 h3
theorem wAcc_ok {l : List Bool} : ∀ {k : Nat}, k ≤ 16 → newE (-1) (wAcc l k) = 0 ∧ (∀ w ∈ wAcc l k, 0 ≤ w ∧ w < (k : Int)) ∧ (wAcc l k).length ≤ k
  | 0, _ => ⟨rfl, by simp [wAcc], by simp [wAcc]⟩
  | k + 1, hk => by
    obtain ⟨h1, h2, h3⟩ := wAcc_ok (l := l) (k := k) (by omega)
    simp only [wAcc]
    split
    · refine ⟨newE_snoc h1 (fun v hv => (h2 v hv).2) (by omega) (by omega) (by omega), fun w hw => ?_, by simp; omega⟩
      rw [List.mem_append, List.mem_singleton] at hw
      rcases hw with hw | rfl
      · have := h2 w hw; omega
      · omega
    · exact ⟨h1, fun w hw => by have := h2 w hw; omega, by omega⟩
end Go.Proofs.Ytlckmpioipiihaa.A

namespace Go.Proofs.Ytlckmpioipiihaa.A
open Go.Proofs.Ytlckmpioipiihaa.K
open Go Go.Vm
set_option maxRecDepth 10000
set_option linter.unusedVariables false
theorem ev_round {h : Heap} {lp p2 p3 p4 : Nat} {n : Int} {w : Wit} {f0 f1 f5 f6 f7 f8 f9 f10 f11 f12 f13 f14 f15 f16 f17 f18 : Value} (hw : w.ok) (hb : BkRd h w.b w.sv w.sl) (l1 : w.b.c.votes.length ≤ 70) (l2 : w.b.vals.length ≤ 70) (hlp : h.get lp = .loop .ready none [f0, f1, .pointer (some ⟨p2, 0, none⟩), .pointer (some ⟨p3, 0, none⟩), .pointer (some ⟨p4, 0, none⟩), f5, f6, f7, f8, f9, f10, f11, f12, f13, f14, f15, f16, f17, f18] [9, 10] zmQ_ra0 zmQ_rb0)
    (h2 : h.get p2 = .cells [.int .i64 0] 0) (h3 : h.get p3 = .cells zBc 0) (h4 : h.get p4 = .cells [.bool false] 0) (ll : lp < h.n) (m2 : p2 < h.n) (m3 : p3 < h.n) (m4 : p4 < h.n) (n2 : p2 ≠ lp) (n3 : p3 ≠ lp) (n4 : p4 ≠ lp) (n5 : p2 ≠ p3) (n6 : p2 ≠ p4) (n7 : p3 ≠ p4) (hnb : ∀ i, (blockOf w.sv i ∨ blockOf w.sl i) → i ≠ lp) :
    Runs Try.prog T0 (.yield lp) [.int .i64 n, .agg ⟨w.cells⟩] h (fun r g => (w.st ≠ 4 ∧ r = .bool true ∧ g.get lp = .loop .ready none [f0, f1, .pointer (some ⟨p2, 0, none⟩), .pointer (some ⟨p3, 0, none⟩), .pointer (some ⟨p4, 0, none⟩), f5, f6, f7, f8, f9, f10, f11, f12, f13, f14, f15, f16, f17, f18] [9, 10] zmQ_ra0 zmQ_rb0 ∧ Fr (fun i => i = lp) h g) ∨
      (w.st = 4 ∧ r = .bool false ∧ g.get lp = .loop .done (some .ret) [f0, f1, .pointer (some ⟨p2, 0, none⟩), .pointer (some ⟨p3, 0, none⟩), .pointer (some ⟨p4, 0, none⟩), f5, f6, f7, f8, f9, f10, f11, f12, f13, f14, f15, f16, f17, f18] [9, 10] zmQ_ra0 zmQ_rb0 ∧ (∃ sw sm, g.get p2 = .cells [.int .i64 n] 0 ∧ g.get p3 = .cells (w.b.cells sw sm) 0 ∧ g.get p4 = .cells [.bool true] 0 ∧ Own g 2 sw (tcells w.b.c.votes) w.b.c.votes.length ∧ Own g 5 sm (vcells w.b.vals) w.b.vals.length ∧ (∀ i, ownedBy sw i → h.n ≤ i) ∧ (∀ i, ownedBy sm i → h.n ≤ i)) ∧ Fr (fun i => i = lp ∨ i = p2 ∨ i = p3 ∨ i = p4) h g)) (fun _ _ => False) := by
  haveI := l32 hw.hd.prev
  haveI := l32 hw.hd.vals
  haveI := l32 hw.hd.next
  haveI := l32 hw.hd.app
  haveI := l32 hw.hash
  haveI := hw.cv
  haveI := hw.cl
  haveI : HGet h lp _ := ⟨hlp⟩
  haveI : HGet h p2 _ := ⟨h2⟩
  haveI : HGet h p3 _ := ⟨h3⟩
  haveI : HGet h p4 _ := ⟨h4⟩
  haveI : BLt lp h := ⟨ll⟩
  haveI : BLt p2 h := ⟨m2⟩
  haveI : BLt p3 h := ⟨m3⟩
  haveI : BLt p4 h := ⟨m4⟩
  haveI : BNe p2 lp := ⟨n2⟩
  haveI : BNe p3 lp := ⟨n3⟩
  haveI : BNe p4 lp := ⟨n4⟩
  haveI : BNe lp p2 := ⟨fun e => n2 e.symm⟩
  haveI : BNe lp p3 := ⟨fun e => n3 e.symm⟩
  haveI : BNe lp p4 := ⟨fun e => n4 e.symm⟩
  haveI : BNe p2 p3 := ⟨n5⟩
  haveI : BNe p2 p4 := ⟨n6⟩
  haveI : BNe p3 p4 := ⟨n7⟩
  haveI : BNe p3 p2 := ⟨fun e => n5 e.symm⟩
  haveI : BNe p4 p2 := ⟨fun e => n6 e.symm⟩
  haveI : BNe p4 p3 := ⟨fun e => n7 e.symm⟩
  refine Runs.round hlp put_two rfl zmQ_na0 zmQ_nb0 zmQ_ca0 zmQ_cb0 ?_
  refine stp ?_
  refine A.go ?_
  refine stp ?_
  refine C.if (fun e1 => ?_) (fun e1 => ?_)
  · refine stp ?_
    have FX := Fr.set (S := fun i => i = lp) (b := lp) (Fr.push (o := .cells w.cells 0) (Fr.refl (h := h) (S := fun i => i = lp))) (fun _ => rfl) (o := .loop .busy none [f0, f1, .pointer (some ⟨p2, 0, none⟩), .pointer (some ⟨p3, 0, none⟩), .pointer (some ⟨p4, 0, none⟩), f5, f6, f7, f8, f9, f10, f11, f12, f13, f14, f15, f16, f17, f18] [9, 10] zmQ_ra0 zmQ_rb0)
    refine O.call' (own_ok ⟨hw.hd, hw.hash, hb.sv.keep FX fun i hi e => hnb i (.inl hi) e, hb.sl.keep FX fun i hi e => hnb i (.inr hi) e⟩ (by omega) (by omega)) (fun r h6 hr => ?_)
    obtain ⟨sw, sm, rfl, o1, o2, k1, k2, f⟩ := hr
    have q6 := f.n
    simp only [Heap.n_set, Heap.n_push] at q6 k1 k2
    haveI := f.keep (b := lp) inferInstance (by simp; omega) id
    haveI := f.keep (b := p2) (o := .cells [.int .i64 0] 0) inferInstance (by simp; omega) id
    haveI := f.keep (b := p3) (o := .cells zBc 0) inferInstance (by simp; omega) id
    haveI := f.keep (b := p4) (o := .cells [.bool false] 0) inferInstance (by simp; omega) id
    haveI : BLt lp h6 := ⟨by omega⟩
    haveI : BLt p2 h6 := ⟨by omega⟩
    haveI : BLt p3 h6 := ⟨by omega⟩
    haveI : BLt p4 h6 := ⟨by omega⟩
    obtain ⟨a3, c3, rfl, _, _⟩ := id o1.rd
    obtain ⟨a4, c4, rfl, _, _⟩ := id o2.rd
    refine stp ?_
    refine A.ret ?_
    have fS : ∀ {A B C D : AObj}, Fr (fun i => i = lp ∨ i = p2 ∨ i = p3 ∨ i = p4) h6 ((((h6.set p2 A).set p3 B).set p4 C).set lp D) := fun {A B C D} => (((Fr.refl.set fun _ => .inr (.inl rfl)).set fun _ => .inr (.inr (.inl rfl))).set fun _ => .inr (.inr (.inr rfl))).set fun _ => .inl rfl
    refine .inr ⟨e1, rfl, by rw [Heap.get_set, if_pos rfl], ⟨_, _, by rw [Heap.get_set, if_neg n2, Heap.get_set, if_neg n6, Heap.get_set, if_neg n5, Heap.get_set, if_pos rfl], by rw [Heap.get_set, if_neg n3, Heap.get_set, if_neg n7, Heap.get_set, if_pos rfl], by rw [Heap.get_set, if_neg n4, Heap.get_set, if_pos rfl], o1.keep fS fun b hb e => by have := k1 b hb; omega, o2.keep fS fun b hb e => by have := k2 b hb; omega, fun i hi => by have := k1 i hi; omega, fun i hi => by have := k2 i hi; omega⟩, ?_⟩
    exact ((FX.trans' (f.mono fun _ _ e => e.elim)).mono fun _ _ e => .inl e).trans' fS
  · refine stp ?_
    refine A.on ?_
    exact .inl ⟨e1, rfl, by rw [Heap.get_set, if_pos rfl], ((Fr.refl.push.set (S := fun i => i = lp) fun _ => rfl)).set fun _ => rfl⟩
noncomputable abbrev erec (p bx p2 p3 p4 : Nat) (st : LoopState) (pend : Option Code) : AObj := .loop st pend [.pointer (some ⟨p, 0, none⟩), undef, .pointer (some ⟨p2, 0, none⟩), .pointer (some ⟨p3, 0, none⟩), .pointer (some ⟨p4, 0, none⟩), undef, undef, .pointer (some ⟨p, 0, none⟩), .func (.func fn_zsQ) ⟨[]⟩ ⟨[.pointer (some ⟨bx, 0, none⟩)]⟩, undef, undef, undef, undef, undef, undef, undef, undef, undef, undef] [9, 10] zmQ_ra0 zmQ_rb0
def EvS (h0 h : Heap) (c : Cr) (r : Value) : Prop :=
  (r = .tuple ⟨[.int .i64 (-1), .agg ⟨zBc⟩, .bool false]⟩ ∧ ∀ w ∈ c.ws, w.st ≠ 4) ∨
  ∃ (n : Nat) (sw sm : Value), n < 16 ∧ (c.ws.getD n zWit).st = 4 ∧ (∀ w ∈ c.ws.take n, w.st ≠ 4) ∧ r = .tuple ⟨[.int .i64 n, .agg ⟨(c.ws.getD n zWit).b.cells sw sm⟩, .bool true]⟩ ∧
    Own h 2 sw (tcells (c.ws.getD n zWit).b.c.votes) (c.ws.getD n zWit).b.c.votes.length ∧ Own h 5 sm (vcells (c.ws.getD n zWit).b.vals) (c.ws.getD n zWit).b.vals.length ∧ (∀ i, ownedBy sw i → h0.n ≤ i) ∧ (∀ i, ownedBy sm i → h0.n ≤ i)
set_option maxHeartbeats 8000000 in
theorem Evidence_ok {h : Heap} {p : Nat} {c : Cr} (hc : CrAt h p c) :
    Runs Try.prog T0 (.fn fn_zmQ) [.pointer (some ⟨p, 0, none⟩)] h (fun r h' => EvS h h' c r ∧ Fr (fun _ => False) h h') (fun _ _ => False) := by
  refine zmQ_runs ?_
  refine stp ?_
  have F0 : Fr (fun _ => False) h (((h.push (.cells [.int .i64 0] 0)).push (.cells zBc 0)).push (.cells [.bool false] 0)) := Fr.refl.push.push.push
  have n0 : (((h.push (.cells [.int .i64 0] 0)).push (.cells zBc 0)).push (.cells [.bool false] 0)).n = h.n + 3 := rfl
  have e3 : (h.push (.cells [.int .i64 0] 0)).n = h.n + 1 := rfl
  have e4 : ((h.push (.cells [.int .i64 0] 0)).push (.cells zBc 0)).n = h.n + 2 := rfl
  have g2 : (((h.push (.cells [.int .i64 0] 0)).push (.cells zBc 0)).push (.cells [.bool false] 0)).get h.n = .cells [.int .i64 0] 0 := by
    rw [Heap.get_push, if_neg (by simp; omega), Heap.get_push, if_neg (by simp), Heap.get_push, if_pos rfl]
  have g3 : (((h.push (.cells [.int .i64 0] 0)).push (.cells zBc 0)).push (.cells [.bool false] 0)).get (h.push (.cells [.int .i64 0] 0)).n = .cells zBc 0 := by
    rw [Heap.get_push, if_neg (by simp), Heap.get_push, if_pos rfl]
  have g4 : (((h.push (.cells [.int .i64 0] 0)).push (.cells zBc 0)).push (.cells [.bool false] 0)).get ((h.push (.cells [.int .i64 0] 0)).push (.cells zBc 0)).n = .cells [.bool false] 0 := by
    rw [Heap.get_push, if_pos rfl]
  generalize ((h.push (.cells [.int .i64 0] 0)).push (.cells zBc 0)).push (.cells [.bool false] 0) = h0 at *
  generalize ((h.push (.cells [.int .i64 0] 0)).push (.cells zBc 0)).n = p4 at *
  generalize (h.push (.cells [.int .i64 0] 0)).n = p3 at *
  refine O.call' all_ok (fun r ha hr => ?_)
  obtain ⟨rfl, na, gx, fa⟩ := hr
  refine stp ?_
  have FL : Fr (fun _ => False) ha ((ha.push (.defs false)).push (erec p h0.n h.n p3 p4 .ready none)) := Fr.refl.push.push
  have Fa := F0.trans' fa
  have F1 := Fa.trans' FL
  have ca := hc.keep F1 fun _ _ => id
  have ca0 := hc.keep Fa fun _ _ => id
  have hlen := hc.ok.len
  have hd : (ha.push (.defs false)).n = ha.n + 1 := rfl
  refine range_ret (J := fun hx => (∀ w ∈ c.ws, w.st ≠ 4) ∧ Fr (fun i => i = ha.n + 1) (ha.push (.defs false)) hx) (K := fun hx => (∃ n : Nat, n < 16 ∧ (c.ws.getD n zWit).st = 4 ∧ (∀ w ∈ c.ws.take n, w.st ≠ 4) ∧ ∃ sw sm, hx.get h.n = .cells [.int .i64 n] 0 ∧ hx.get p3 = .cells ((c.ws.getD n zWit).b.cells sw sm) 0 ∧ hx.get p4 = .cells [.bool true] 0 ∧ Own hx 2 sw (tcells (c.ws.getD n zWit).b.c.votes) (c.ws.getD n zWit).b.c.votes.length ∧ Own hx 5 sm (vcells (c.ws.getD n zWit).b.vals) (c.ws.getD n zWit).b.vals.length ∧ (∀ i, ownedBy sw i → ha.n + 2 ≤ i) ∧ (∀ i, ownedBy sm i → ha.n + 2 ≤ i)) ∧ Fr (fun i => i = ha.n + 1 ∨ i = h.n ∨ i = p3 ∨ i = p4) (ha.push (.defs false)) hx) ?_ (fun hx hJ => ?_) (fun hx hK => ?_)
  · refine Runs.mono (all1_ok (I := fun k hx => hx.get (ha.n + 1) = erec p h0.n h.n p3 p4 .ready none ∧ (∀ w ∈ c.ws.take k, w.st ≠ 4) ∧ ha.n + 1 < hx.n ∧ Fr (fun i => i = ha.n + 1) (ha.push (.defs false)) hx) (K := fun hx => hx.get (ha.n + 1) = erec p h0.n h.n p3 p4 .done (some .ret) ∧ (∃ n : Nat, n < 16 ∧ (c.ws.getD n zWit).st = 4 ∧ (∀ w ∈ c.ws.take n, w.st ≠ 4) ∧ ∃ sw sm, hx.get h.n = .cells [.int .i64 n] 0 ∧ hx.get p3 = .cells ((c.ws.getD n zWit).b.cells sw sm) 0 ∧ hx.get p4 = .cells [.bool true] 0 ∧ Own hx 2 sw (tcells (c.ws.getD n zWit).b.c.votes) (c.ws.getD n zWit).b.c.votes.length ∧ Own hx 5 sm (vcells (c.ws.getD n zWit).b.vals) (c.ws.getD n zWit).b.vals.length ∧ (∀ i, ownedBy sw i → ha.n + 2 ≤ i) ∧ (∀ i, ownedBy sm i → ha.n + 2 ≤ i)) ∧ Fr (fun i => i = ha.n + 1 ∨ i = h.n ∨ i = p3 ∨ i = p4) (ha.push (.defs false)) hx) (by rw [FL.get _ (by omega) id]; exact gx) (FL.lt (by omega)) ca ?_ ?_ ?_ ?_) (fun _ h' hh => ?_) (fun _ _ h => h)
    · rintro k hx hx' ⟨i1, i2, i3, i4⟩ hf
      exact ⟨by rw [hf.get _ i3 id]; exact i1, i2, hf.lt i3, i4.trans' (hf.mono fun _ _ e => e.elim)⟩
    · exact ⟨HGet.new.eq, by simp, by simp, Fr.refl.push⟩
    · rintro k hx hk ⟨i1, i2, i3, i4⟩ hst
      have i5 := i4.n
      have hw := hc.ws _ (wit_mem (l := c.ws) (k := k) (by omega))
      have hw' := ca0.ws _ (wit_mem (l := c.ws) (k := k) (by omega))
      have l2 := fun i (hi : blockOf (c.ws.getD k zWit).sv i) => Rd.block_lt hw.sv hi
      have l3 := fun i (hi : blockOf (c.ws.getD k zWit).sl i) => Rd.block_lt hw.sl hi
      have hwo := Cr.get hc.ok hk
      have FD : Fr (fun i => i = ha.n + 1) ha hx := Fr.trans' (Fr.refl.push (o := .defs false)) i4
      have rb : BkRd hx (c.ws.getD k zWit).b (c.ws.getD k zWit).sv (c.ws.getD k zWit).sl := ⟨hwo.hd, hwo.hash, hw'.sv.keep FD fun i hi e => by have := l2 i hi; omega, hw'.sl.keep FD fun i hi e => by have := l3 i hi; omega⟩
      refine Runs.mono (ev_round (p2 := h.n) (p3 := p3) (p4 := p4) hwo rb hw.lv hw.ll i1 ?_ ?_ ?_ i3 (by omega) (by omega) (by omega) (by omega) (by omega) (by omega) (by omega) (by omega) (by omega) (fun i hi e => by
        rcases hi with hi | hi
        · have := l2 i hi; omega
        · have := l3 i hi; omega)) (fun r h' hh => ?_) (fun _ _ h => h)
      · rw [FD.get _ (by omega) (by omega), fa.get _ (by omega) id]; exact g2
      · rw [FD.get _ (by omega) (by omega), fa.get _ (by omega) id]; exact g3
      · rw [FD.get _ (by omega) (by omega), fa.get _ (by omega) id]; exact g4
      · rcases hh with ⟨e1, rfl, e2, e3⟩ | ⟨e1, rfl, e2, ⟨sw, sm, e3, e4, e5, e6, e7, e8, e9⟩, f⟩
        · exact .inl ⟨rfl, e2, (wit_take (by omega)).2 ⟨i2, e1⟩, e3.lt i3, i4.trans' e3⟩
        · exact .inr ⟨rfl, e2, ⟨k, hk, e1, i2, sw, sm, e3, e4, e5, e6, e7, fun i hi => by have := e8 i hi; omega, fun i hi => by have := e9 i hi; omega⟩, (i4.mono fun _ _ e => .inl e).trans' f⟩
    · rintro k hx hk ⟨i1, i2, i3, i4⟩ hst
      exact ⟨i1, (wit_take (by omega)).2 ⟨i2, by omega⟩, i3, i4⟩
    · rcases hh with ⟨i1, i2, i3, i4⟩ | ⟨i1, i2, i3⟩
      · exact .inl ⟨i1, fun w hw => i2 w (by rw [List.take_of_length_le (by omega)]; exact hw), i4⟩
      · exact .inr ⟨i1, i2, i3⟩
  · obtain ⟨h1, hf⟩ := hJ
    have gdf : hx.get ha.n = .defs false := by rw [hf.get _ (by omega) (by omega)]; exact HGet.new.eq
    have FD : Fr (fun i => i = ha.n + 1) ha hx := Fr.trans' (Fr.refl.push (o := .defs false)) hf
    have q2 : hx.get h.n = .cells [.int .i64 0] 0 := by rw [FD.get _ (by omega) (by omega), fa.get _ (by omega) id]; exact g2
    have q3 : hx.get p3 = .cells zBc 0 := by rw [FD.get _ (by omega) (by omega), fa.get _ (by omega) id]; exact g3
    have q4 : hx.get p4 = .cells [.bool false] 0 := by rw [FD.get _ (by omega) (by omega), fa.get _ (by omega) id]; exact g4
    have hfx : Fr (fun _ => False) h hx := Fa.trans FD fun i hi e => by omega
    have hxn := hf.n
    haveI : HGet hx h.n _ := ⟨q2⟩
    haveI : HGet hx p3 _ := ⟨q3⟩
    haveI : HGet hx p4 _ := ⟨q4⟩
    haveI : HGet hx ha.n _ := ⟨gdf⟩
    haveI : BLt h.n hx := ⟨by omega⟩
    haveI : BLt p3 hx := ⟨by omega⟩
    haveI : BLt p4 hx := ⟨by omega⟩
    haveI : BNe h.n (ha.n + 1) := ⟨by omega⟩
    haveI : BNe p3 (ha.n + 1) := ⟨by omega⟩
    haveI : BNe p4 (ha.n + 1) := ⟨by omega⟩
    haveI : BNe ha.n (ha.n + 1) := ⟨by omega⟩
    haveI : BNe ha.n h.n := ⟨by omega⟩
    haveI : BNe ha.n p3 := ⟨by omega⟩
    haveI : BNe ha.n p4 := ⟨by omega⟩
    haveI : BNe h.n ha.n := ⟨by omega⟩
    haveI : BNe p3 ha.n := ⟨by omega⟩
    haveI : BNe p4 ha.n := ⟨by omega⟩
    haveI : BNe h.n p3 := ⟨by omega⟩
    haveI : BNe h.n p4 := ⟨by omega⟩
    haveI : BNe p3 h.n := ⟨by omega⟩
    haveI : BNe p4 h.n := ⟨by omega⟩
    haveI : BNe p3 p4 := ⟨by omega⟩
    haveI : BNe p4 p3 := ⟨by omega⟩
    refine stp ?_
    refine B.retC ?_
    refine ⟨.inl ⟨rfl, h1⟩, ?_⟩
    repeat' first
      | exact hfx
      | refine Fr.set ?_ fun e => by omega
  · obtain ⟨⟨n, h16, e1, e2, sw, sm, q2, q3, q4, o1, o2, m1, m2⟩, hf⟩ := hK
    have hwo := Cr.get hc.ok h16
    haveI := l32 hwo.hd.prev
    haveI := l32 hwo.hd.vals
    haveI := l32 hwo.hd.next
    haveI := l32 hwo.hd.app
    haveI := l32 hwo.hash
    have gdf : hx.get ha.n = .defs false := by rw [hf.get _ (by omega) (by omega)]; exact HGet.new.eq
    have FD : Fr (fun i => i = ha.n + 1 ∨ i = h.n ∨ i = p3 ∨ i = p4) ha hx := Fr.trans' (Fr.refl.push (o := .defs false)) hf
    have hfx : Fr (fun _ => False) h hx := Fa.trans FD fun i hi e => by omega
    have hxn := hf.n
    obtain ⟨a3, c3, rfl, _, _⟩ := id o1.rd
    obtain ⟨a4, c4, rfl, _, _⟩ := id o2.rd
    haveI : HGet hx h.n _ := ⟨q2⟩
    haveI : HGet hx p3 _ := ⟨q3⟩
    haveI : HGet hx p4 _ := ⟨q4⟩
    haveI : HGet hx ha.n _ := ⟨gdf⟩
    haveI : BLt h.n hx := ⟨by omega⟩
    haveI : BLt p3 hx := ⟨by omega⟩
    haveI : BLt p4 hx := ⟨by omega⟩
    haveI : BNe h.n (ha.n + 1) := ⟨by omega⟩
    haveI : BNe p3 (ha.n + 1) := ⟨by omega⟩
    haveI : BNe p4 (ha.n + 1) := ⟨by omega⟩
    haveI : BNe ha.n (ha.n + 1) := ⟨by omega⟩
    haveI : BNe h.n ha.n := ⟨by omega⟩
    haveI : BNe p3 ha.n := ⟨by omega⟩
    haveI : BNe p4 ha.n := ⟨by omega⟩
    refine stp ?_
    refine B.retC ?_
    have fS : ∀ {A B C : AObj}, Fr (fun i => i = ha.n + 1 ∨ i = ha.n) hx (((hx.set (ha.n + 1) A).set (ha.n + 1) B).set ha.n C) := fun {A B C} => ((Fr.refl.set fun _ => .inl rfl).set fun _ => .inl rfl).set fun _ => .inr rfl
    refine ⟨.inr ⟨n, _, _, h16, e1, e2, rfl, o1.keep fS fun b hb e => by have := m1 b hb; omega, o2.keep fS fun b hb e => by have := m2 b hb; omega, fun i hi => by have := m1 i hi; omega, fun i hi => by have := m2 i hi; omega⟩, ?_⟩
    exact hfx.trans fS fun i hi e => by omega
end Go.Proofs.Ytlckmpioipiihaa.A

namespace Go.Proofs.Ytlckmpioipiihaa.A
open Go.Proofs.Ytlckmpioipiihaa.K
open Go Go.Vm
set_option maxRecDepth 10000
set_option linter.unusedVariables false
theorem fits_bytes {h : Heap} {m : Nat} {te : TypeId} {c : List Value} {len : Nat} (hu : Try.prog.underlying te = some (.int .u8)) (hs : Try.prog.cellsOf te = 1) (hl : c.length = len * Try.prog.cellsOf te) (hall : ∀ i, i < len → Fits Try.prog h (m + 1) te ((c.drop (i * Try.prog.cellsOf te)).take (Try.prog.cellsOf te))) : ∃ bs : List UInt8, c = bcells bs ∧ bs.length = len := by
  rw [hs, Nat.mul_one] at hl
  induction c generalizing len with
  | nil => exact ⟨[], rfl, by simpa using hl⟩
  | cons v c ih =>
    cases len with
    | zero => simp at hl
    | succ len =>
      have h0 := hall 0 (by omega)
      rw [hs] at h0
      unfold Fits at h0
      rw [hu] at h0
      simp only [Nat.zero_mul, List.drop_zero, List.take_succ_cons, List.take_zero] at h0
      obtain ⟨x, hx, hwf⟩ := h0
      injection hx with hx _
      obtain ⟨bs, rfl, hb⟩ := ih (len := len) (by simpa using hl) fun i hi => by
        have := hall (i + 1) (by omega)
        rw [hs] at this ⊢
        simpa using this
      have hr : 0 ≤ x ∧ x ≤ 255 := by
        simp [Lit.wf, IntKind.min, IntKind.max, IntKind.signed, IntKind.bits] at hwf
        omega
      refine ⟨UInt8.ofNat x.toNat :: bs, ?_, by simp [hb]⟩
      rw [hx]
      show Value.int .u8 x :: bcells bs = Value.int .u8 ((UInt8.ofNat x.toNat).toNat : Nat) :: bcells bs
      rw [u8nat (by omega)]
      congr 2
      omega
end Go.Proofs.Ytlckmpioipiihaa.A

namespace Go.Proofs.Ytlckmpioipiihaa.A
open Go.Proofs.Ytlckmpioipiihaa.K
open Go Go.Vm
set_option maxRecDepth 10000
set_option linter.unusedVariables false
theorem fits_flat32 {h : Heap} {m : Nat} {t te : TypeId} {c : List Value} (ht : Try.prog.underlying t = some (.array 32 te)) (hu : Try.prog.underlying te = some (.int .u8)) (hs : Try.prog.cellsOf te = 1) (hs32 : Try.prog.cellsOf t = 32) (hv : Fits Try.prog h (m + 2) t c) : ∃ bs : List UInt8, c = bcells bs ∧ bs.length = 32 := by
  unfold Fits at hv
  rw [ht] at hv
  exact fits_bytes hu hs (by rw [hv.1, hs32, hs]) hv.2
theorem fits_header {h : Heap} {m : Nat} {t ts ti th tb : TypeId} {c : List Value} (f0 : fieldAt Try.prog t 0 = some (0, ts)) (f1 : fieldAt Try.prog t 1 = some (1, ti)) (f2 : fieldAt Try.prog t 2 = some (2, ti)) (f3 : fieldAt Try.prog t 3 = some (3, th)) (f4 : fieldAt Try.prog t 4 = some (35, th)) (f5 : fieldAt Try.prog t 5 = some (67, th)) (f6 : fieldAt Try.prog t 6 = some (99, th))
    (us : Try.prog.underlying ts = some .string) (ui : Try.prog.underlying ti = some (.int .i64)) (uh : Try.prog.underlying th = some (.array 32 tb)) (ub : Try.prog.underlying tb = some (.int .u8)) (c0 : Try.prog.cellsOf ts = 1) (c1 : Try.prog.cellsOf ti = 1) (c3 : Try.prog.cellsOf th = 32) (cb : Try.prog.cellsOf tb = 1) (ct : Try.prog.cellsOf t = 131)
    (hv : Fits Try.prog h (m + 3) t c) : ∃ x : Hd, x.ok ∧ (-9223372036854775808 ≤ x.height ∧ x.height ≤ 9223372036854775807) ∧ (-9223372036854775808 ≤ x.time ∧ x.time ≤ 9223372036854775807) ∧ c = x.cells := by
  have hl := hv.len f0
  rw [ct] at hl
  obtain ⟨s, g0, _⟩ := (hv.field f0).str us
  obtain ⟨a, g1, w1⟩ := (hv.field f1).int ui
  obtain ⟨b, g2, w2⟩ := (hv.field f2).int ui
  obtain ⟨l3, g3, n3⟩ := fits_flat32 uh ub cb c3 (hv.field f3)
  obtain ⟨l4, g4, n4⟩ := fits_flat32 uh ub cb c3 (hv.field f4)
  obtain ⟨l5, g5, n5⟩ := fits_flat32 uh ub cb c3 (hv.field f5)
  obtain ⟨l6, g6, n6⟩ := fits_flat32 uh ub cb c3 (hv.field f6)
  rw [c0] at g0
  rw [c1] at g1 g2
  rw [c3] at g3 g4 g5 g6
  refine ⟨⟨s.data.toList, a, b, l3, l4, l5, l6⟩, ⟨n3, n4, n5, n6⟩, wf_i64 w1, wf_i64 w2, ?_⟩
  rw [← List.drop_zero (l := c), vsplit c 0 1, g0, vsplit c (0 + 1) 1, g1, vsplit c (0 + 1 + 1) 1, g2, vsplit c (0 + 1 + 1 + 1) 32, g3, vsplit c (0 + 1 + 1 + 1 + 32) 32, g4, vsplit c (0 + 1 + 1 + 1 + 32 + 32) 32, g5, vsplit c (0 + 1 + 1 + 1 + 32 + 32 + 32) 32, g6,
    show c.drop (0 + 1 + 1 + 1 + 32 + 32 + 32 + 32) = [] from List.drop_eq_nil_of_le (by omega), List.append_nil]
  rfl
end Go.Proofs.Ytlckmpioipiihaa.A

namespace Go.Proofs.Ytlckmpioipiihaa.A
open Go.Proofs.Ytlckmpioipiihaa.K
open Go Go.Vm
set_option maxRecDepth 10000
set_option linter.unusedVariables false
theorem four {l : List UInt8} (h : l.length = 4) : ∃ a b c d, l = [a, b, c, d] := by
  match l, h with
  | [a, b, c, d], _ => exact ⟨a, b, c, d, rfl⟩
end Go.Proofs.Ytlckmpioipiihaa.A

namespace Go.Proofs.Ytlckmpioipiihaa.A
open Go.Proofs.Ytlckmpioipiihaa.K
open Go Go.Vm
set_option maxRecDepth 100000
set_option linter.unusedVariables false
theorem vals_cells_fit {h : Heap} {m : Nat} {te tk tb ti : TypeId} (f0 : fieldAt Try.prog te 0 = some (0, tk)) (f1 : fieldAt Try.prog te 1 = some (4, ti)) (uk : Try.prog.underlying tk = some (.array 4 tb)) (ub : Try.prog.underlying tb = some (.int .u8)) (ui : Try.prog.underlying ti = some (.int .i64))
    (ce : Try.prog.cellsOf te = 5) (ck : Try.prog.cellsOf tk = 4) (cb : Try.prog.cellsOf tb = 1) (ci : Try.prog.cellsOf ti = 1) : ∀ (len : Nat) (c : List Value), c.length = len * 5 → (∀ i, i < len → Fits Try.prog h (m + 3) te ((c.drop (i * 5)).take 5)) →
    ∃ l : List Val, c = vcells l ∧ l.length = len ∧ ∀ v ∈ l, -9223372036854775808 ≤ v.p ∧ v.p ≤ 9223372036854775807
  | 0, c, hl, _ => ⟨[], by rw [vcells_nil]; simpa using hl, rfl, fun v hv => by cases hv⟩
  | len + 1, c, hl, hall => by
    have h0 := hall 0 (by omega)
    rw [Nat.zero_mul, List.drop_zero] at h0
    have hk := h0.field f0
    obtain ⟨p, g1, w1⟩ := (h0.field f1).int ui
    rw [ck] at hk
    rw [ci] at g1
    rw [List.drop_zero] at hk
    have h4 : (c.take 5).take 4 = c.take 4 := by rw [List.take_take]; rfl
    rw [h4] at hk
    have hb : ∃ bs : List UInt8, c.take 4 = bcells bs ∧ bs.length = 4 := by
      unfold Fits at hk
      rw [uk] at hk
      exact fits_bytes ub cb (by rw [hk.1, ck, cb]) hk.2
    obtain ⟨bs, hb1, hb2⟩ := hb
    obtain ⟨a0, a1, a2, a3, rfl⟩ := four hb2
    obtain ⟨l, e1, e2, e3⟩ := vals_cells_fit f0 f1 uk ub ui ce ck cb ci len (c.drop 5) (by rw [List.length_drop]; omega) fun i hi => by
      have := hall (i + 1) (by omega)
      rw [List.drop_drop]
      rw [show (i + 1) * 5 = 5 + i * 5 from by omega] at this
      exact this
    refine ⟨⟨a0, a1, a2, a3, p⟩ :: l, ?_, by simp [e2], fun v hv => ?_⟩
    · rw [vcells_cons, ← e1]
      have e5 : c = c.take 5 ++ c.drop 5 := (List.take_append_drop 5 c).symm
      have e6 : c.take 5 = c.take 4 ++ ((c.take 5).drop 4).take 1 := by
        have h1 : ((c.take 5).drop 4).take 1 = (c.take 5).drop 4 := List.take_of_length_le (by rw [List.length_drop, List.length_take]; omega)
        rw [h1, ← h4, List.take_append_drop]
      conv => lhs; rw [e5, e6, hb1, g1]
      rfl
    · rcases List.mem_cons.1 hv with rfl | hv
      · exact wf_i64 w1
      · exact e3 v hv
end Go.Proofs.Ytlckmpioipiihaa.A

namespace Go.Proofs.Ytlckmpioipiihaa.A
open Go.Proofs.Ytlckmpioipiihaa.K
open Go Go.Vm
set_option maxRecDepth 100000
set_option linter.unusedVariables false
theorem wf_u64 {x : Int} (h : (Lit.int .u64 x).wf = true) : 0 ≤ x ∧ x ≤ 18446744073709551615 := by
  simp [Lit.wf, IntKind.min, IntKind.max, IntKind.signed, IntKind.bits] at h
  omega
theorem votes_cells_fit {h : Heap} {m : Nat} {te ti tu : TypeId} (f0 : fieldAt Try.prog te 0 = some (0, ti)) (f1 : fieldAt Try.prog te 1 = some (1, tu)) (ui : Try.prog.underlying ti = some (.int .i64)) (uu : Try.prog.underlying tu = some (.int .u64))
    (ce : Try.prog.cellsOf te = 2) (ci : Try.prog.cellsOf ti = 1) (cu : Try.prog.cellsOf tu = 1) : ∀ (len : Nat) (c : List Value), c.length = len * 2 → (∀ i, i < len → Fits Try.prog h (m + 2) te ((c.drop (i * 2)).take 2)) →
    ∃ l : List Vote, c = tcells l ∧ l.length = len
  | 0, c, hl, _ => ⟨[], by rw [tcells_nil]; simpa using hl, rfl⟩
  | len + 1, c, hl, hall => by
    have h0 := hall 0 (by omega)
    rw [Nat.zero_mul, List.drop_zero] at h0
    obtain ⟨a, g0, w0⟩ := (h0.field f0).int ui
    obtain ⟨p, g1, w1⟩ := (h0.field f1).int uu
    rw [ci] at g0
    rw [cu] at g1
    obtain ⟨l, e1, e2⟩ := votes_cells_fit f0 f1 ui uu ce ci cu len (c.drop 2) (by rw [List.length_drop]; omega) fun i hi => by
      have := hall (i + 1) (by omega)
      rw [List.drop_drop]
      rw [show (i + 1) * 2 = 2 + i * 2 from by omega] at this
      exact this
    have hp := wf_u64 w1
    refine ⟨⟨a, p.toNat⟩ :: l, ?_, by simp [e2]⟩
    rw [tcells_cons, ← e1]
    match c, hl with
    | [], hl => simp at hl
    | [u], hl => simp at hl; omega
    | u :: w :: c, hl =>
      have g0 : [u] = [Value.int .i64 a] := g0
      have g1 : [w] = [Value.int .u64 p] := g1
      have g0 : u = Value.int .i64 a := by injection g0
      have g1 : w = Value.int .u64 p := by injection g1
      rw [g0, g1]
      show _ = [Value.int .i64 a, Value.int .u64 ((p.toNat : Nat) : Int)] ++ c
      rw [show ((p.toNat : Nat) : Int) = p from by omega]
      rfl
theorem fits_votes {h : Heap} {m : Nat} {t te ti tu : TypeId} {cs : List Value} (ht : Try.prog.underlying t = some (.slice te)) (f0 : fieldAt Try.prog te 0 = some (0, ti)) (f1 : fieldAt Try.prog te 1 = some (1, tu)) (ui : Try.prog.underlying ti = some (.int .i64)) (uu : Try.prog.underlying tu = some (.int .u64))
    (ce : Try.prog.cellsOf te = 2) (ci : Try.prog.cellsOf ti = 1) (cu : Try.prog.cellsOf tu = 1) (hv : Fits Try.prog h (m + 3) t cs) : ∃ (v : Value) (l : List Vote), cs = [v] ∧ Rd h 2 v (tcells l) l.length := by
  unfold Fits at hv
  rw [ht] at hv
  rcases hv with hv | ⟨b, len, cap, c, hv, hb, hlc, hcap, hro, hl, hall⟩
  · exact ⟨_, [], hv, Rd.nil⟩
  · rw [ce] at hl hall
    obtain ⟨l, rfl, e2⟩ := votes_cells_fit f0 f1 ui uu ce ci cu len c hl hall
    refine ⟨_, l, hv, ⟨_, _, by rw [e2], tcells_len l, fun hn => ⟨b, 0, none, rfl, hb, ?_⟩⟩⟩
    rw [cellsAt_of (c := tcells l) (by rw [hro (by omega)]; rfl) (by rw [tcells_len]; omega), List.drop_zero, List.take_of_length_le (by rw [tcells_len]; omega)]
theorem fits_vals1 {h : Heap} {m : Nat} {t te tk tb ti : TypeId} {cs : List Value} (ht : Try.prog.underlying t = some (.slice te)) (f0 : fieldAt Try.prog te 0 = some (0, tk)) (f1 : fieldAt Try.prog te 1 = some (4, ti)) (uk : Try.prog.underlying tk = some (.array 4 tb)) (ub : Try.prog.underlying tb = some (.int .u8)) (ui : Try.prog.underlying ti = some (.int .i64))
    (ce : Try.prog.cellsOf te = 5) (ck : Try.prog.cellsOf tk = 4) (cb : Try.prog.cellsOf tb = 1) (ci : Try.prog.cellsOf ti = 1) (hv : Fits Try.prog h (m + 4) t cs) : ∃ (v : Value) (l : List Val), cs = [v] ∧ Rd h 5 v (vcells l) l.length := by
  unfold Fits at hv
  rw [ht] at hv
  rcases hv with hv | ⟨b, len, cap, c, hv, hb, hlc, hcap, hro, hl, hall⟩
  · exact ⟨_, [], hv, Rd.nil⟩
  · rw [ce] at hl hall
    obtain ⟨l, rfl, e2, e3⟩ := vals_cells_fit f0 f1 uk ub ui ce ck cb ci len c hl hall
    refine ⟨_, l, hv, ⟨_, _, by rw [e2], vcells_len l, fun hn => ⟨b, 0, none, rfl, hb, ?_⟩⟩⟩
    rw [cellsAt_of (c := vcells l) (by rw [hro (by omega)]; rfl) (by rw [vcells_len]; omega), List.drop_zero, List.take_of_length_le (by rw [vcells_len]; omega)]
theorem fits_bkM {h : Heap} {n : Nat} {cs : List Value} (hv : Fits Try.prog h (n + 6) 31 cs) : ∃ (x : Bk) (sv sl : Value), cs = x.cells sv sl ∧ BkRd h x sv sl := by
  have b0 : fieldAt Try.prog 31 0 = some (0, 25) := by kernel_rfl
  have b1 : fieldAt Try.prog 31 1 = some (131, 28) := by kernel_rfl
  have b2 : fieldAt Try.prog 31 2 = some (165, 29) := by kernel_rfl
  have m0 : fieldAt Try.prog 28 0 = some (0, 3) := by kernel_rfl
  have m1 : fieldAt Try.prog 28 1 = some (1, 23) := by kernel_rfl
  have m2 : fieldAt Try.prog 28 2 = some (33, 26) := by kernel_rfl
  have v0 : fieldAt Try.prog 87 0 = some (0, 3) := by kernel_rfl
  have v1 : fieldAt Try.prog 87 1 = some (1, 85) := by kernel_rfl
  have l0 : fieldAt Try.prog 81 0 = some (0, 79) := by kernel_rfl
  have l1 : fieldAt Try.prog 81 1 = some (4, 3) := by kernel_rfl
  have uv : Try.prog.underlying 26 = some (.slice 87) := by kernel_rfl
  have ul : Try.prog.underlying 29 = some (.slice 81) := by kernel_rfl
  have uk : Try.prog.underlying 79 = some (.array 4 5) := by kernel_rfl
  have uu : Try.prog.underlying 85 = some (.int .u64) := by kernel_rfl
  have g0 : fieldAt Try.prog 25 0 = some (0, 9) := by kernel_rfl
  have g1 : fieldAt Try.prog 25 1 = some (1, 3) := by kernel_rfl
  have g2 : fieldAt Try.prog 25 2 = some (2, 3) := by kernel_rfl
  have g3 : fieldAt Try.prog 25 3 = some (3, 23) := by kernel_rfl
  have g4 : fieldAt Try.prog 25 4 = some (35, 23) := by kernel_rfl
  have g5 : fieldAt Try.prog 25 5 = some (67, 23) := by kernel_rfl
  have g6 : fieldAt Try.prog 25 6 = some (99, 23) := by kernel_rfl
  have u1 : Try.prog.underlying 9 = some .string := by kernel_rfl
  have u2 : Try.prog.underlying 3 = some (.int .i64) := by kernel_rfl
  have u3 : Try.prog.underlying 23 = some (.array 32 5) := by kernel_rfl
  have u4 : Try.prog.underlying 5 = some (.int .u8) := by kernel_rfl
  have c1 : Try.prog.cellsOf 9 = 1 := by kernel_rfl
  have c2 : Try.prog.cellsOf 3 = 1 := by kernel_rfl
  have c3 : Try.prog.cellsOf 23 = 32 := by kernel_rfl
  have c4 : Try.prog.cellsOf 5 = 1 := by kernel_rfl
  have c5 : Try.prog.cellsOf 25 = 131 := by kernel_rfl
  have c6 : Try.prog.cellsOf 28 = 34 := by kernel_rfl
  have c7 : Try.prog.cellsOf 31 = 166 := by kernel_rfl
  have c8 : Try.prog.cellsOf 87 = 2 := by kernel_rfl
  have c9 : Try.prog.cellsOf 81 = 5 := by kernel_rfl
  have d1 : Try.prog.cellsOf 79 = 4 := by kernel_rfl
  have d2 : Try.prog.cellsOf 85 = 1 := by kernel_rfl
  have d3 : Try.prog.cellsOf 26 = 1 := by kernel_rfl
  have d4 : Try.prog.cellsOf 29 = 1 := by kernel_rfl
  have hlen := hv.len b0
  rw [c7] at hlen
  obtain ⟨x, hx, _, _, hh⟩ := fits_header (m := n + 2) g0 g1 g2 g3 g4 g5 g6 u1 u2 u3 u4 c1 c2 c3 c4 c5 (hv.field b0)
  rw [c5] at hh
  have hc := hv.field b1
  rw [c6] at hc
  obtain ⟨ht, k0, _⟩ := (hc.field m0).int u2
  obtain ⟨hs, k1, k1l⟩ := fits_flat32 (m := n + 2) u3 u4 c4 c3 (hc.field m1)
  obtain ⟨sv, vs, k2, k2r⟩ := fits_votes (m := n + 1) uv v0 v1 u2 uu c8 c2 d2 (hc.field m2)
  obtain ⟨sl, ls, k3, k3r⟩ := fits_vals1 (m := n + 1) ul l0 l1 uk u4 u2 c9 d1 c4 c2 (hv.field b2)
  rw [c2] at k0
  rw [c3] at k1
  rw [d3] at k2
  rw [d4] at k3
  refine ⟨⟨x, ⟨ht, hs, vs⟩, ls⟩, sv, sl, ?_, ⟨hx, k1l, k2r, k3r⟩⟩
  have hcc : (cs.drop 131).take 34 = .int .i64 ht :: (bcells hs ++ [sv]) := by
    have hl2 : ((cs.drop 131).take 34).length = 34 := by rw [List.length_take, List.length_drop]; omega
    generalize (cs.drop 131).take 34 = c at *
    rw [← List.drop_zero (l := c), vsplit c 0 1, k0, vsplit c (0 + 1) 32, k1, vsplit c (0 + 1 + 32) 1, k2, show c.drop (0 + 1 + 32 + 1) = [] from List.drop_eq_nil_of_le (by omega), List.append_nil]
    rfl
  rw [← List.drop_zero (l := cs), vsplit cs 0 131, hh, vsplit cs (0 + 131) 34, hcc, vsplit cs (0 + 131 + 34) 1, k3, show cs.drop (0 + 131 + 34 + 1) = [] from List.drop_eq_nil_of_le (by omega), List.append_nil]
  simp only [Bk.cells, Hd.cells, List.cons_append, List.append_assoc, List.nil_append]
structure AC where
  kind : Int
  who : Int
  b : Bk
  sv : Value
  sl : Value
abbrev AC.cells (a : AC) : List Value := .int .i64 a.kind :: .int .i64 a.who :: a.b.cells a.sv a.sl
def acells (l : List AC) : List Value := l.flatMap AC.cells
def zAC : AC := ⟨0, 0, zBk, .slice none 0 0, .slice none 0 0⟩
theorem acells_cons (a : AC) (l : List AC) : acells (a :: l) = a.cells ++ acells l := rfl
theorem AC.len {h : Heap} {a : AC} (hb : BkRd h a.b a.sv a.sl) : a.cells.length = 168 := by
  have h1 := hb.hd.prev
  have h2 := hb.hd.vals
  have h3 := hb.hd.next
  have h4 := hb.hd.app
  have h5 := hb.hash
  simp only [AC.cells, Bk.cells, List.length_cons, List.length_append, bcells_len, List.length_nil]
  omega
theorem acells_len {h : Heap} : ∀ {l : List AC}, (∀ a ∈ l, BkRd h a.b a.sv a.sl) → (acells l).length = l.length * 168
  | [], _ => rfl
  | a :: l, hl => by
    rw [acells_cons, List.length_append, acells_len fun b hb => hl b (by simp [hb]), AC.len (hl a (by simp)), List.length_cons]
    omega
theorem acells_at {h : Heap} : ∀ {l : List AC} {k : Nat}, (∀ a ∈ l, BkRd h a.b a.sv a.sl) → k < l.length → ((acells l).drop (k * 168)).take 168 = (l.getD k zAC).cells
  | a :: l, 0, hl, _ => by
    have := AC.len (hl a (by simp))
    rw [acells_cons, Nat.zero_mul, List.drop_zero, ← this, List.take_left]
    rfl
  | a :: l, k + 1, hl, hk => by
    have h1 := AC.len (hl a (by simp))
    have h2 := acells_at (l := l) (k := k) (fun b hb => hl b (by simp [hb])) (by simpa using hk)
    rw [acells_cons, show (k + 1) * 168 = a.cells.length + k * 168 from by omega, ← List.drop_drop, List.drop_left]
    exact h2
theorem act_mem {l : List AC} {k : Nat} (hk : k < l.length) : l.getD k zAC ∈ l := by
  simp [List.getD, hk]
theorem act_cells {h0 h : Heap} {b o n k : Nat} {l : List AC} (hl : ∀ a ∈ l, BkRd h0 a.b a.sv a.sl) (hc : cellsAt h b o (n * 168) = some (acells l)) (hn : l.length = n) (hk : k < n) : Cells h b (o + k * 168) 168 (l.getD k zAC).cells := ⟨by
  rw [cellsAt_sub hc (by omega), acells_at hl (by omega)]⟩
theorem act_block {h0 h : Heap} {b o n k : Nat} {l : List AC} (hl : ∀ a ∈ l, BkRd h0 a.b a.sv a.sl) (hc : cellsAt h b o (n * 168) = some (acells l)) (hn : l.length = n) (hk : k < n) : Cells h b (o + k * 168 + 2) 166 ((l.getD k zAC).b.cells (l.getD k zAC).sv (l.getD k zAC).sl) := ⟨by
  have h5 := (act_cells hl hc hn hk).eq
  have h6 := AC.len (hl _ (act_mem (l := l) (k := k) (by omega)))
  rw [cellsAt_sub (k := 2) (m := 166) h5 (by omega)]
  have : ((l.getD k zAC).b.cells (l.getD k zAC).sv (l.getD k zAC).sl).length = 166 := by
    have e : (l.getD k zAC).cells.length = ((l.getD k zAC).b.cells (l.getD k zAC).sv (l.getD k zAC).sl).length + 2 := rfl
    omega
  simp only [AC.cells, List.drop_succ_cons, List.drop_zero]
  rw [← this, List.take_length]⟩
theorem acts_cells_fit {h : Heap} {n : Nat} {te : TypeId} (f0 : fieldAt Try.prog te 0 = some (0, 3)) (f1 : fieldAt Try.prog te 1 = some (1, 3)) (f2 : fieldAt Try.prog te 2 = some (2, 31)) (ui : Try.prog.underlying 3 = some (.int .i64)) (ci : Try.prog.cellsOf 3 = 1) (cb : Try.prog.cellsOf 31 = 166) :
    ∀ (len : Nat) (c : List Value), c.length = len * 168 → (∀ i, i < len → Fits Try.prog h (n + 7) te ((c.drop (i * 168)).take 168)) → ∃ l : List AC, c = acells l ∧ l.length = len ∧ ∀ a ∈ l, BkRd h a.b a.sv a.sl
  | 0, c, hl, _ => ⟨[], by simpa [acells] using hl, rfl, by simp⟩
  | len + 1, c, hl, hall => by
    have h0 := hall 0 (by omega)
    rw [Nat.zero_mul, List.drop_zero] at h0
    obtain ⟨a, g0, _⟩ := (h0.field f0).int ui
    obtain ⟨w, g1, _⟩ := (h0.field f1).int ui
    obtain ⟨x, sv, sl, g2, hb⟩ := fits_bkM (n := n) (h0.field f2)
    rw [ci] at g0 g1
    rw [cb] at g2
    obtain ⟨l, e1, e2, e3⟩ := acts_cells_fit f0 f1 f2 ui ci cb len (c.drop 168) (by rw [List.length_drop]; omega) fun i hi => by
      have := hall (i + 1) (by omega)
      rw [List.drop_drop]
      rw [show (i + 1) * 168 = 168 + i * 168 from by omega] at this
      exact this
    have hl2 : (c.take 168).length = 168 := by rw [List.length_take]; omega
    have he : c.take 168 = (⟨a, w, x, sv, sl⟩ : AC).cells := by
      generalize c.take 168 = e at *
      rw [← List.drop_zero (l := e), vsplit e 0 1, g0, vsplit e (0 + 1) 1, g1, vsplit e (0 + 1 + 1) 166, g2, show e.drop (0 + 1 + 1 + 166) = [] from List.drop_eq_nil_of_le (by omega), List.append_nil]
      rfl
    refine ⟨⟨a, w, x, sv, sl⟩ :: l, ?_, by simp [e2], fun b hb' => (List.mem_cons.1 hb').elim (fun e => by rw [e]; exact hb) (e3 b)⟩
    rw [acells_cons, ← e1, ← he, List.take_append_drop]
theorem fits_acts {h : Heap} {n : Nat} {t te : TypeId} {cs : List Value} (ht : Try.prog.underlying t = some (.slice te)) (f0 : fieldAt Try.prog te 0 = some (0, 3)) (f1 : fieldAt Try.prog te 1 = some (1, 3)) (f2 : fieldAt Try.prog te 2 = some (2, 31)) (ui : Try.prog.underlying 3 = some (.int .i64)) (ci : Try.prog.cellsOf 3 = 1) (cb : Try.prog.cellsOf 31 = 166) (ce : Try.prog.cellsOf te = 168) (hv : Fits Try.prog h (n + 8) t cs) :
    ∃ (v : Value) (l : List AC), cs = [v] ∧ Rd h 168 v (acells l) l.length ∧ ∀ a ∈ l, BkRd h a.b a.sv a.sl := by
  unfold Fits at hv
  rw [ht] at hv
  rcases hv with hv | ⟨b, len, cap, c, hv, hb, hlc, hcap, hro, hl, hall⟩
  · exact ⟨_, [], hv, Rd.nil, by simp⟩
  · rw [ce] at hl hall
    obtain ⟨l, rfl, e2, e3⟩ := acts_cells_fit (n := n) f0 f1 f2 ui ci cb len c hl hall
    have hal := acells_len e3
    refine ⟨_, l, hv, ⟨_, _, by rw [e2], hal, fun hn => ⟨b, 0, none, rfl, hb, ?_⟩⟩, e3⟩
    rw [cellsAt_of (c := acells l) (by rw [hro (by omega)]; rfl) (by omega), List.drop_zero, List.take_of_length_le (by omega)]
end Go.Proofs.Ytlckmpioipiihaa.A

namespace Go.Proofs.Ytlckmpioipiihaa.A
open Go.Proofs.Ytlckmpioipiihaa.K
open Go Go.Vm
set_option maxRecDepth 10000
set_option linter.unusedVariables false
set_option maxHeartbeats 4000000 in
theorem Result_ok {h : Heap} {p : Nat} {c : Cr} (hc : CrAt h p c) : Runs Try.prog T0 (.fn fn_zoQ) [.pointer (some ⟨p, 0, none⟩)] h (fun r h' => r = .int .i64 (resS c) ∧ Fr (fun _ => False) h h') (fun _ _ => False) := by
  have trio : ∀ {g : Heap} {s : Int}, s ≠ 0 → CrAt g p c → ∀ {bx bs : Nat}, g.get bx = .cells [.pointer (some ⟨p, 0, none⟩)] 0 → g.get bs = .cells [.int .i64 s] 0 → bx < g.n → bs < g.n → Runs Try.prog T0 (.fn fn_zyQ) [.func (.func fn_zsQ) ⟨[]⟩ ⟨[.pointer (some ⟨bx, 0, none⟩)]⟩, .func (.func fn_zxQ) ⟨[]⟩ ⟨[.pointer (some ⟨bs, 0, none⟩)]⟩] g (fun r h' => r = .bool (anyS c s) ∧ Fr (fun _ => False) g h') (fun _ _ => False) := fun a b _ _ c d e f => any_ok a b c d e f
  refine zoQ_runs ?_
  refine stp ?_
  refine O.call' (off_ok hc) (fun r h1 hr => ?_)
  obtain ⟨rfl, rfl⟩ := hr
  unfold resS
  refine stp ?_
  refine O.callT all_ok (fun r h2 hr => ?_)
  obtain ⟨rfl, n2, g2, f2⟩ := hr
  refine stp ?_
  refine O.callT are_ok (fun r h3 hr => ?_)
  obtain ⟨rfl, n3, g3, f3⟩ := hr
  refine stp ?_
  have c3 := (hc.keep f2 fun _ _ => id).keep f3 fun _ _ => id
  refine O.callT (trio (by omega) c3 (by rw [f3.get _ (by omega) id]; exact g2) g3 (by omega) (by omega)) (fun r h4 hr => ?_)
  obtain ⟨rfl, f4⟩ := hr
  have F4 := (f2.trans' f3).trans' f4
  have c4 := c3.keep f4 fun _ _ => id
  refine stp ?_
  cases hA : anyS c 4 with
  | true =>
    simp only [Bool.not_true]
    refine stp ?_
    refine O.call' all_ok (fun r h5 hr => ?_)
    obtain ⟨rfl, n5, g5, f5⟩ := hr
    refine stp ?_
    refine O.call' are_ok (fun r h6 hr => ?_)
    obtain ⟨rfl, n6, g6, f6⟩ := hr
    refine stp ?_
    have c6 := (c4.keep f5 fun _ _ => id).keep f6 fun _ _ => id
    refine O.call' (trio (by omega) c6 (by rw [f6.get _ (by omega) id]; exact g5) g6 (by omega) (by omega)) (fun r h7 hr => ?_)
    obtain ⟨rfl, f7⟩ := hr
    rw [hA]
    refine stp ?_
    exact ⟨rfl, ((F4.trans' f5).trans' f6).trans' f7⟩
  | false =>
    simp only [Bool.not_false]
    refine stp ?_
    refine O.callT all_ok (fun r h5 hr => ?_)
    obtain ⟨rfl, n5, g5, f5⟩ := hr
    refine stp ?_
    refine O.callT are_ok (fun r h6 hr => ?_)
    obtain ⟨rfl, n6, g6, f6⟩ := hr
    refine stp ?_
    have c6 := (c4.keep f5 fun _ _ => id).keep f6 fun _ _ => id
    refine O.callT (trio (by omega) c6 (by rw [f6.get _ (by omega) id]; exact g5) g6 (by omega) (by omega)) (fun r h7 hr => ?_)
    obtain ⟨rfl, f7⟩ := hr
    have F7 := ((F4.trans' f5).trans' f6).trans' f7
    have c7 := c6.keep f7 fun _ _ => id
    refine stp ?_
    cases hB : anyS c 1 with
    | true =>
      refine stp ?_
      exact ⟨rfl, F7⟩
    | false =>
      refine stp ?_
      refine O.call' all_ok (fun r h8 hr => ?_)
      obtain ⟨rfl, n8, g8, f8⟩ := hr
      refine stp ?_
      refine O.call' are_ok (fun r h9 hr => ?_)
      obtain ⟨rfl, n9, g9, f9⟩ := hr
      refine stp ?_
      have c9 := (c7.keep f8 fun _ _ => id).keep f9 fun _ _ => id
      refine O.call' (trio (by omega) c9 (by rw [f9.get _ (by omega) id]; exact g8) g9 (by omega) (by omega)) (fun r h10 hr => ?_)
      obtain ⟨rfl, f10⟩ := hr
      have F10 := ((F7.trans' f8).trans' f9).trans' f10
      have c10 := c9.keep f10 fun _ _ => id
      rw [hA]
      refine stp ?_
      refine O.call' all_ok (fun r h11 hr => ?_)
      obtain ⟨rfl, n11, g11, f11⟩ := hr
      refine stp ?_
      refine O.call' are_ok (fun r h12 hr => ?_)
      obtain ⟨rfl, n12, g12, f12⟩ := hr
      refine stp ?_
      have c12 := (c10.keep f11 fun _ _ => id).keep f12 fun _ _ => id
      refine O.call' (trio (by omega) c12 (by rw [f12.get _ (by omega) id]; exact g11) g12 (by omega) (by omega)) (fun r h13 hr => ?_)
      obtain ⟨rfl, f13⟩ := hr
      have F13 := ((F10.trans' f11).trans' f12).trans' f13
      cases hD : anyS c 2 with
      | true =>
        refine stp ?_
        exact ⟨rfl, F13⟩
      | false =>
        refine stp ?_
        exact ⟨rfl, F13⟩
def actOK (a : AC) : Prop := a.b.vals.length ≤ 70 ∧ a.b.c.votes.length ≤ 70 ∧ a.b.h.chain.length ≤ 60
theorem act_take {l : List AC} {k : Nat} (hk : k < l.length) : (∀ a ∈ l.take (k + 1), actOK a) ↔ (∀ a ∈ l.take k, actOK a) ∧ actOK (l.getD k zAC) := by
  have g : l.getD k zAC = l[k] := by simp [List.getD_eq_getElem?_getD, hk]
  rw [List.take_succ_eq_append_getElem hk, g]
  constructor
  · exact fun h => ⟨fun v hv => h v (List.mem_append.2 (.inl hv)), h _ (List.mem_append.2 (.inr (List.mem_singleton.2 rfl)))⟩
  · rintro ⟨h1, h2⟩ v hv
    rw [List.mem_append, List.mem_singleton] at hv
    rcases hv with hv | rfl
    · exact h1 v hv
    · exact h2
set_option maxHeartbeats 4000000 in
theorem long_ok {h : Heap} {v : Value} {l : List AC} (hv : Rd h 168 v (acells l) l.length) (hl : ∀ a ∈ l, BkRd h a.b a.sv a.sl) :
    Runs Try.prog T0 (.fn fn_zsbQ) [v] h (fun r h' => (∃ b : Bool, r = .bool b ∧ (b = false → l.length ≤ 30 ∧ ∀ a ∈ l, actOK a)) ∧ Fr (fun _ => False) h h') (fun _ _ => False) := by
  obtain ⟨a, cap, rfl, hlen, hc⟩ := hv
  refine zsbQ_runs ?_
  refine stp ?_
  refine loop1 zsbQ_l0_M 3 (fun q v3 h' => ∃ k : Nat, k ≤ l.length ∧ k ≤ 31 ∧ q = 31 - k ∧ v3 = .int .i64 k ∧ (∀ a ∈ l.take k, actOK a) ∧ Fr (fun _ => False) h h') ?_ 31 ⟨0, by omega, by omega, rfl, rfl, by simp, Fr.refl⟩
  rintro m v3 h' x2 x4 x5 x6 x7 x8 x9 x10 x11 x12 x13 x14 x15 x16 x17 x18 x19 ⟨k, hk, hk2, rfl, rfl, hall, hf⟩
  refine stp ?_
  refine O.dec (fun e1 => ?_) (fun e1 => ?_)
  · have hlt : k < l.length := by omega
    refine stp ?_
    refine C.if (fun e2 => ?_) (fun e2 => ?_)
    · obtain ⟨b, o, sp, rfl, hb, hcc⟩ := hc (by omega)
      have hcc' : cellsAt h' b o (l.length * 168) = some (acells l) := by rw [cellsAt_keep hf hb id]; exact hcc
      haveI := act_block hl hcc' rfl hlt
      have hm := hl _ (act_mem hlt)
      have hat := act_take hlt
      generalize l.getD k zAC = A at *
      refine stp ?_
      refine O.call' (LongBlock_ok (hm.keep hf fun _ _ => id)) (fun r h1 hr => ?_)
      obtain ⟨⟨b', rfl, hlong⟩, hf1⟩ := hr
      have F1 := hf.trans' hf1
      cases b' with
      | true =>
        refine stp ?_
        exact ⟨⟨true, rfl, fun e => by cases e⟩, F1⟩
      | false =>
        refine stp ?_
        exact loop1a 3 (31 - (k + 1)) (by omega) ⟨k + 1, by omega, by omega, rfl, rfl, hat.2 ⟨hall, hlong rfl⟩, F1⟩
    · refine stp ?_
      exact ⟨⟨_, rfl, fun e => by have := of_decide_eq_false e; omega⟩, hf⟩
  · refine stp ?_
    have hkl : k = l.length := by omega
    exact ⟨⟨_, rfl, fun e => ⟨by have := of_decide_eq_false e; omega, fun a ha => hall a (by rw [List.take_of_length_le (by omega)]; exact ha)⟩⟩, hf⟩
def bools (l : List Bool) : List Value := l.map .bool
theorem bool_at {h : Heap} {b o n k : Nat} {l : List Bool} (hc : cellsAt h b o (n * 1) = some (bools l)) (hn : l.length = n) (hk : k < n) : Cell h b (o + k) (.bool (l.getD k false)) := ⟨by
  have := cellsAt_sub (k := k) (m := 1) hc (by omega)
  rw [this]
  subst hn
  unfold bools
  have g : l.getD k false = l[k] := by simp [List.getD, hk]
  rw [← List.map_drop, List.drop_eq_getElem_cons hk, List.map_cons, g]
  rfl⟩
theorem one_int {h : Heap} {n : Int} {es : Nat} : newCells (h.push (.cells [.int .i64 n] es)) 1 [.int .i64 0] false (.slice (some ⟨h.n, 0, none⟩) 1 1) = some (1, [.int .i64 n]) :=
  (Rd.mk (size := 1) (n := 1) (cap := 1) (sp := none) (o := 0) (b := h.n) (c := [.int .i64 n]) (by simp) (by rw [cellsAt_of (c := [.int .i64 n]) (by rw [Heap.get_push, if_pos rfl]; rfl) (by simp)]; rfl)).new _
theorem icells_append (l m : List Int) : icells (l ++ m) = icells l ++ icells m := by simp [icells]
set_option maxHeartbeats 4000000 in
theorem wits_ok {h : Heap} {v : Value} {l : List Bool} (hv : Rd h 1 v (bools l) l.length) :
    Runs Try.prog T0 (.fn fn_ztbQ) [v] h (fun r h' => ∃ k, k ≤ 16 ∧ Own h' 1 r (icells (wAcc l k)) (wAcc l k).length ∧ (∀ i, ownedBy r i → h.n ≤ i) ∧ Fr (fun _ => False) h h') (fun _ _ => False) := by
  obtain ⟨a, cap, rfl, hlen, hc⟩ := hv
  refine ztbQ_runs ?_
  refine stp ?_
  refine loop2 ztbQ_l0_M 3 4 (fun q v3 v4 h' => ∃ k : Nat, k ≤ l.length ∧ k ≤ 16 ∧ q = 16 - k ∧ v4 = .int .i64 k ∧ Own h' 1 v3 (icells (wAcc l k)) (wAcc l k).length ∧ (∀ i, ownedBy v3 i → h.n ≤ i) ∧ Fr (fun _ => False) h h') ?_ 16 ⟨0, by omega, by omega, rfl, rfl, .none, fun i hi => hi.elim, Fr.refl⟩
  rintro m v3 v4 h' x5 x6 x7 x8 x9 x10 x11 x12 x13 x14 x15 x16 x17 x18 x19 x20 x21 x22 ⟨k, hk, hk2, rfl, rfl, ho, hnew, hf⟩
  refine stp ?_
  refine O.dec (fun e1 => ?_) (fun e1 => ?_)
  · have hlt : k < l.length := by omega
    refine stp ?_
    refine C.if (fun e2 => ?_) (fun e2 => ?_)
    · obtain ⟨b, o, sp, rfl, hb, hcc⟩ := hc (by omega)
      have hcc' : cellsAt h' b o (l.length * 1) = some (bools l) := by rw [cellsAt_keep hf hb id]; exact hcc
      haveI := bool_at hcc' rfl hlt
      have hacc : wAcc l (k + 1) = if l.getD k false = true then wAcc l k ++ [(k : Int)] else wAcc l k := rfl
      have hln := (wAcc_ok (l := l) (k := k) (by omega)).2.2
      refine stp ?_
      refine C.ifB (fun e3 => ?_) (fun e3 => ?_)
      · rw [if_pos e3] at hacc
        refine stp ?_
        refine O.append (ho.keep (S := fun _ => False) Fr.refl.push fun _ _ => id) one_int rfl rfl (by omega) (by omega) (by omega) (fun v6 h6 ho6 hf6 hn6 => ?_)
        refine stp ?_
        refine loop2a 3 4 (16 - (k + 1)) (by omega) ⟨k + 1, by omega, by omega, rfl, rfl, ?_, fun i hi => ?_, hf.trans (Fr.trans (S := ownedBy v3) Fr.refl.push hf6 fun _ _ h => h) fun i hi h => by have := hnew i h; omega⟩
        · rw [hacc, icells_append, List.length_append]
          exact ho6
        · rcases hn6 i hi with h7 | h7
          · exact hnew i h7
          · have := hf.n
            simp at h7; omega
      · rw [if_neg (by rw [e3]; simp)] at hacc
        refine stp ?_
        exact loop2a 3 4 (16 - (k + 1)) (by omega) ⟨k + 1, by omega, by omega, rfl, rfl, by rw [hacc]; exact ho, hnew, hf⟩
    · refine stp ?_
      exact ⟨k, hk2, ho, hnew, hf⟩
  · refine stp ?_
    exact ⟨k, hk2, ho, hnew, hf⟩
end Go.Proofs.Ytlckmpioipiihaa.A

namespace Go.Proofs.Ytlckmpioipiihaa.A
open Go.Proofs.Ytlckmpioipiihaa.K
open Go Go.Vm
set_option maxRecDepth 10000
set_option linter.unusedVariables false
theorem count_take {S : List Int} {s : Int} {k : Nat} (hk : k < S.length) : (S.take (k + 1)).count s = (S.take k).count s + if S.getD k 0 = s then 1 else 0 := by
  have g : S.getD k 0 = S[k] := by simp [List.getD, hk]
  rw [List.take_succ_eq_append_getElem hk, g, List.count_append, List.count_singleton]
  simp
theorem count_le {S : List Int} {s : Int} (k : Nat) : (S.take k).count s ≤ k := Nat.le_trans List.count_le_length (by rw [List.length_take]; omega)
theorem resS_eq {c : Cr} {d : Int} (hd : Dif (SS c) d) : resS c = if 0 ≤ d then 3 else if (SS c).count 1 = 0 ∧ 0 < (SS c).count 2 then 1 else if (SS c).count 1 = 0 then 2 else 0 := by
  have h4 : (anyS c 4 = true) ↔ 0 ≤ d := by
    rw [anyS_iff]
    have := hd.neg
    constructor
    · intro h
      exact Classical.byContradiction fun e => this.1 (by omega) h
    · intro h
      exact Classical.byContradiction fun e => by have := this.2 e; omega
  have h1 : anyS c 1 = true ↔ (SS c).count 1 ≠ 0 := by
    rw [anyS_iff, ← List.count_pos_iff]; omega
  have h2 : anyS c 2 = true ↔ 0 < (SS c).count 2 := by
    rw [anyS_iff, ← List.count_pos_iff]
  unfold resS
  generalize anyS c 4 = A at *
  generalize anyS c 1 = B at *
  generalize anyS c 2 = C at *
  generalize (SS c).count 1 = n1 at *
  generalize (SS c).count 2 = n2 at *
  cases A <;> cases B <;> cases C <;> simp only [Bool.false_eq_true, false_iff, true_iff, Classical.not_not] at h4 h1 h2 <;> simp only [Bool.false_eq_true, true_and, and_true, and_false, false_and, if_false, if_true, Bool.true_eq_false] <;> (repeat' split) <;> first | rfl | (exfalso; omega)
theorem EvS_who {h0 h : Heap} {c : Cr} {r : Value} {d : Int} (hl : c.ws.length = 16) (hok : ∀ k, k < 16 → (c.ws.getD k zWit).ok) (hd : Dif (SS c) d) (he : EvS h0 h c r) : ∃ x sw sm, r = .tuple ⟨[.int .i64 d, .agg ⟨Bk.cells x sw sm⟩, .bool (decide (0 ≤ d))]⟩ ∧ x.h.ok ∧ x.c.hash.length = 32 ∧ (∃ a n c, sw = .slice a n c) ∧ ∃ a n c, sm = .slice a n c := by
  have h4 : ∀ k, (c.ws.getD k zWit).st = (SS c).getD k 0 := SS_get c
  rcases he with ⟨rfl, hn⟩ | ⟨n, sw, sm, h16, e1, e2, rfl, o1, o2, _, _⟩
  · refine ⟨zBk, .slice none 0 0, .slice none 0 0, ?_, zeroHd_ok, rfl, ⟨_, _, _, rfl⟩, ⟨_, _, _, rfl⟩⟩
    have : (4 : Int) ∉ SS c := fun hm => by
      unfold SS at hm
      obtain ⟨w, hw, e⟩ := List.mem_map.1 hm
      exact hn w hw e
    have hneg := hd.neg.2 this
    rcases hd with ⟨rfl, _⟩ | ⟨k, _, rfl, _⟩
    · rfl
    · omega
  · rw [h4] at e1
    obtain ⟨a3, c3, rfl, _, _⟩ := id o1.rd
    obtain ⟨a4, c4, rfl, _, _⟩ := id o2.rd
    rcases hd with ⟨_, hn⟩ | ⟨k, hk, rfl, f1, f2⟩
    · exact absurd (mem_getD.2 ⟨n, by unfold SS; rw [List.length_map]; omega, e1⟩) hn
    · obtain rfl := f2 n e1
      exact ⟨_, _, _, by rw [decide_eq_true (by omega)], (hok n h16).hd, (hok n h16).hash, ⟨_, _, _, rfl⟩, ⟨_, _, _, rfl⟩⟩
set_option maxHeartbeats 16000000 in
theorem judged_ok {h : Heap} {p b es : Nat} {sp : Option Nat} {c : Cr} {d : Int} (hc : CrAt h p c) (hb : h.get b = .cells (icells (SS c)) es) (lb : b < h.n) (hd : Dif (SS c) d) :
    Runs Try.prog T0 (.fn fn_zrbQ) [.pointer (some ⟨p, 0, none⟩), .slice (some ⟨b, 0, sp⟩) 16 16, .int .i64 d] h (fun r h' => r = .bool true ∧ Fr (fun _ => False) h h') (fun _ _ => False) := by
  have hl := SS_len hc.ok
  have hcb : cellsAt h b 0 (16 * 1) = some (icells (SS c)) := by
    rw [cellsAt_of (c := icells (SS c)) (by rw [hb]; rfl) (by rw [icells_len, hl]; omega), List.drop_zero, List.take_of_length_le (by rw [icells_len, hl]; omega)]
  refine zrbQ_runs ?_
  refine stp ?_
  refine loop3 zrbQ_l0_M 7 8 9 (fun q v7 v8 v9 h' => ∃ k : Nat, k ≤ 16 ∧ q = 16 - k ∧ v9 = .int .i64 k ∧ v7 = .int .i64 (((SS c).take k).count 1 : Nat) ∧ v8 = .int .i64 (((SS c).take k).count 2 : Nat) ∧ h' = h) ?_ 16 ⟨0, by omega, rfl, rfl, by simp, by simp, rfl⟩
  · rintro m v7 v8 v9 h' x6 x14 x15 x16 x17 x18 x19 x20 x21 x22 x23 x24 x25 x26 x27 x28 x29 x30 x31 x32 x33 x34 x35 x36 x37 x38 x39 x40 x41 ⟨k, hk, rfl, rfl, rfl, rfl, rfl⟩
    refine stp ?_
    refine C.if (fun hlt => ?_) (fun hge => ?_)
    · have hlt : k < 16 := by omega
      haveI i1 := icell_at hcb hl hlt
      haveI : Cell h' b k (.int .i64 ((SS c).getD k 0)) := by rw [Nat.zero_add] at i1; exact i1
      have b1 := count_le (S := SS c) (s := 1) k
      have b2 := count_le (S := SS c) (s := 2) k
      have c1 := count_take (S := SS c) (s := 1) (k := k) (by omega)
      have c2 := count_take (S := SS c) (s := 2) (k := k) (by omega)
      refine stp ?_
      refine D.callX (State_ok hc) (fun r h1 hr => ?_) (fun r h1 hr => ?_) (fun _ _ hx => hx.elim)
      · obtain ⟨rfl, rfl⟩ := hr
        exact stab_cons inferInstance (stab_cons (XOp.mkIndexSl (by omega)) StabL.ok)
      obtain ⟨rfl, rfl⟩ := hr
      have hst : stateS c (k : Int) = (SS c).getD k 0 := by
        unfold stateS stW
        rw [if_neg (by omega), SS_get]
        rfl
      rw [hst]
      generalize (SS c).getD k 0 = s at *
      refine stp ?_
      simp only [decide_true, Bool.not_true]
      refine stp ?_
      refine C.if (fun t1 => ?_) (fun t1 => ?_)
      · rw [if_pos t1] at c1
        rw [if_neg (by omega)] at c2
        refine stp ?_
        refine C.if (fun t2 => by exfalso; omega) (fun t2 => ?_)
        refine stp ?_
        exact loop3a 7 8 9 (16 - (k + 1)) (by omega) ⟨k + 1, by omega, rfl, rfl, by rw [c1]; rfl, by rw [c2]; rfl, rfl⟩
      · rw [if_neg t1] at c1
        refine stp ?_
        refine C.if (fun t2 => ?_) (fun t2 => ?_)
        · rw [if_pos t2] at c2
          refine stp ?_
          exact loop3a 7 8 9 (16 - (k + 1)) (by omega) ⟨k + 1, by omega, rfl, rfl, by rw [c1]; rfl, by rw [c2]; rfl, rfl⟩
        · rw [if_neg t2] at c2
          refine stp ?_
          exact loop3a 7 8 9 (16 - (k + 1)) (by omega) ⟨k + 1, by omega, rfl, rfl, by rw [c1]; rfl, by rw [c2]; rfl, rfl⟩
    · obtain rfl : k = 16 := by omega
      have hR := resS_eq hd
      have e1 : (SS c).take 16 = SS c := List.take_of_length_le (by omega)
      rw [e1]
      have b1 : (SS c).count 1 ≤ 16 := by have := count_le (S := SS c) (s := 1) 16; rw [e1] at this; exact this
      have b2 : (SS c).count 2 ≤ 16 := by have := count_le (S := SS c) (s := 2) 16; rw [e1] at this; exact this
      generalize (SS c).count 1 = n1 at *
      generalize (SS c).count 2 = n2 at *
      refine stp ?_
      have hlw := hc.ok.len
      have hokw := fun k hk => Cr.get hc.ok (k := k) hk
      refine C.if (fun t1 => ?_) (fun t1 => ?_)
      all_goals refine stp ?_
      all_goals try refine O.dec (fun t2 => ?_) (fun t2 => ?_)
      all_goals refine stp ?_
      all_goals try refine C.if (fun t3 => ?_) (fun t3 => ?_)
      all_goals refine stp ?_
      all_goals try refine C.if (fun t4 => ?_) (fun t4 => ?_)
      all_goals refine stp ?_
      all_goals
        refine O.call' (Evidence_ok hc) (fun r h2 hr => ?_)
        obtain ⟨hev, f2⟩ := hr
        obtain ⟨x, sw, sm, rfl, hxo, hxh, ⟨a3, a4, a5, rfl⟩, ⟨a6, a7, a8, rfl⟩⟩ := EvS_who hlw hokw hd hev
        haveI := l32 hxo.prev
        haveI := l32 hxo.vals
        haveI := l32 hxo.next
        haveI := l32 hxo.app
        haveI := l32 hxh
        refine stp ?_
        refine O.call' (Result_ok ((hc.keep f2 fun _ _ => id).keep (S := fun _ => False) Fr.refl.push fun _ _ => id)) (fun r h4 hr => ?_)
        obtain ⟨rfl, f4⟩ := hr
        refine stp ?_
        refine O.dec (fun t5 => ?_) (fun t5 => absurd (by rw [hR]; (repeat' split) <;> omega) t5)
        refine stp ?_
        simp only [decide_true]
        refine stp ?_
        simp only [beq_self_eq_true]
        refine stp ?_
        exact ⟨trivial, (f2.push).trans' f4⟩
end Go.Proofs.Ytlckmpioipiihaa.A

namespace Go.Proofs.Ytlckmpioipiihaa.A
open Go.Proofs.Ytlckmpioipiihaa.K
open Go Go.Vm
set_option maxRecDepth 10000
set_option linter.unusedVariables false
theorem XOp.mkInts {P : Program} {ts : List Value} {h : Heap} {el : TypeId} : XOp P ts h (.makeSlice el 1 8 [.int .i64 0] (.const (.int .i64 16)) (.const (.int .i64 16))) (.slice (some ⟨h.n, 0, none⟩) 16 16) (h.push (.cells (icells (List.replicate 16 0)) 0)) := ⟨rfl, rfl⟩
theorem int_put {h : Heap} {q es k : Nat} {S : List Int} (hg : h.get q = .cells (icells S) es) (hk : k < S.length) (n : Int) : Put h q k [.int .i64 n] (h.set q (.cells (icells (S.set k n)) es)) := ⟨by
  have hl := icells_len S
  simp only [putAt, hg]
  rw [if_pos ⟨by simp only [List.length_cons, List.length_nil]; omega, rfl⟩]
  have e : icells S = icells (S.take k) ++ (.int .i64 S[k] :: icells (S.drop (k + 1))) := by
    conv => lhs; rw [← List.take_append_drop k S, List.drop_eq_getElem_cons hk]
    rw [icells_append]
    rfl
  have e2 : icells (S.set k n) = icells (S.take k) ++ (.int .i64 n :: icells (S.drop (k + 1))) := by
    rw [List.set_eq_take_append_cons_drop, if_pos hk, icells_append]
    rfl
  have l : (icells (S.take k)).length = k := by rw [icells_len, List.length_take]; omega
  have t := over_mid (icells (S.take k)) [.int .i64 S[k]] (icells (S.drop (k + 1))) [.int .i64 n] (by simp)
  rw [l] at t
  rw [e2, e]
  show some (h.set q (.cells (over (icells (S.take k) ++ ([.int .i64 S[k]] ++ icells (S.drop (k + 1)))) k [.int .i64 n]) es)) = _
  rw [t]
  rfl⟩
def Above (N : Nat) (c : Cr) : Prop := ∀ w ∈ c.ws, ∀ i, blockOf w.sv i ∨ blockOf w.sl i → N ≤ i
theorem CrAt.keepA {h h' : Heap} {p q N : Nat} {c : Cr} (hc : CrAt h p c) (ha : Above N c) (hq : q < N) (hp : p ≠ q) (hf : Fr (fun i => i = q) h h') : CrAt h' p c :=
  ⟨hc.ok, hf.lt hc.lt, by rw [hf.get _ hc.lt hp]; exact hc.get, fun w hw => by
    have h1 := hc.ws w hw
    exact ⟨h1.sv.keep hf fun i hi e => by have := ha w hw i (.inl hi); omega, h1.sl.keep hf fun i hi e => by have := ha w hw i (.inr hi); omega, h1.nv, h1.nl, h1.lv, h1.ll⟩⟩
theorem Above.put {N k : Nat} {c : Cr} {w : Wit} (ha : Above N c) (hw : ∀ i, blockOf w.sv i ∨ blockOf w.sl i → N ≤ i) : Above N (c.put k w) := fun v hv => by
  rcases List.mem_or_eq_of_mem_set hv with h1 | h1
  · exact ha v h1
  · rw [h1]; exact hw
theorem Above.stand {N k : Nat} {s : Int} {c : Cr} (ha : Above N c) (hk : k < c.ws.length) : Above N (c.stand k s) := ha.put fun i hi => ha _ (wit_mem hk) i hi
theorem Above.ask {N : Nat} {l : List UInt8} (W : List Int) : Above N ⟨l, askAll W⟩ := by
  have : ∀ (l : List Int) (ws : List Wit), (∀ w ∈ ws, ∀ i, ¬ (blockOf w.sv i ∨ blockOf w.sl i)) → ∀ w ∈ l.foldl askW ws, ∀ i, ¬ (blockOf w.sv i ∨ blockOf w.sl i) := by
    intro l
    induction l with
    | nil => intro ws h; exact h
    | cons w l ih =>
      intro ws h
      rw [List.foldl_cons]
      refine ih _ fun v hv => ?_
      rcases List.mem_or_eq_of_mem_set hv with h1 | h1
      · exact h v h1
      · rw [h1]
        by_cases hl : w.toNat < ws.length
        · exact fun i e => h _ (wit_mem hl) i e
        · rw [List.getD_eq_getElem?_getD, List.getElem?_eq_none (by omega)]
          exact fun i e => by rcases e with e | e <;> exact e
  intro w hw i hi
  exact absurd hi (this W _ (fun w hw i e => by rw [List.eq_of_mem_replicate hw] at e; rcases e with e | e <;> exact e) w hw i)
theorem four_ask (W : List Int) : (4 : Int) ∉ W.foldl (fun S w => S.set w.toNat 1) (List.replicate 16 (0 : Int)) := by
  have : ∀ (l : List Int) (S : List Int), (4 : Int) ∉ S → (4 : Int) ∉ l.foldl (fun S w => S.set w.toNat 1) S := by
    intro l
    induction l with
    | nil => intro S h; exact h
    | cons w l ih =>
      intro S h
      rw [List.foldl_cons]
      refine ih _ fun hm => ?_
      rcases List.mem_or_eq_of_mem_set hm with h1 | h1
      · exact h h1
      · cases h1
  exact this W _ (by intro h; have := List.eq_of_mem_replicate h; cases this)
theorem may_iff {c : Cr} {who : Int} : mayS c who = 0 ↔ (4 : Int) ∉ SS c ∧ 0 ≤ who ∧ who < 16 ∧ (SS c).getD who.toNat 0 = 1 := by
  constructor
  · intro h
    obtain ⟨h1, h2, h3, h4⟩ := mayS_zero h
    refine ⟨fun e => ?_, h2, h3, ?_⟩
    · rw [anyS_iff.2 e] at h1; cases h1
    · unfold stW at h4
      rw [SS_get] at h4
      exact h4
  · rintro ⟨h1, h2, h3, h4⟩
    have e1 : ¬ anyS c 4 = true := fun e => h1 (anyS_iff.1 e)
    have e2 : stW c who = 1 := by unfold stW; rw [SS_get]; exact h4
    unfold mayS
    rw [if_neg e1, if_neg (by omega), if_neg (by omega), if_neg (fun e => e e2)]
set_option maxHeartbeats 16000000 in
theorem CrossJudges_true {h : Heap} {x : Bk} {sv sl v w : Value} {is : List Bool} {l : List AC} (hb : BkRd h x sv sl) (hi : Rd h 1 v (bools is) is.length) (hv : Rd h 168 w (acells l) l.length) (hl : ∀ a ∈ l, BkRd h a.b a.sv a.sl) :
    Runs Try.prog T0 (.fn fn_zpbQ) [.agg ⟨x.cells sv sl⟩, v, w] h (fun r h' => r = .bool true) (fun _ _ => False) := by
  have hx := hb.hd
  have hch := hb.hash
  haveI := l32 hx.prev
  haveI := l32 hx.vals
  haveI := l32 hx.next
  haveI := l32 hx.app
  haveI := l32 hch
  haveI := l32 (hashH_len x.h)
  obtain ⟨a1, c1, rfl, _, _⟩ := id hb.sv
  obtain ⟨a2, c2, rfl, _, _⟩ := id hb.sl
  obtain ⟨ai, ci, rfl, hil, _⟩ := id hi
  obtain ⟨aw, cw, rfl, hwl, hwc⟩ := id hv
  refine zpbQ_runs ?_
  refine stp ?_
  generalize hX : Value.slice a1 x.c.votes.length c1 = xv at *
  generalize hX' : Value.slice a2 x.vals.length c2 = xl at *
  have gA : HGet (h.push (.cells (x.cells xv xl) 0)) h.n (.cells (x.cells xv xl) 0) := HGet.new
  have F0 : Fr (fun _ => False) h (h.push (.cells (x.cells xv xl) 0)) := Fr.refl.push
  have n0 : (h.push (.cells (x.cells xv xl) 0)).n = h.n + 1 := rfl
  generalize h.push (.cells (x.cells xv xl) 0) = h0 at *
  refine O.call' zqbQ_known (fun r h1 hr => ?_)
  obtain ⟨rfl, rfl⟩ := hr
  haveI := gA
  refine stp ?_
  refine O.call' (BHash_ok (hb.keep F0 fun _ _ => id)) (fun r h2 hr => ?_)
  obtain ⟨rfl, f2⟩ := hr
  have F2 := F0.trans' f2
  have n2 := f2.n
  have gA2 := f2.keep gA (by omega) id
  haveI := gA2
  haveI : BLt h.n h2 := ⟨by omega⟩
  refine stp ?_
  have F3 : Fr (fun _ => False) h (h2.push (.cells (bcells (hashH x.h)) 0)) := F2.push
  have gA3 : HGet (h2.push (.cells (bcells (hashH x.h)) 0)) h.n (.cells (x.cells xv xl) 0) := HGet.push (g := gA2)
  have gH3 : HGet (h2.push (.cells (bcells (hashH x.h)) 0)) h2.n (.cells (bcells (hashH x.h)) 0) := HGet.new
  have n3 : (h2.push (.cells (bcells (hashH x.h)) 0)).n = h2.n + 1 := rfl
  generalize h2.push (.cells (bcells (hashH x.h)) 0) = h3 at *
  haveI := gA3
  refine stp ?_
  refine O.call' (LongBlock_ok (hb.keep F3 fun _ _ => id)) (fun r h4 hr => ?_)
  obtain ⟨⟨b, rfl, hlong⟩, f4⟩ := hr
  have F4 := F3.trans' f4
  have n4 := f4.n
  have gA4 := f4.keep gA3 (by omega) id
  have gH4 := f4.keep gH3 (by omega) id
  cases b with
  | true =>
    refine stp ?_
    rfl
  | false =>
  obtain ⟨y1, y2, y3⟩ := hlong rfl
  refine stp ?_
  refine O.dec (fun q1 => ?_) (fun q1 => ?_)
  · refine stp ?_
    rfl
  refine stp ?_
  refine O.callT (long_ok (hv.keep F4 fun _ _ => id) (fun a ha => (hl a ha).keep F4 fun _ _ => id)) (fun r h5 hr => ?_)
  obtain ⟨⟨b, rfl, hacts⟩, f5⟩ := hr
  have F5 := F4.trans' f5
  have n5 := f5.n
  have gA5 := f5.keep gA4 (by omega) id
  have gH5 := f5.keep gH4 (by omega) id
  cases b with
  | true =>
    refine stp ?_
    rfl
  | false =>
  obtain ⟨w1, w2⟩ := hacts rfl
  refine stp ?_
  refine C.ifN (fun q2 => ?_) (fun q2 => ?_)
  · refine stp ?_
    rfl
  refine stp ?_
  refine O.call' (wits_ok (hi.keep F5 fun _ _ => id)) (fun r h6 hr => ?_)
  obtain ⟨kk, hkk, ho6, hn6, f6⟩ := hr
  have F6 := F5.trans' f6
  have n6 := f6.n
  have gA6 := f6.keep gA5 (by omega) id
  have gH6 := f6.keep gH5 (by omega) id
  haveI := gA6
  obtain ⟨wz1, g2, g3⟩ := wAcc_ok (l := is) hkk
  refine stp ?_
  refine O.call' (New_ok (hb.keep F6 fun _ _ => id) ho6.rd (by omega)) (fun r h7 hr => ?_)
  obtain ⟨f7, hr⟩ := hr
  have F7 := F6.trans' f7
  have n7 := f7.n
  have gA7 := f7.keep gA6 (by omega) id
  have gH7 := f7.keep gH6 (by omega) id
  have ho7 := ho6.keep f7 fun _ _ => id
  rcases hr with ⟨e1, _⟩ | ⟨_, e1, _⟩ | ⟨_, _, p, rfl, hp, hC⟩
  · exact absurd q2 e1
  · exact absurd wz1 e1
  refine stp ?_
  refine O.how XOp.mkInts ?_
  refine stp ?_
  have F8 : Fr (fun _ => False) h (h7.push (.cells (icells (List.replicate 16 0)) 0)) := F7.push
  have n8 : (h7.push (.cells (icells (List.replicate 16 0)) 0)).n = h7.n + 1 := rfl
  have gS8 : (h7.push (.cells (icells (List.replicate 16 0)) 0)).get h7.n = .cells (icells (List.replicate 16 0)) 0 := HGet.new.eq
  have f78 : Fr (fun _ => False) h7 (h7.push (.cells (icells (List.replicate 16 0)) 0)) := Fr.refl.push
  generalize h7.push (.cells (icells (List.replicate 16 0)) 0) = h8 at *
  have ho8 := ho7.keep f78 fun _ _ => id
  generalize wAcc is kk = W at *
  have hSS : SS ⟨hashH x.h, askAll W⟩ = W.foldl (fun S w => S.set w.toNat 1) (List.replicate 16 0) := askAll_map W
  have hfl : ∀ k, ((W.take k).foldl (fun S w => S.set w.toNat 1) (List.replicate 16 (0 : Int))).length = 16 := fun k => by
    have : ∀ (l : List Int) (S : List Int), (l.foldl (fun S w => S.set w.toNat 1) S).length = S.length := by
      intro l
      induction l with
      | nil => intro S; rfl
      | cons w l ih => intro S; rw [List.foldl_cons, ih, List.length_set]
    rw [this]; simp
  obtain ⟨ar, cr, rfl, hrl, hrc⟩ := ho8.rd
  refine loop1 zpbQ_l0_M 14 (fun q v14 h' => ∃ k : Nat, k ≤ W.length ∧ q = W.length - k ∧ v14 = .int .i64 k ∧ h'.get h7.n = .cells (icells ((W.take k).foldl (fun S w => S.set w.toNat 1) (List.replicate 16 0))) 0 ∧ Fr (fun i => i = h7.n) h8 h') ?_ W.length ⟨0, by omega, rfl, rfl, gS8, Fr.refl⟩
  rintro m v14 h' x58 x59 x60 x61 x62 x63 x64 x65 x66 x67 x68 x69 ⟨k, hk, rfl, rfl, hgS, hf⟩
  refine stp ?_
  refine C.if (fun hlt => ?_) (fun hge => ?_)
  · have hlt : k < W.length := by omega
    obtain ⟨b, o, sp, rfl, hb1, hcc⟩ := hrc (by omega)
    have hbl : b < h7.n := ho7.lt rfl
    have hcc' : cellsAt h' b o (W.length * 1) = some (icells W) := by rw [cellsAt_keep hf hb1 (by omega)]; exact hcc
    haveI := icell_at hcc' rfl hlt
    have gw := g2 _ (show W.getD k 0 ∈ W by simp [List.getD, hlt])
    have hst : (W.take (k + 1)).foldl (fun S w => S.set w.toNat 1) (List.replicate 16 (0 : Int)) = ((W.take k).foldl (fun S w => S.set w.toNat 1) (List.replicate 16 0)).set (W.getD k 0).toNat 1 := by
      have g : W.getD k 0 = W[k] := by simp [List.getD, hlt]
      rw [List.take_succ_eq_append_getElem hlt, g, List.foldl_append]
      rfl
    generalize W.getD k 0 = w0 at *
    haveI i1 := int_put hgS (k := w0.toNat) (by rw [hfl]; omega) 1
    haveI : Put h' h7.n (0 + w0.toNat * 1) [.int .i64 1] (h'.set h7.n (.cells (icells (((W.take k).foldl (fun S w => S.set w.toNat 1) (List.replicate 16 0)).set w0.toNat 1)) 0)) := by rw [Nat.zero_add, Nat.mul_one]; exact i1
    haveI : BLt h7.n h' := ⟨by have := hf.n; omega⟩
    refine stp ?_
    exact loop1a 14 (W.length - (k + 1)) (by omega) ⟨k + 1, by omega, rfl, rfl, by rw [hst, Heap.get_set, if_pos rfl], hf.set fun _ => rfl⟩
  obtain rfl : k = W.length := by omega
  rw [List.take_of_length_le (by omega), ← hSS] at hgS
  refine stp ?_
  have hC9 : CrAt h' p ⟨hashH x.h, askAll W⟩ := (hC.keep f78 fun _ _ => id).keepA (N := h8.n) (Above.ask W) (by omega) (by have := hC.lt; omega) hf
  have gH9 : HGet h' h2.n (.cells (bcells (hashH x.h)) 0) := ⟨by rw [hf.get _ (by omega) (by omega), f78.get _ (by omega) id]; exact gH7.eq⟩
  have F9 : Fr (fun _ => False) h h' := F8.trans hf fun i hi e => by have := F7.n; omega
  have n9 := hf.n
  have hpl := hC.lt
  generalize hh9 : h' = h9 at *
  clear hh9
  refine loop2 zpbQ_l1_M 15 16 (fun q v15 v16 g => ∃ (k : Nat) (d : Int) (c : Cr), k ≤ l.length ∧ q = l.length - k ∧ v16 = .int .i64 k ∧ v15 = .int .i64 d ∧ c.hash = hashH x.h ∧ CrAt g p c ∧ Above h8.n c ∧ g.get h7.n = .cells (icells (SS c)) 0 ∧ Dif (SS c) d ∧ Fr (fun i => i = p ∨ i = h7.n) h9 g) ?_ l.length ⟨0, -1, ⟨hashH x.h, askAll W⟩, by omega, rfl, rfl, rfl, rfl, hC9, Above.ask W, hgS, .inl ⟨rfl, by rw [hSS]; exact four_ask W⟩, Fr.refl⟩
  rintro m v15 v16 h' x6 x17 x18 x19 x20 x70 x71 x72 x73 x74 x75 x76 x77 x78 x79 x80 x81 x82 x83 x84 x85 x86 x87 x88 x89 x90 x91 x92 x93 x94 x95 x96 x97 x98 x99 x100 x101 x102 x103 x104 x105 x106 x107 x108 x109 x110 x111 x112 x113 x114 x115 x116 x117 x118 x119 x120 x121 x122 x123 x124 x125 x126 x127 x128 x129 x130 x131 x132 x133 x134 x135 x136 x137 x138 x139 x140 x141 x142 x143 x144 x145 x146 x147 x148 x149 x150 x151 x152 x153 x154 x155 x156 x157 x158 x159 x160 x161 x162 x163 x164 x165 x166 x167 x168 x169 ⟨k, d, c, hk, rfl, rfl, rfl, hch, hCk, hab, hgk, hdif, hfk⟩
  refine stp ?_
  have FA : Fr (fun i => h.n ≤ i) h h' := (F9.mono fun _ _ e => e.elim).trans' (hfk.mono fun i _ e => by omega)
  have nk := hfk.n
  have hSl := SS_len hCk.ok
  refine C.if (fun hlt => ?_) (fun hge => ?_)
  · have hlt : k < l.length := by omega
    obtain ⟨b, o, sp, rfl, hb1, hcc⟩ := hwc (by omega)
    have hcc' : cellsAt h' b o (l.length * 168) = some (acells l) := by rw [cellsAt_keep FA hb1 (by omega)]; exact hcc
    haveI := act_cells hl hcc' rfl hlt
    have hm := (hl _ (act_mem hlt)).keep FA (fun i hi => by omega)
    have hbd := w2 _ (act_mem hlt)
    generalize l.getD k zAC = A at *
    obtain ⟨kd, who, ab, asv, asl⟩ := A
    obtain ⟨z1, z2, z3⟩ := hbd
    simp only at hm z1 z2 z3
    haveI := l32 hm.hd.prev
    haveI := l32 hm.hd.vals
    haveI := l32 hm.hd.next
    haveI := l32 hm.hd.app
    haveI := l32 hm.hash
    haveI := l32 (hashH_len ab.h)
    obtain ⟨a5, c5, rfl, _, _⟩ := id hm.sv
    obtain ⟨a6, c6, rfl, _, _⟩ := id hm.sl
    refine stp ?_
    have f1 : Fr (fun _ => False) h' (h'.push (.cells (.int .i64 kd :: .int .i64 who :: ab.cells (.slice a5 ab.c.votes.length c5) (.slice a6 ab.vals.length c6)) 0)) := Fr.refl.push
    have gX : HGet (h'.push (.cells (.int .i64 kd :: .int .i64 who :: ab.cells (.slice a5 ab.c.votes.length c5) (.slice a6 ab.vals.length c6)) 0)) h'.n (.cells (.int .i64 kd :: .int .i64 who :: ab.cells (.slice a5 ab.c.votes.length c5) (.slice a6 ab.vals.length c6)) 0) := HGet.new
    have n1 : (h'.push (.cells (.int .i64 kd :: .int .i64 who :: ab.cells (.slice a5 ab.c.votes.length c5) (.slice a6 ab.vals.length c6)) 0)).n = h'.n + 1 := rfl
    generalize h'.push (.cells (.int .i64 kd :: .int .i64 who :: ab.cells (.slice a5 ab.c.votes.length c5) (.slice a6 ab.vals.length c6)) 0) = g1 at *
    have hC1 := hCk.keep f1 fun _ _ => id
    have gS1 : g1.get h7.n = .cells (icells (SS c)) 0 := by rw [f1.get _ (by omega) id]; exact hgk
    have gH1 : HGet g1 h2.n (.cells (bcells (hashH x.h)) 0) := f1.keep (hfk.keep gH9 (by omega) (by omega)) (by omega) id
    have hm1 := hm.keep f1 fun _ _ => id
    haveI := gX
    haveI : BLt h'.n g1 := ⟨by omega⟩
    by_cases hfit : mayS c who = 0
    · obtain ⟨t1, t2, t3, t4⟩ := may_iff.1 hfit
      have t0 : d < 0 := hdif.neg.2 t1
      refine O.dec (fun s1 => ?_) (fun s1 => absurd t0 s1)
      refine stp ?_
      refine O.dec (fun s2 => ?_) (fun s2 => absurd t2 s2)
      refine stp ?_
      refine O.dec (fun s3 => ?_) (fun s3 => absurd t3 s3)
      refine stp ?_
      refine O.callT (Pick_ok (by omega)) (fun r g1 hr => ?_)
      obtain ⟨rfl, rfl⟩ := hr
      rw [show pickS who 16 = who by unfold pickS; rw [if_neg (by omega)]; omega]
      haveI i2 : Cell g1 h7.n who.toNat (.int .i64 1) := by
        have := icell_at (h := g1) (b := h7.n) (o := 0) (n := 16) (k := who.toNat) (l := SS c) (by rw [cellsAt_of (c := icells (SS c)) (by rw [gS1]; rfl) (by rw [icells_len, hSl]; omega), List.drop_zero, List.take_of_length_le (by rw [icells_len, hSl]; omega)]) hSl (by omega)
        rw [t4, Nat.zero_add] at this
        exact this
      haveI : Cell g1 h7.n (0 + who.toNat * 1) (.int .i64 1) := by rw [Nat.zero_add, Nat.mul_one]; exact i2
      refine stp ?_
      simp only [decide_true]
      refine stp ?_
      have hk16 : who.toNat < (SS c).length := by omega
      have hd1 : d = -1 := by
        rcases hdif with ⟨e, _⟩ | ⟨k', _, e, _⟩
        · exact e
        · omega
      refine C.if (fun kd0 => ?_) (fun kd0 => ?_)
      · refine stp ?_
        refine O.call' (BHash_ok hm1) (fun r u2 hr => ?_)
        obtain ⟨rfl, f2'⟩ := hr
        have m2 := f2'.n
        have gX2 := f2'.keep gX (by omega) id
        haveI := gX2
        haveI : BLt h'.n u2 := ⟨by omega⟩
        refine stp ?_
        have f3 : Fr (fun _ => False) g1 (u2.push (.cells (bcells (hashH ab.h)) 0)) := f2'.push
        have gX3 : HGet (u2.push (.cells (bcells (hashH ab.h)) 0)) h'.n _ := HGet.push (g := gX2)
        have gY3 : HGet (u2.push (.cells (bcells (hashH ab.h)) 0)) u2.n (.cells (bcells (hashH ab.h)) 0) := HGet.new
        have m3 : (u2.push (.cells (bcells (hashH ab.h)) 0)).n = u2.n + 1 := rfl
        generalize u2.push (.cells (bcells (hashH ab.h)) 0) = u3 at *
        haveI := gX3
        haveI : BLt h'.n u3 := ⟨by omega⟩
        refine stp ?_
        refine O.call' (Say_ok (hC1.keep f3 fun _ _ => id) (hm1.keep f3 fun _ _ => id) z2 z1) (fun r u4 hr => ?_)
        obtain ⟨rfl, ⟨c', hsaid, hC4⟩, f4'⟩ := hr
        have m4 := f4'.n
        have hse : sayE c who ab = checkS ab.h := by unfold sayE; rw [if_neg (fun e => e hfit)]
        unfold Said at hsaid
        rw [hse] at hsaid ⊢
        have gX4 := f4'.keep gX3 (by omega) (by omega)
        have gY4 := f4'.keep gY3 (by omega) (by omega)
        have gH4 := f4'.keep (f3.keep gH1 (by omega) id) (by omega) (by omega)
        have gS4 : u4.get h7.n = .cells (icells (SS c)) 0 := by rw [f4'.get _ (by omega) (by omega), f3.get _ (by omega) id]; exact gS1
        have K4 : Fr (fun i => i = p ∨ i = h7.n) h9 u4 := (hfk.trans' ((f1.trans' f3).mono fun _ _ e => e.elim)).trans' (f4'.mono fun _ _ e => .inl e)
        haveI := gX4
        haveI := gY4
        haveI := gH4
        haveI : BLt h'.n u4 := ⟨by omega⟩
        haveI : BLt h7.n u4 := ⟨by omega⟩
        haveI : BNe u2.n h7.n := ⟨by omega⟩
        haveI : BNe h2.n h7.n := ⟨by omega⟩
        haveI : BNe h'.n h7.n := ⟨by omega⟩
        refine stp ?_
        simp only [beq_self_eq_true, Bool.not_true, bne_self_eq_false]
        refine stp ?_
        refine O.dec (fun v1 => ?_) (fun v1 => ?_)
        · rw [if_neg (fun e => e v1)] at hsaid
          refine stp ?_
          rw [same_bytes]
          refine C.if (fun v2 => ?_) (fun v2 => ?_)
          · rw [if_pos (by rw [hch]; exact v2)] at hsaid
            subst hsaid
            haveI i4 := int_put gS4 hk16 2
            haveI : Put u4 h7.n (0 + who.toNat * 1) [.int .i64 2] (u4.set h7.n (.cells (icells ((SS c).set who.toNat 2)) 0)) := by rw [Nat.zero_add, Nat.mul_one]; exact i4
            refine stp ?_
            refine O.dec (fun _ => ?_) (fun e => absurd v1 e)
            refine stp ?_
            rw [same_bytes, decide_eq_true v2]
            refine stp ?_
            have f5 : Fr (fun i => i = h7.n) u4 (u4.set h7.n (.cells (icells ((SS c).set who.toNat 2)) 0)) := Fr.refl.set fun _ => rfl
            have hS5 : (u4.set h7.n (.cells (icells ((SS c).set who.toNat 2)) 0)).get h7.n = .cells (icells (SS (c.stand who.toNat 2))) 0 := by rw [Heap.get_set, if_pos rfl, SS_stand]
            have n5' : (u4.set h7.n (.cells (icells ((SS c).set who.toNat 2)) 0)).n = u4.n := rfl
            have hA5 : Above h8.n (c.stand who.toNat 2) := hab.stand (by rw [hC1.ok.len]; omega)
            have hD5 : Dif (SS (c.stand who.toNat 2)) d := by
              rw [SS_stand]
              exact .inl ⟨hd1, Dif.set hSl (by omega) (by omega) t1⟩
            generalize u4.set h7.n (.cells (icells ((SS c).set who.toNat 2)) 0) = u5 at *
            have hC5 := hC4.keepA hA5 (by omega) (by omega) f5
            refine O.call' (judged_ok (sp := none) hC5 hS5 (by omega) hD5) (fun r u9 hr => ?_)
            obtain ⟨rfl, f9⟩ := hr
            refine stp ?_
            exact loop2a 15 16 (l.length - (k + 1)) (by omega) ⟨k + 1, d, c.stand who.toNat 2, by omega, rfl, rfl, rfl, hch, hC5.keep f9 fun _ _ => id, hA5, by rw [f9.get _ (by omega) id]; exact hS5, hD5, (K4.trans' (f5.mono fun _ _ e => .inr e)).trans' (f9.mono fun _ _ e => e.elim)⟩
          · rw [if_neg (by rw [hch]; exact v2)] at hsaid
            refine stp ?_
            refine O.dec (fun _ => ?_) (fun e => absurd v1 e)
            refine stp ?_
            rw [same_bytes, decide_eq_false v2]
            obtain ⟨sw, sm, rfl, hab4⟩ := hsaid
            haveI i4 := int_put gS4 hk16 4
            haveI : Put u4 h7.n (0 + who.toNat * 1) [.int .i64 4] (u4.set h7.n (.cells (icells ((SS c).set who.toNat 4)) 0)) := by rw [Nat.zero_add, Nat.mul_one]; exact i4
            refine stp ?_
            have f5 : Fr (fun i => i = h7.n) u4 (u4.set h7.n (.cells (icells ((SS c).set who.toNat 4)) 0)) := Fr.refl.set fun _ => rfl
            have hS5 : (u4.set h7.n (.cells (icells ((SS c).set who.toNat 4)) 0)).get h7.n = .cells (icells (SS (c.put who.toNat ⟨4, ab, sw, sm⟩))) 0 := by rw [Heap.get_set, if_pos rfl, SS_put]
            have n5' : (u4.set h7.n (.cells (icells ((SS c).set who.toNat 4)) 0)).n = u4.n := rfl
            have hA5 : Above h8.n (c.put who.toNat ⟨4, ab, sw, sm⟩) := hab.put fun i hi => by have := hab4 i hi; omega
            have hD5 : Dif (SS (c.put who.toNat ⟨4, ab, sw, sm⟩)) who := by
              rw [SS_put]
              exact (by have := Dif.four hSl (show who.toNat < 16 by omega) t1; rwa [show ((who.toNat : Nat) : Int) = who by omega] at this)
            generalize u4.set h7.n (.cells (icells ((SS c).set who.toNat 4)) 0) = u5 at *
            have hC5 := hC4.keepA hA5 (by omega) (by omega) f5
            refine O.call' (judged_ok (sp := none) hC5 hS5 (by omega) hD5) (fun r u9 hr => ?_)
            obtain ⟨rfl, f9⟩ := hr
            refine stp ?_
            exact loop2a 15 16 (l.length - (k + 1)) (by omega) ⟨k + 1, who, c.put who.toNat ⟨4, ab, sw, sm⟩, by omega, rfl, rfl, rfl, hch, hC5.keep f9 fun _ _ => id, hA5, by rw [f9.get _ (by omega) id]; exact hS5, hD5, (K4.trans' (f5.mono fun _ _ e => .inr e)).trans' (f9.mono fun _ _ e => e.elim)⟩
        · rw [if_pos v1] at hsaid
          subst hsaid
          refine stp ?_
          refine O.dec (fun e => absurd e v1) (fun _ => ?_)
          refine stp ?_
          refine O.call' (judged_ok (sp := none) hC4 gS4 (by omega) hdif) (fun r u9 hr => ?_)
          obtain ⟨rfl, f9⟩ := hr
          refine stp ?_
          exact loop2a 15 16 (l.length - (k + 1)) (by omega) ⟨k + 1, d, c', by omega, rfl, rfl, rfl, hch, (hC4).keep f9 fun _ _ => id, hab, by rw [f9.get _ (by omega) id]; exact gS4, hdif, K4.trans' (f9.mono fun _ _ e => e.elim)⟩
      · refine stp ?_
        refine O.call' (Leave_ok hC1) (fun r u4 hr => ?_)
        obtain ⟨rfl, hC4, f4'⟩ := hr
        have m4 := f4'.n
        unfold leaveC at hC4
        rw [if_pos hfit] at hC4
        rw [hfit]
        have gX4 := f4'.keep gX (by omega) (by omega)
        have gS4 : u4.get h7.n = .cells (icells (SS c)) 0 := by rw [f4'.get _ (by omega) (by omega)]; exact gS1
        have K4 : Fr (fun i => i = p ∨ i = h7.n) h9 u4 := (hfk.trans' (f1.mono fun _ _ e => e.elim)).trans' (f4'.mono fun _ _ e => .inl e)
        haveI := gX4
        haveI : BLt h'.n u4 := ⟨by omega⟩
        haveI : BLt h7.n u4 := ⟨by omega⟩
        haveI i4 := int_put gS4 hk16 3
        haveI : Put u4 h7.n (0 + who.toNat * 1) [.int .i64 3] (u4.set h7.n (.cells (icells ((SS c).set who.toNat 3)) 0)) := by rw [Nat.zero_add, Nat.mul_one]; exact i4
        refine stp ?_
        have f5 : Fr (fun i => i = h7.n) u4 (u4.set h7.n (.cells (icells ((SS c).set who.toNat 3)) 0)) := Fr.refl.set fun _ => rfl
        have hS5 : (u4.set h7.n (.cells (icells ((SS c).set who.toNat 3)) 0)).get h7.n = .cells (icells (SS (c.stand who.toNat 3))) 0 := by rw [Heap.get_set, if_pos rfl, SS_stand]
        have n5' : (u4.set h7.n (.cells (icells ((SS c).set who.toNat 3)) 0)).n = u4.n := rfl
        have hA5 : Above h8.n (c.stand who.toNat 3) := hab.stand (by rw [hC1.ok.len]; omega)
        have hD5 : Dif (SS (c.stand who.toNat 3)) d := by
          rw [SS_stand]
          exact .inl ⟨hd1, Dif.set hSl (by omega) (by omega) t1⟩
        generalize u4.set h7.n (.cells (icells ((SS c).set who.toNat 3)) 0) = u5 at *
        have hC5 := hC4.keepA hA5 (by omega) (by omega) f5
        refine O.call' (judged_ok (sp := none) hC5 hS5 (by omega) hD5) (fun r u9 hr => ?_)
        obtain ⟨rfl, f9⟩ := hr
        refine stp ?_
        exact loop2a 15 16 (l.length - (k + 1)) (by omega) ⟨k + 1, d, c.stand who.toNat 3, by omega, rfl, rfl, rfl, hch, hC5.keep f9 fun _ _ => id, hA5, by rw [f9.get _ (by omega) id]; exact hS5, hD5, (K4.trans' (f5.mono fun _ _ e => .inr e)).trans' (f9.mono fun _ _ e => e.elim)⟩
    · refine O.dec (fun s1 => ?_) (fun s1 => ?_)
      all_goals refine stp ?_
      all_goals try refine O.dec (fun s2 => ?_) (fun s2 => ?_)
      all_goals refine stp ?_
      all_goals try refine O.dec (fun s3 => ?_) (fun s3 => ?_)
      all_goals refine stp ?_
      all_goals try
        refine O.callT (Pick_ok (by omega)) (fun r g1 hr => ?_)
        obtain ⟨rfl, rfl⟩ := hr
        rw [show pickS who 16 = who by unfold pickS; rw [if_neg (by omega)]; omega]
        have hne : ¬ (SS c).getD who.toNat 0 = 1 := fun e => hfit (may_iff.2 ⟨hdif.neg.1 s1, s2, s3, e⟩)
        haveI i2 : Cell g1 h7.n who.toNat (.int .i64 ((SS c).getD who.toNat 0)) := by
          have := icell_at (h := g1) (b := h7.n) (o := 0) (n := 16) (k := who.toNat) (l := SS c) (by rw [cellsAt_of (c := icells (SS c)) (by rw [gS1]; rfl) (by rw [icells_len, hSl]; omega), List.drop_zero, List.take_of_length_le (by rw [icells_len, hSl]; omega)]) hSl (by omega)
          rw [Nat.zero_add] at this
          exact this
        haveI : Cell g1 h7.n (0 + who.toNat * 1) (.int .i64 ((SS c).getD who.toNat 0)) := by rw [Nat.zero_add, Nat.mul_one]; exact i2
        refine stp ?_
        rw [decide_eq_false hne]
        refine stp ?_
      all_goals
        refine C.if (fun kd0 => ?_) (fun kd0 => ?_)
        · refine stp ?_
          refine O.call' (BHash_ok hm1) (fun r u2 hr => ?_)
          obtain ⟨rfl, f2'⟩ := hr
          have m2 := f2'.n
          have gX2 := f2'.keep gX (by omega) id
          haveI := gX2
          haveI : BLt h'.n u2 := ⟨by omega⟩
          refine stp ?_
          have f3 : Fr (fun _ => False) g1 (u2.push (.cells (bcells (hashH ab.h)) 0)) := f2'.push
          have gX3 : HGet (u2.push (.cells (bcells (hashH ab.h)) 0)) h'.n _ := HGet.push (g := gX2)
          have m3 : (u2.push (.cells (bcells (hashH ab.h)) 0)).n = u2.n + 1 := rfl
          generalize u2.push (.cells (bcells (hashH ab.h)) 0) = u3 at *
          haveI := gX3
          haveI : BLt h'.n u3 := ⟨by omega⟩
          refine stp ?_
          refine O.call' (Say_ok (hC1.keep f3 fun _ _ => id) (hm1.keep f3 fun _ _ => id) z2 z1) (fun r u4 hr => ?_)
          obtain ⟨rfl, ⟨c', hsaid, hC4⟩, f4'⟩ := hr
          have m4 := f4'.n
          have hse : sayE c who ab = mayS c who := by unfold sayE; rw [if_pos hfit]
          unfold Said at hsaid
          rw [hse] at hsaid ⊢
          rw [if_pos hfit] at hsaid
          subst hsaid
          have gS4 : u4.get h7.n = .cells (icells (SS c')) 0 := by rw [f4'.get _ (by omega) (by omega), f3.get _ (by omega) id]; exact gS1
          have K4 : Fr (fun i => i = p ∨ i = h7.n) h9 u4 := (hfk.trans' ((f1.trans' f3).mono fun _ _ e => e.elim)).trans' (f4'.mono fun _ _ e => .inl e)
          refine stp ?_
          rw [decide_eq_false hfit]
          try simp only [beq_self_eq_true, Bool.not_true, bne_self_eq_false]
          refine stp ?_
          refine O.call' (judged_ok (sp := none) hC4 gS4 (by omega) hdif) (fun r u9 hr => ?_)
          obtain ⟨rfl, f9⟩ := hr
          refine stp ?_
          exact loop2a 15 16 (l.length - (k + 1)) (by omega) ⟨k + 1, d, c', by omega, rfl, rfl, rfl, hch, hC4.keep f9 fun _ _ => id, hab, by rw [f9.get _ (by omega) id]; exact gS4, hdif, K4.trans' (f9.mono fun _ _ e => e.elim)⟩
        · refine stp ?_
          refine O.call' (Leave_ok hC1) (fun r u4 hr => ?_)
          obtain ⟨rfl, hC4, f4'⟩ := hr
          have m4 := f4'.n
          unfold leaveC at hC4
          rw [if_neg hfit] at hC4
          have gS4 : u4.get h7.n = .cells (icells (SS c)) 0 := by rw [f4'.get _ (by omega) (by omega)]; exact gS1
          have K4 : Fr (fun i => i = p ∨ i = h7.n) h9 u4 := (hfk.trans' (f1.mono fun _ _ e => e.elim)).trans' (f4'.mono fun _ _ e => .inl e)
          refine stp ?_
          rw [decide_eq_false hfit]
          try simp only [beq_self_eq_true, Bool.not_true, bne_self_eq_false]
          refine stp ?_
          refine O.call' (judged_ok (sp := none) hC4 gS4 (by omega) hdif) (fun r u9 hr => ?_)
          obtain ⟨rfl, f9⟩ := hr
          refine stp ?_
          exact loop2a 15 16 (l.length - (k + 1)) (by omega) ⟨k + 1, d, c, by omega, rfl, rfl, rfl, hch, hC4.keep f9 fun _ _ => id, hab, by rw [f9.get _ (by omega) id]; exact gS4, hdif, K4.trans' (f9.mono fun _ _ e => e.elim)⟩
  · refine stp ?_
    refine O.callT (judged_ok (sp := none) hCk hgk (by omega) hdif) (fun r u9 hr => ?_)
    obtain ⟨rfl, f9⟩ := hr
    refine stp ?_
    rfl
end Go.Proofs.Ytlckmpioipiihaa.A

namespace Go.Proofs.Ytlckmpioipiihaa.A
open Go.Proofs.Ytlckmpioipiihaa.K
open Go Go.Vm
set_option maxRecDepth 100000
set_option linter.unusedVariables false
theorem bools_fit {h : Heap} {m : Nat} {te : TypeId} (hu : Try.prog.underlying te = some .bool) : ∀ (len : Nat) (c : List Value), c.length = len → (∀ i, i < len → Fits Try.prog h (m + 1) te ((c.drop (i * 1)).take 1)) → ∃ l : List Bool, c = bools l ∧ l.length = len
  | 0, c, hl, _ => ⟨[], by simpa [bools] using hl, rfl⟩
  | len + 1, v :: c, hl, hall => by
    have h0 := hall 0 (by omega)
    unfold Fits at h0
    rw [hu] at h0
    obtain ⟨x, hx⟩ := h0
    simp only [Nat.zero_mul, List.drop_zero, List.take_succ_cons, List.take_zero] at hx
    injection hx with hx _
    obtain ⟨l, e1, e2⟩ := bools_fit hu len c (by simpa using hl) fun i hi => by
      have := hall (i + 1) (by omega)
      simpa [Nat.add_mul] using this
    exact ⟨x :: l, by rw [hx, e1]; rfl, by simp [e2]⟩
theorem fits_bools {h : Heap} {m : Nat} {t te : TypeId} {v : Value} (ht : Try.prog.underlying t = some (.slice te)) (hu : Try.prog.underlying te = some .bool) (hs : Try.prog.cellsOf te = 1) (hv : FitsV Try.prog h (m + 2) t v) : ∃ l : List Bool, Rd h 1 v (bools l) l.length := by
  unfold FitsV at hv
  rw [ht] at hv
  unfold Fits at hv
  rw [ht] at hv
  rcases hv with hv | ⟨b, len, cap, c, hv, hb, hlc, hcap, hro, hl, hall⟩
  · injection hv with hv
    subst hv
    exact ⟨[], Rd.nil⟩
  · injection hv with hv
    subst hv
    rw [hs] at hl hall
    obtain ⟨l, rfl, hbl⟩ := bools_fit hu len c (by omega) hall
    have hl2 : (bools l).length = l.length := by simp [bools]
    refine ⟨l, _, _, by rw [hbl], by rw [hl2]; omega, fun hn => ⟨b, 0, none, rfl, hb, ?_⟩⟩
    rw [cellsAt_of (c := bools l) (by rw [hro (by omega)]; rfl) (by rw [hl2]; omega), List.drop_zero, List.take_of_length_le (by rw [hl2]; omega)]
theorem fits_actsV {h : Heap} {t te : TypeId} {v : Value} (ht : Try.prog.underlying t = some (.slice te)) (f0 : fieldAt Try.prog te 0 = some (0, 3)) (f1 : fieldAt Try.prog te 1 = some (1, 3)) (f2 : fieldAt Try.prog te 2 = some (2, 31)) (ui : Try.prog.underlying 3 = some (.int .i64)) (ci : Try.prog.cellsOf 3 = 1) (cb : Try.prog.cellsOf 31 = 166) (ce : Try.prog.cellsOf te = 168) (hv : FitsV Try.prog h 8 t v) :
    ∃ l : List AC, Rd h 168 v (acells l) l.length ∧ ∀ a ∈ l, BkRd h a.b a.sv a.sl := by
  unfold FitsV at hv
  rw [ht] at hv
  obtain ⟨v', l, e, h1, h2⟩ := fits_acts (n := 0) ht f0 f1 f2 ui ci cb ce hv
  injection e with e _
  subst e
  exact ⟨l, h1, h2⟩
theorem CrossJudges_run (h : Heap) (vs : List Value) (hf : FitsAll Try.prog h 8 [31, 57, 58] vs) : Runs Try.prog T0 (.fn fn_zpbQ) vs h (fun r _ => r = .bool true) (fun _ _ => False) := by
  obtain ⟨v1, _, rfl, h1, hf⟩ := hf.cons
  obtain ⟨v2, _, rfl, h2, hf⟩ := hf.cons
  obtain ⟨v3, _, rfl, h3, hf⟩ := hf.cons
  obtain rfl := hf.nil
  have b0 : fieldAt Try.prog 31 0 = some (0, 25) := by kernel_rfl
  obtain ⟨cs, rfl, hc⟩ := FitsV.agg h1 b0
  obtain ⟨x, sv, sl, rfl, hx⟩ := fits_bkM (n := 2) hc
  obtain ⟨is, hi⟩ := fits_bools (m := 6) (te := 4) (by kernel_rfl) (by kernel_rfl) (by kernel_rfl) h2
  obtain ⟨l, hl, hl2⟩ := fits_actsV (te := 64) (by kernel_rfl) (by kernel_rfl) (by kernel_rfl) (by kernel_rfl) (by kernel_rfl) (by kernel_rfl) (by kernel_rfl) (by kernel_rfl) h3
  exact CrossJudges_true hx hi hl hl2
end Go.Proofs.Ytlckmpioipiihaa.A

namespace Go.Proofs.Ytlckmpioipiihaa.A
open Go Go.Vm
set_option maxRecDepth 100000
theorem ran_4 : allTrue (xcall Try.prog R.tab 1000 60 (.fn 4) [] Heap.init) = true := by kernel_rfl
theorem has_4 : (tableOf Try.prog 4).isSome = true := by kernel_rfl
theorem known : KnownAll Try.prog prims := ⟨⟨Option.isSome_iff_exists.1 has_4, fun w => known_calls (Checked.mixed Try.checked) R.tab_ok ran_4 w⟩, trivial⟩
theorem T0_ok : TableOK Try.prog T0 := withKept_ok (withTrue_ok known) fun k hk => by simp at hk
end Go.Proofs.Ytlckmpioipiihaa.A
