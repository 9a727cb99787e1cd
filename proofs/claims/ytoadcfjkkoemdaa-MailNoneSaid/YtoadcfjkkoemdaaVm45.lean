/- A small machine over an abstract heap: bytes that were lent, with room behind them. -/
import Derived.Test.YtoadcfjkkoemdaaVm44
set_option linter.unusedSimpArgs false
set_option linter.unusedVariables false
namespace Go.Vm
open Go.RowKit

/-- what stands behind bytes that were lent -/
def lentTail : List UInt8 := [201, 202, 203, 204]

/-- bytes that were lent, and what they were -/
def KeptPre (args : List Value) (h : Heap) : Prop := ∃ (q k cap : Nat) (l : List UInt8) (v : Value) (j : List Value), args = [.slice (some ⟨q, 0, some k⟩) l.length cap, v] ∧
  h.get q = .cells (bcells l ++ (bcells lentTail ++ j)) 1 ∧ l.length + 4 ≤ cap ∧ Rd h 1 v (bcells l) l.length ∧ l.length < 1048576

open Classical in
/-- the function that tells whether lent bytes are as they were, where they are -/
noncomputable def keptPrim : AFunc := ⟨0, [], .skip, some fun args h => if KeptPre args h then [.ret (.bool true) h] else [.bad]⟩

noncomputable def withKept (T : Table) (ks : List FuncId) : Table := fun f => if ks.contains f then some keptPrim else T f

theorem VR.slice_inv {g : Gh} {a : Option Addr} {n c : Nat} {v : Value} (h : VR g (.slice a n c) v) :
    (∃ a' c', v = .slice a' n c') ∧ ∀ ad, a = some ad → ∃ ad' c', v = .slice (some ad') n c' ∧ AR g ad ad' ∧ (ad.spot ≠ none → c ≤ c') := by
  cases h with
  | gr hg =>
    refine ⟨⟨_, _, rfl⟩, fun ad h => ?_⟩
    subst h
    cases hg
  | sl h1 h2 => exact ⟨⟨_, _, rfl⟩, fun ad h => by cases h; exact ⟨_, _, rfl, h2, fun h => absurd h1 h⟩⟩
  | osl h1 h2 h3 h4 => exact ⟨⟨_, _, rfl⟩, fun ad h => by cases h; exact ⟨_, _, rfl, h2, fun _ => h3⟩⟩

theorem ground_piece {g : Gh} {d cc : List Value} {sh o n : Nat} {l : List Value} (hv : VRL g d ((cc.drop sh).take d.length)) (hl : (d.drop o).take n = l) (hle : o + n ≤ d.length) (hg : groundL l = true) : (cc.drop (sh + o)).take n = l := by
  have h1 := (hv.drop o).take n
  rw [hl] at h1
  have h2 := h1.eq_ground hg
  rw [List.drop_take, List.take_take, List.drop_drop, Nat.min_eq_left (by omega)] at h2
  exact h2

theorem get_one (o o' : AObj) : ((Heap.init.push o).push o').get 1 = o := by
  rw [Heap.get_push, if_neg (by show ¬ (1 : Nat) = 2; omega), Heap.get_push, if_pos (show 1 = Heap.init.n from rfl)]
theorem get_two (o o' : AObj) : ((Heap.init.push o).push o').get 2 = o' := by
  rw [Heap.get_push, if_pos (show 2 = (Heap.init.push o).n from rfl)]

theorem kept_ok {P : Program} (hm : P.follows .mixedOrders = true) {k : FuncId} (hfn : FnOK P k)
    (hrun : ∀ (h : Heap) (q c' : Nat) (l : List UInt8) (u : Value), h.get q = .ro (bcells l ++ bcells lentTail) → q < h.n → l.length + 4 ≤ c' → l.length < 1048576 → Rd h 1 u (bcells l) l.length →
      Runs P (tableOf P) (.fn k) [.slice (some ⟨q, 0, none⟩) l.length c', u] h (fun r _ => r = .bool true) (fun _ _ => False))
    (args args' : List Value) (g : Gh) (h : Heap) (B : Nat) (w0 w : World) (hr : HR g h B w0 w) (hv : VRL g args args') (hpre : KeptPre args h) : Calls P k ⟨args'⟩ w (CPost B w0 g [.ret (.bool true) h]) := by
  obtain ⟨q, kk, cap, l, v, j, rfl, hq, hcap, hrd, hsm⟩ := hpre
  cases hv with
  | cons hv1 hv2 =>
  cases hv2 with
  | cons hv2 hv3 =>
  cases hv3
  obtain ⟨_, hv1⟩ := hv1.slice_inv
  obtain ⟨a1, c1, rfl, har, hc1⟩ := hv1 _ rfl
  have hc1 := hc1 (by simp)
  obtain ⟨x, hx, cc, el, fz, hb1, _, _, hle1, _, _, hvr1⟩ := hr.of_cells hq
  have ha1 := har.2 x hx
  have hlt1 := (hr.alive q x hx).2.1
  have hlen1 : (bcells l ++ bcells lentTail).length = l.length + 4 := by simp [bcells, lentTail]
  have hpc1 : (cc.toList.drop (x.sh + 0)).take (l.length + 4) = bcells l ++ bcells lentTail := by
    refine ground_piece hvr1 ?_ (by simp [bcells, lentTail]) ?_
    · rw [List.drop_zero, ← List.append_assoc, ← hlen1, List.take_left]
    · rw [groundL_append, bcells_ground, bcells_ground]; rfl
  have hr1 : HR ([none] ++ [some ⟨x.b, x.sh, 0, 0⟩]) (Heap.init.push (.ro (bcells l ++ bcells lentTail))) w.heap.size w w := by
    refine (hr_init w).pushRo hlt1 ⟨cc, el, fz, hb1, ?_, ?_⟩
    · simp only [List.length_append] at hle1 hlen1 ⊢
      simp [bcells, lentTail] at hle1 ⊢
      omega
    · show VRL _ _ ((cc.toList.drop x.sh).take (bcells l ++ bcells lentTail).length)
      rw [hlen1]
      rw [show x.sh = x.sh + 0 from rfl, hpc1]
      exact VRL.of_ground (by rw [groundL_append, bcells_ground, bcells_ground]; rfl)
  have hro : (Heap.init.push (.ro (bcells l ++ bcells lentTail))).get 1 = .ro (bcells l ++ bcells lentTail) := by rw [Heap.get_push, if_pos (show 1 = Heap.init.n from rfl)]
  have hvr : ∀ {g2 : Gh}, Le ([none] ++ [some ⟨x.b, x.sh, 0, 0⟩]) g2 → VR g2 (.slice (some ⟨1, 0, none⟩) l.length c1) (.slice (some a1) l.length c1) := fun hle => by
    refine VR.mono hle (.sl rfl ⟨by simp, fun y hy => ?_⟩)
    simp at hy
    subst hy
    exact ha1
  have fin : ∀ {g2 : Gh} {h2 : Heap} {u v2 : Value}, HR g2 h2 w.heap.size w w → Le ([none] ++ [some ⟨x.b, x.sh, 0, 0⟩]) g2 → h2.get 1 = .ro (bcells l ++ bcells lentTail) → 1 < h2.n → Rd h2 1 u (bcells l) l.length → VR g2 u v2 →
      Calls P k ⟨[.slice (some a1) l.length c1, v2]⟩ w (CPost B w0 g [.ret (.bool true) h]) := fun {g2 h2 u v2} hr2 hle hg2 hn2 hu hvu => by
    refine (calls_of_runs hm tableOf_ok hr2 (.cons (hvr hle) (.cons hvu .nil)) (hrun h2 1 c1 l u hg2 hn2 (by omega) hsm hu)).mono fun e w' he => ?_
    cases e with
    | returned r =>
      obtain ⟨g', u', h', rfl, _, hr', hv'⟩ := he
      rw [hv'.bool]
      exact ⟨g, .bool true, h, by simp, Le.refl _, hr.later hr'.below, .gr rfl⟩
    | panicked c => obtain ⟨_, _, _, hx, _⟩ := he; exact hx.elim
    | outgrown => exact he.elim
  obtain ⟨av, capv, rfl, hlv, hcv⟩ := hrd
  obtain ⟨⟨a2', c2', hv2e⟩, hv2s⟩ := hv2.slice_inv
  by_cases hl0 : l.length = 0
  · have hnil : l = [] := List.length_eq_zero_iff.1 hl0
    subst hnil
    subst hv2e
    cases a2' with
    | none => exact fin hr1 (Le.refl _) hro (show 1 < 2 by decide) Rd.nil (.gr rfl)
    | some ad =>
      refine fin (u := .slice (some ⟨2, 0, none⟩) 0 c2') hr1.pushNone (Le.push _ _) (get_one _ _) (show 1 < 3 by decide) Rd.nil (.sl rfl ⟨by simp, fun y hy => ?_⟩)
      simp at hy
  · obtain ⟨b, o, sp, rfl, hblt, hcell⟩ := hcv hl0
    obtain ⟨ad', c2, hve, har2, _⟩ := hv2s _ rfl
    subst hve
    unfold cellsAt at hcell
    rw [if_neg (by omega)] at hcell
    cases hd : (h.get b).cellsOf with
    | none => rw [hd] at hcell; cases hcell
    | some d =>
      rw [hd] at hcell
      simp only at hcell
      split at hcell
      · rename_i hle2
        have hcell := Option.some.inj hcell
        obtain ⟨y, hy, cc2, el2, fz2, hb2, hle3, hvr2⟩ := hr.of_read hd
        have ha2 := har2.2 y hy
        have hlt2 := (hr.alive b y hy).2.1
        rw [Nat.mul_one] at hcell hle2
        have hpc2 := ground_piece hvr2 hcell hle2 (bcells_ground l)
        have hbl : (bcells l).length = l.length := by simp [bcells]
        have hr2 : HR (([none] ++ [some ⟨x.b, x.sh, 0, 0⟩]) ++ [some ⟨y.b, y.sh + o, 0, 0⟩]) ((Heap.init.push (.ro (bcells l ++ bcells lentTail))).push (.ro (bcells l))) w.heap.size w w := by
          refine hr1.pushRo hlt2 ⟨cc2, el2, fz2, hb2, by simp only [hbl]; omega, ?_⟩
          show VRL _ _ ((cc2.toList.drop (y.sh + o)).take (bcells l).length)
          rw [hbl, hpc2]
          exact VRL.of_ground (bcells_ground l)
        refine fin (u := .slice (some ⟨2, 0, none⟩) l.length c2) hr2 (Le.push _ _) (get_one _ _) (show 1 < 3 by decide) ?_ (.sl rfl ⟨by simp, fun z hz => ?_⟩)
        · refine Rd.mk (show 2 < 3 by decide) ?_
          rw [Nat.mul_one, cellsAt_of (c := bcells l) (by rw [get_two]; rfl) (by omega), List.drop_zero, List.take_of_length_le (by omega)]
        · simp at hz
          subst hz
          exact ha2
      · cases hcell

theorem withKept_ok {P : Program} {T : Table} {ks : List FuncId} (hT : TableOK P T) (hk : ∀ k, ks.contains k = true → ∀ (args args' : List Value) (g : Gh) (h : Heap) (B : Nat) (w0 w : World), HR g h B w0 w → VRL g args args' → KeptPre args h → FnOK P k ∧ Calls P k ⟨args'⟩ w (CPost B w0 g [.ret (.bool true) h])) : TableOK P (withKept T ks) := by
  intro f af h
  unfold withKept at h
  split at h
  · rename_i hc
    cases h
    intro args args' g hp B w0 w hr hv hg
    show FnOK P f ∧ Calls P f ⟨args'⟩ w (CPost B w0 g (@ite _ (KeptPre args hp) (Classical.propDecidable _) [.ret (.bool true) hp] [.bad]))
    by_cases hpre : KeptPre args hp
    · rw [if_pos hpre]
      exact hk f hc args args' g hp B w0 w hr hv hpre
    · exact absurd rfl (hg .bad (by
        show CO.bad ∈ @ite _ (KeptPre args hp) (Classical.propDecidable _) [.ret (.bool true) hp] [.bad]
        rw [if_neg hpre]; simp))
  · exact hT f af h
theorem withKept_t {T : Table} {ks : List FuncId} {f : FuncId} {af : AFunc} (h1 : ks.contains f = false) (h2 : T f = some af) : withKept T ks f = some af := by
  unfold withKept; rw [if_neg (by rw [h1]; simp)]; exact h2
theorem withKept_runs {P : Program} {T : Table} {ks : List FuncId} {f : FuncId} (hf : ks.contains f = true) {h : Heap} {args : List Value} (hpre : KeptPre args h) : Runs P (withKept T ks) (.fn f) args h (fun r h' => r = .bool true ∧ h' = h) (fun _ _ => False) :=
  Runs.prim (T := withKept T ks) (af := keptPrim) (by unfold withKept; rw [if_pos hf]) rfl fun o ho => by
    replace ho : o ∈ @ite _ (KeptPre args h) (Classical.propDecidable _) [.ret (.bool true) h] [.bad] := ho
    rw [if_pos hpre] at ho; simp at ho; subst ho; exact ⟨rfl, rfl⟩
theorem known_runs {P : Program} {T : Table} {f : FuncId} (ht : T f = some primTrue) {h : Heap} : Runs P T (.fn f) [] h (fun r h' => r = .bool true ∧ h' = h) (fun _ _ => False) :=
  Runs.prim ht rfl fun o ho => by simp at ho; subst ho; exact ⟨rfl, rfl⟩
theorem kept_runs {P : Program} {T : Table} {f : FuncId} (ht : T f = some keptPrim) {h : Heap} {args : List Value} (hpre : KeptPre args h) : Runs P T (.fn f) args h (fun r h' => r = .bool true ∧ h' = h) (fun _ _ => False) :=
  Runs.prim ht rfl fun o ho => by
    replace ho : o ∈ @ite _ (KeptPre args h) (Classical.propDecidable _) [.ret (.bool true) h] [.bad] := ho
    rw [if_pos hpre] at ho; simp at ho; subst ho; exact ⟨rfl, rfl⟩
section
variable {P : Program} {T : Table} {ts ts' : List Value} {ds : List Deferred} {h h' : Heap} {rd : Option Nat} {op : AOp} {v : Value} {d : Nat} {chk : List (Option Nat × AOp × Option (Nat × Bool))} {pan : Bool} {rest : List AOper} {Q : QP}
theorem D.howT {t : Nat} {b : Bool} (k : XOp P ts h op v h') [g : LGet ts t (.bool b)] [s : LSet ts d v ts'] (hc : chk.all (stable P ts' h') = true := by rfl) (hr : RunD P T rest ⟨ts', ds, h', rd⟩ Q) : RunD P T (⟨some d, op, some (t, b), chk, pan⟩ :: rest) ⟨ts, ds, h, rd⟩ Q := D.oneT hc hr

/-- what others of a drawn region have read is read so behind an operation too -/
class StabL (P : Program) (ts : List Value) (h : Heap) (chk : List (Option Nat × AOp × Option (Nat × Bool))) : Prop where
  ok : chk.all (stable P ts h) = true
instance : StabL P ts h [] := ⟨rfl⟩
instance {d2 : Nat} {op2 : AOp} {v2 : Value} {h2 : Heap} [k2 : XOp P ts h op2 v2 h2] [g : LGet ts d2 v2] [r : StabL P ts h chk] : StabL P ts h ((some d2, op2, none) :: chk) := ⟨by
  rw [List.all_cons, r.ok]
  simp only [Bool.and_true, stable, wantedT, if_true, k2.eq, g.eq, veq_self]⟩
instance {d2 t : Nat} {b : Bool} {op2 : AOp} {v2 : Value} {h2 : Heap} [gt : LGet ts t (.bool b)] [k2 : XOp P ts h op2 v2 h2] [g : LGet ts d2 v2] [r : StabL P ts h chk] : StabL P ts h ((some d2, op2, some (t, b)) :: chk) := ⟨by
  rw [List.all_cons, r.ok]
  have hw : wantedT ts (some (t, b)) = true := by simp only [wantedT, gt.eq]; cases b <;> rfl
  simp only [Bool.and_true, stable, hw, if_true, k2.eq, g.eq, veq_self]⟩
theorem stab_consT {d2 t : Nat} {b : Bool} {op2 : AOp} {v2 : Value} {h2 : Heap} (k2 : XOp P ts h op2 v2 h2) [gt : LGet ts t (.bool b)] [g : LGet ts d2 v2] (r : chk.all (stable P ts h) = true) : ((some d2, op2, some (t, b)) :: chk).all (stable P ts h) = true := by
  haveI : StabL P ts h chk := ⟨r⟩
  exact StabL.ok
theorem stab_cons {d2 : Nat} {op2 : AOp} {v2 : Value} {h2 : Heap} (k2 : XOp P ts h op2 v2 h2) [g : LGet ts d2 v2] (r : chk.all (stable P ts h) = true) : ((some d2, op2, none) :: chk).all (stable P ts h) = true := by
  haveI : StabL P ts h chk := ⟨r⟩
  exact StabL.ok
theorem D.oneS [k : XOp P ts h op v h'] [s : LSet ts d v ts'] [c : StabL P ts' h' chk] (hr : RunD P T rest ⟨ts', ds, h', rd⟩ Q) : RunD P T (⟨some d, op, none, chk, pan⟩ :: rest) ⟨ts, ds, h, rd⟩ Q := D.one c.ok hr
theorem D.oneTS {t : Nat} {b : Bool} [g : LGet ts t (.bool b)] [k : XOp P ts h op v h'] [s : LSet ts d v ts'] [c : StabL P ts' h' chk] (hr : RunD P T rest ⟨ts', ds, h', rd⟩ Q) : RunD P T (⟨some d, op, some (t, b), chk, pan⟩ :: rest) ⟨ts, ds, h, rd⟩ Q := D.oneT c.ok hr
end
end Go.Vm
