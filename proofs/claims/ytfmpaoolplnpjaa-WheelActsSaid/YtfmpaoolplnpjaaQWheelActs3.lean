/- Contracts of functions, over the machine. -/
import Derived.Test.YtfmpaoolplnpjaaQWheelActs2
import Derived.Test.YtfmpaoolplnpjaaVK
import Derived.Test.YtfmpaoolplnpjaaVJ
set_option linter.unusedSimpArgs false
set_option linter.unusedSectionVars false
noncomputable section
namespace Go.Proofs.Ytfmpaoolplnpjaa.A
open Go Go.Vm
set_option maxRecDepth 10000
set_option linter.unusedVariables false
theorem insertion0_ok {h : Heap} {v f : Value} {a b : Nat} (hab : b ≤ a) (ha : a < 1000) : Runs Try.prog T0 (.fn fn_zkbQ) [v, .int .i64 a, .int .i64 b, f] h (fun r h' => h' = h) (fun _ _ => False) := by
  refine zkbQ_runs ?_
  refine stp ?_
  refine loop1 zkbQ_l1_M 8 (fun k v8 hx => v8 = .int .i64 ((a : Int) + 1) ∧ hx = h) ?_ 0 ⟨rfl, rfl⟩
  rintro m v8 h' x9 x12 x13 x14 x15 x16 x17 x18 x19 x20 x21 x22 x23 x24 x25 x26 x27 x28 x29 x30 x31 x32 x33 x34 x35 x36 x37 x38 x39 x40 x41 x42 x43 x44 x45 x46 x47 x48 x49 x50 x51 x52 ⟨rfl, rfl⟩
  refine stp ?_
  refine C.if (fun h1 => absurd h1 (by omega)) (fun _ => ?_)
  refine stp ?_
  rfl
theorem pdq0_ok {h : Heap} {v f : Value} {k : Int} {a b : Nat} (hab : b ≤ a) (ha : a < 1000) : Runs Try.prog T0 (.fn fn_zsbQ) [v, .int .i64 a, .int .i64 b, .int .i64 k, f] h (fun r h' => h' = h) (fun _ _ => False) := by
  refine zsbQ_runs ?_
  refine stp ?_
  refine loop5 zsbQ_l0_M 1 2 3 10 11 (fun q v1 v2 v3 v10 v11 hx => v1 = .int .i64 a ∧ v2 = .int .i64 b ∧ v3 = .int .i64 k ∧ hx = h) ?_ 0 ⟨rfl, rfl, rfl, rfl⟩
  rintro m v1 v2 v3 v10 v11 h' x12 x13 x14 x15 x16 x17 x18 x19 x20 x21 x22 x23 x24 x25 x26 x27 x28 x29 x30 x31 x32 x33 x34 x35 x36 x37 x38 x39 x40 x41 x42 x43 x44 x45 x46 x47 x48 x49 x50 x51 x52 x53 x54 x55 x56 x57 x58 x59 x60 x61 x62 x63 x64 x65 x66 x67 x68 x69 x70 x71 x72 x73 x74 x75 x76 x77 x78 x79 x80 x81 x82 x83 x84 x85 x86 x87 x88 x89 x90 x91 x92 x93 x94 x95 x96 x97 x98 x99 x100 x101 x102 x103 x104 x105 x106 x107 x108 x109 x110 x111 x112 x113 x114 x115 x116 x117 x118 x119 x120 x121 x122 x123 x124 x125 x126 x127 x128 x129 x130 x131 x132 x133 x134 x135 x136 x137 x138 x139 x140 x141 x142 x143 x144 x145 x146 x147 ⟨rfl, rfl, rfl, rfl⟩
  refine stp ?_
  refine C.if (fun _ => ?_) (fun h1 => absurd (by omega) h1)
  refine stp ?_
  refine O.call' (insertion0_ok hab ha) (fun r h2 hr => ?_)
  subst hr
  refine stp ?_
  rfl
section
variable {lt : Nat → Nat → Bool} {fd : FuncId} {G : Nat → Prop} {h : Heap} {v : Value} {L : List Nat}
set_option maxHeartbeats 4000000 in
theorem SortF_ok (ho : Own h 1 v (pcells L) L.length) (hl : L.length < 256) (oo : Ord lt) (hd : Dist lt L) (hG : ∀ e ∈ L, G e) (hc : ∀ q, ownedBy v q → CmpI lt fd q G h) :
    Runs Try.prog T0 (.fn fn_zdbQ) [v, .func (.func fd) ⟨[]⟩ ⟨[]⟩] h (fun _ h' => ∃ M, M.Perm L ∧ Srt lt 0 M.length M ∧ Own h' 1 v (pcells M) M.length ∧ Fr (ownedBy v) h h') (fun _ _ => False) := by
  have hnil : L.length = 0 → ∃ M : List Nat, M.Perm L ∧ Srt lt 0 M.length M ∧ Own h 1 v (pcells M) M.length ∧ Fr (ownedBy v) h h := fun h0 => ⟨L, .refl _, fun p q h1 h2 h3 => by omega, ho, Fr.refl⟩
  have hbl := fun {h : Heap} => bLen_ok (h := h) (n := L.length) hl
  have hlt8 := (lenT_ok hl).1
  generalize (lenT.getD L.length 0).toNat = t at *
  have ho0 := ho
  generalize hn : L.length = n at *
  generalize hcc : pcells L = cc at *
  refine zdbQ_runs ?_
  cases ho with
  | none =>
    refine stp ?_
    refine O.call' hbl (fun r h1 hr => ?_)
    obtain ⟨rfl, rfl⟩ := hr
    refine stp ?_
    refine O.call' (pdq0_ok (a := 0) (b := 0) (Nat.le_refl _) (by decide)) (fun r h1 hr => ?_)
    subst hr
    refine stp ?_
    exact hnil rfl
  | lit hq hg =>
    refine stp ?_
    refine O.call' hbl (fun r h1 hr => ?_)
    obtain ⟨rfl, rfl⟩ := hr
    refine stp ?_
    refine O.call' (pdq0_ok (a := 0) (b := 0) (Nat.le_refl _) (by decide)) (fun r h1 hr => ?_)
    subst hr
    refine stp ?_
    exact hnil rfl
  | grown hq hn0 hle hl1 hl2 hg =>
    rename_i q kk cap j
    subst hcc
    have hps : PS q n j G h h L := ⟨hn, hq, hg, Fr.refl, hG⟩
    refine stp ?_
    refine O.call' hbl (fun r h1 hr => ?_)
    obtain ⟨rfl, rfl⟩ := hr
    refine stp ?_
    refine O.call' (pdq_ok (hc q rfl) oo hl n (a := 0) (b := n) (lim := t) (by omega) hps (by omega) (Nat.le_refl _) (by omega) (fun e => absurd e (by omega)) hd) (fun r h2 hr => ?_)
    obtain ⟨M, hps2, hsw, hso⟩ := hr
    refine stp ?_
    have hML : M.length = n := hps2.ln
    refine ⟨M, hsw.perm (by omega), by rw [hML]; exact hso, ?_, hps2.fr.mono fun i _ e => e.symm⟩
    rw [hML]
    exact .grown (j := j) hps2.lt hn0 hle (by rw [pcells_len, hML, Nat.mul_one]) (by rw [List.length_append, pcells_len, hML, ← hn, ← pcells_len, ← List.length_append]; exact hl2) hps2.get
end
def letB (l : List LE) (b : Nat) : LE := (l.find? fun e => decide (e.b = b)).getD default
theorem letB_of {l : List LE} (hn : (l.map LE.b).Nodup) {e : LE} (he : e ∈ l) : letB l e.b = e := by
  unfold letB
  cases h : l.find? fun f => decide (f.b = e.b) with
  | none => exact absurd (List.find?_eq_none.1 h e he) (by simp)
  | some f =>
    have h1 := List.mem_of_find?_eq_some h
    have h2 : f.b = e.b := by simpa using List.find?_some h
    exact nodup_inj hn h1 he h2
abbrev ltB (l : List LE) (a b : Nat) : Bool := ltL (letB l a) (letB l b)
theorem ltB_ord (l : List LE) : Ord (ltB l) := ltK_ord fun b => (letB l b).key
theorem cmpB {l : List LE} {h : Heap} {q : Nat} (hn : (l.map LE.b).Nodup) (ha : ∀ e ∈ l, h.get e.b = .cells e.cells 0 ∧ e.b < h.n ∧ e.b ≠ q) : CmpI (ltB l) fn_zicQ q (fun b => ∃ e ∈ l, e.b = b) h := ⟨fun {hx x y} hf ⟨e, he, hx1⟩ ⟨f, hf1, hy1⟩ => by
  subst hx1 hy1
  have h1 := ha e he
  have h2 := ha f hf1
  refine (mcompare_ok (x := e) (y := f) (by rw [hf.get _ h1.2.1 h1.2.2]; exact h1.1) (by rw [hf.get _ h2.2.1 h2.2.2]; exact h2.1)).mono (fun r h' ⟨q1, q2⟩ => ⟨⟨_, q1, ?_⟩, q2⟩) fun _ _ h => h
  show _ ↔ ltL (letB l e.b) (letB l f.b) = true
  rw [letB_of hn he, letB_of hn hf1]
  exact ordK _ _ _ _⟩
theorem distB {l S : List LE} (hn : (l.map LE.b).Nodup) (hi : (l.map LE.id).Nodup) (hp : S.Perm l) : Dist (ltB l) (S.map LE.b) := by
  refine ⟨((hp.map LE.b).nodup_iff).2 hn, fun x hx y hy hne => ?_⟩
  obtain ⟨e, he, rfl⟩ := List.mem_map.1 hx
  obtain ⟨f, hf, rfl⟩ := List.mem_map.1 hy
  have he := hp.mem_iff.1 he
  have hf := hp.mem_iff.1 hf
  show ltL (letB l e.b) (letB l f.b) = true ∨ ltL (letB l f.b) (letB l e.b) = true
  rw [letB_of hn he, letB_of hn hf]
  have : e.id ≠ f.id := fun q => hne (congrArg LE.b (nodup_inj hi he hf q))
  simp only [ltK, decide_eq_true_eq]
  omega
theorem srt_lets {l : List LE} {M : List Nat} {L : List LT} (hn : (l.map LE.b).Nodup) (hi : (l.map LE.id).Nodup) (hp : M.Perm (l.map LE.b)) (hs : Srt (ltB l) 0 M.length M) (ht : (l.map LE.tr).Perm L) (hL : SrtT L) : ∃ O : List LE, O.map LE.b = M ∧ O.Perm l ∧ O.map LE.tr = L := by
  have h1 : (M.map (letB l)).Perm l := by
    have := hp.map (letB l)
    rw [List.map_map] at this
    have e : l.map (letB l ∘ LE.b) = l := (List.map_congr_left fun e he => letB_of hn he).trans (List.map_id l)
    rw [e] at this
    exact this
  have h2 : (M.map (letB l)).map LE.b = M := by
    rw [List.map_map]
    refine (List.map_congr_left fun b hb => ?_).trans (List.map_id M)
    obtain ⟨e, he, rfl⟩ := List.mem_map.1 (hp.mem_iff.1 hb)
    show (letB l e.b).b = e.b
    rw [letB_of hn he]
  refine ⟨M.map (letB l), h2, h1, srt_eq ?_ hL ((h1.map LE.tr).trans ht)⟩
  unfold SrtT
  rw [List.pairwise_map, List.pairwise_map, List.pairwise_iff_getElem]
  intro i j hi2 hj hij
  have hd := distB hn hi (.refl l)
  have h3 := hs i j (by omega) hij hj
  have h4 := (hd.perm hp).ahead (by omega) hj (by omega) h3
  have e1 : at' M i = M[i] := by simp only [at', List.getD_eq_getElem?_getD, List.getElem?_eq_getElem (show i < M.length by omega), Option.getD_some]
  have e2 : at' M j = M[j] := by simp only [at', List.getD_eq_getElem?_getD, List.getElem?_eq_getElem hj, Option.getD_some]
  rw [e1, e2] at h4
  exact h4
set_option maxHeartbeats 4000000 in
theorem SortedN_ok {h : Heap} {bx : Nat} {u : Value} {S l : List LE} (hbx : h.get bx = .cells [u] 0) (hb : bx < h.n) (hu : Rd h 1 u (pcells (S.map LE.b)) (S.map LE.b).length) (hpe : S.Perm l) (hlen : l.length < 256) (hn : (l.map LE.b).Nodup) (hi : (l.map LE.id).Nodup) (ha : ∀ e ∈ l, h.get e.b = .cells e.cells 0 ∧ e.b < h.n) :
    Runs Try.prog T0 (.fn fn_zebQ) [.func (.func fn_zgbQ) ⟨[]⟩ ⟨[.pointer (some ⟨bx, 0, none⟩)]⟩, .func (.func fn_zicQ) ⟨[]⟩ ⟨[]⟩] h
      (fun r h' => ∃ M, M.Perm (l.map LE.b) ∧ Srt (ltB l) 0 M.length M ∧ Own h' 1 r (pcells M) M.length ∧ (∀ i, ownedBy r i → h.n ≤ i) ∧ Fr (fun _ => False) h h') (fun _ _ => False) := by
  have hsl : (S.map LE.b).length = l.length := by rw [List.length_map]; exact hpe.length_eq
  refine zebQ_runs ?_
  refine stp ?_
  refine O.call' (zbbQ_runs (R := fun r h' => Own h' 1 r (pcells (S.map LE.b)) (S.map LE.b).length ∧ (∀ i, ownedBy r i → h.n ≤ i) ∧ Fr (fun _ => False) h h') (X := fun _ _ => False) ?_) (fun r h1 hr => ?_)
  · refine stp ?_
    refine O.call' (AppendSeq_ok hbx hb hu (by omega)) (fun r h1 hr => ?_)
    refine stp ?_
    exact hr
  · obtain ⟨ho, hnew, f1⟩ := hr
    have hso := SortF_ok (fd := fn_zicQ) (lt := ltB l) (G := fun b => ∃ e ∈ l, e.b = b) ho (by omega) (ltB_ord l) (distB hn hi hpe) (fun b hb => by
      obtain ⟨e, he, rfl⟩ := List.mem_map.1 hb
      exact ⟨e, hpe.mem_iff.1 he, rfl⟩) (fun q hq => cmpB hn fun e he => ⟨by rw [f1.get _ (ha e he).2 id]; exact (ha e he).1, f1.lt (ha e he).2, fun e2 => by
      have := hnew q hq
      have := (ha e he).2
      omega⟩)
    obtain ⟨a, c, rfl, _, _⟩ := id ho.rd
    refine stp ?_
    refine O.call' hso (fun r h2 hr => ?_)
    obtain ⟨M, hM, hs, hoM, f2⟩ := hr
    refine stp ?_
    have e1 : M.length = (S.map LE.b).length := hM.length_eq
    exact ⟨M, hM.trans (hpe.map _), hs, hoM, hnew, f1.trans f2 fun i hi2 q => by have := hnew i q; omega⟩
end Go.Proofs.Ytfmpaoolplnpjaa.A

namespace Go.Proofs.Ytfmpaoolplnpjaa.A
open Go Go.Vm
set_option maxRecDepth 10000
set_option linter.unusedVariables false
section
variable {P : Program} {ts : List Value} {h : Heap} {x y : Operand}
theorem xgeq1 {p q : Int} {O : Oper} (hp : q ≤ p) [e1 : Ev ts x (.int .i64 p)] [e2 : Ev ts y (.int .i64 q)] : XOp P ts h (.bin .geq O x y) (.bool true) h := by
  have := (XOp.geqI : XOp P ts h (.bin .geq O x y) (.bool (decide (q ≤ p))) h)
  rw [decide_eq_true hp] at this
  exact this
end
def tcells (L : List LT) : List Value := L.flatMap fun t => [.int .i64 t.id, .int .i64 t.due]
theorem tcells_app (L M : List LT) : tcells (L ++ M) = tcells L ++ tcells M := by simp [tcells]
theorem tcells_len (L : List LT) : (tcells L).length = L.length * 2 := by
  induction L with
  | nil => rfl
  | cons t L ih => show ([_, _] ++ tcells L).length = _; rw [List.length_append, ih, List.length_cons]; simp; omega
theorem one_tim {h : Heap} {a b : Int} {es : Nat} : newCells (h.push (.cells [.int .i64 a, .int .i64 b] es)) 2 [.int .i64 0, .int .i64 0] false (.slice (some ⟨h.n, 0, none⟩) 1 1) = some (1, [.int .i64 a, .int .i64 b]) :=
  (Rd.mk (size := 2) (n := 1) (cap := 1) (sp := none) (o := 0) (b := h.n) (c := [.int .i64 a, .int .i64 b]) (by simp) (by rw [cellsAt_of (c := [.int .i64 a, .int .i64 b]) (by rw [Heap.get_push, if_pos rfl]; rfl) (by simp)]; rfl)).new _
set_option maxHeartbeats 8000000 in
theorem told_ok {h : Heap} {v : Value} {S : List LE} {L : List LT} (hv : Rd h 1 v (pcells (S.map LE.b)) S.length) (hlen : S.length < 256) (hn : (S.map LE.b).Nodup) (hi : (S.map LE.id).Nodup) (ha : ∀ e ∈ S, e.At h) (hp : (S.map LE.tr).Perm L) (hL : SrtT L) :
    Runs Try.prog T0 (.fn fn_zocQ) [v] h (fun r h' => Own h' 2 r (tcells L) L.length ∧ (∀ i, ownedBy r i → h.n ≤ i) ∧ Fr (fun _ => False) h h') (fun _ _ => False) := by
  obtain ⟨av, cv, rfl, _, _⟩ := id hv
  have hml : (S.map LE.b).length = S.length := List.length_map _
  refine zocQ_runs ?_
  refine stp ?_
  refine O.call' Values_ok (fun r h1 hr => ?_)
  obtain ⟨rfl, n1, g1, f1⟩ := hr
  refine stp ?_
  refine O.call' (SortedN_ok (S := S) (l := S) g1 (by omega) (by rw [hml]; exact hv.keep f1 fun _ _ => id) (.refl S) (by omega) hn hi (fun e he => ⟨by rw [f1.get _ (ha e he).lt id]; exact (ha e he).get, f1.lt (ha e he).lt⟩)) (fun r h2 hr => ?_)
  obtain ⟨M, hM, hso, oM, hnew, f2⟩ := hr
  obtain ⟨O', hOb, hOp, hOt⟩ := srt_lets hn hi hM hso hp hL
  have F2 := f1.trans' f2
  have hMO : M.length = O'.length := by rw [← hOb, List.length_map]
  have hOl : O'.length = S.length := hOp.length_eq
  have hLO : L.length = O'.length := by rw [← hOt, List.length_map]
  obtain ⟨a2, c2, rfl, _, hc2⟩ := id oM.rd
  have n2 := F2.n
  refine stp ?_
  refine loop2 zocQ_l0_M 2 9 (fun q v2 v9 hx => ∃ k : Nat, k ≤ M.length ∧ q = M.length - k ∧ v9 = .int .i64 k ∧ Own hx 2 v2 (tcells (L.take k)) k ∧ (∀ i, ownedBy v2 i → h2.n ≤ i) ∧ Fr (fun _ => False) h2 hx) ?_ M.length ⟨0, by omega, rfl, rfl, .none, fun i hi => hi.elim, Fr.refl⟩
  rintro m v2 v9 h' x4 x10 x11 x12 x13 x14 x15 x16 x17 x18 x19 ⟨k, hk, rfl, rfl, ho, hPn, hF⟩
  have nF := hF.n
  obtain ⟨ao, co, rfl, _, _⟩ := id ho.rd
  rcases Nat.lt_or_ge k M.length with hlt | hge
  · haveI q1 : ∀ {ts : List Value} {h : Heap} {O : Oper} {x z : Operand} [Ev ts x (.int .i64 (k : Nat))] [Ev ts z (.int .i64 (M.length : Nat))], XOp Try.prog ts h (.bin .lss O x z) (.bool true) h := xlss1 (by omega)
    obtain ⟨q, o, sp, rfl, hq, hcc⟩ := hc2 (by omega)
    have hccx : cellsAt h' q o (M.length * 1) = some (pcells M) := (cellsAt_keep hF hq id).trans hcc
    have hcell : Cell h' q (o + k) (.pointer (some ⟨M.getD k 0, 0, none⟩)) := pcell_at hccx rfl hlt
    have hkO : k < O'.length := by omega
    have e0 : M.getD k 0 = (at' O' k).b := by rw [← hOb]; exact at_map LE.b hkO
    have hel : at' O' k ∈ S := hOp.mem_iff.1 (at_mem hkO)
    have htk : L.take (k + 1) = L.take k ++ [(at' O' k).tr] := by
      rw [← hOt, ← List.map_take, ← List.map_take, List.take_succ_eq_append_getElem hkO, List.map_append]
      simp only [at', List.getD_eq_getElem?_getD, List.getElem?_eq_getElem hkO, Option.getD_some, List.map_singleton]
    rw [e0] at hcell
    generalize at' O' k = e at *
    have hae := (ha e hel).keep (F2.trans' hF) id
    haveI := hcell
    have hget : h'.get e.b = .cells [.int .i64 e.id, .int .i64 e.due] 0 := hae.get
    haveI : HGet h' e.b _ := ⟨hget⟩
    haveI : BLt e.b h' := ⟨hae.lt⟩
    refine stp ?_
    refine O.append (n := k) (m := 1) (d := [.int .i64 e.id, .int .i64 e.due]) (ho.keep (Fr.refl.push (S := fun _ => False)) fun _ _ => id) one_tim rfl rfl (by decide) (by decide) (by omega) (fun v6 h6 o6 f6 n6 => ?_)
    have ecl : tcells (L.take k) ++ [.int .i64 e.id, .int .i64 e.due] = tcells (L.take (k + 1)) := by rw [htk, tcells_app]; rfl
    rw [ecl] at o6
    have F6 : Fr (ownedBy (.slice ao k co)) h' h6 := (Fr.refl.push (S := ownedBy (.slice ao k co))).trans' f6
    obtain ⟨a7, c7, rfl, _, _⟩ := id o6.rd
    refine stp ?_
    refine loop2a 2 9 (M.length - (k + 1)) (by omega) ⟨k + 1, by omega, rfl, rfl, o6, fun i hi => ?_, hF.trans F6 fun i hi q => by have := hPn i q; omega⟩
    rcases n6 i hi with q | q
    · exact hPn i q
    · simp at q; omega
  · haveI q1 : ∀ {ts : List Value} {h : Heap} {O : Oper} {x z : Operand} [Ev ts x (.int .i64 (k : Nat))] [Ev ts z (.int .i64 (M.length : Nat))], XOp Try.prog ts h (.bin .lss O x z) (.bool false) h := xlss0 (by omega)
    refine stp ?_
    have hkL : k = L.length := by omega
    rw [hkL, List.take_of_length_le (Nat.le_refl _)] at ho
    rw [hkL]
    exact ⟨ho, fun i hi => by have := hPn i (by rw [hkL]; exact hi); omega, F2.trans' hF⟩
def slotS (L : List LT) (n : Nat) (i : Int) : List LT := L.filter fun t => decide (((slotOf n t.due : Nat) : Int) = i)
section
variable {h h' : Heap} {p n : Nat} {L : List LT} {W : Nat → Prop}
theorem slot_tr {m c : Nat} {u : Nat → Value} {S : Nat → List LE} {l : List LE} (hs : WAt h p m c n u S l) (hp : (l.map LE.tr).Perm L) {i : Nat} (hi : i < 256) : ((S i).map LE.tr).Perm (slotS L n i) ∧ ((S i).map LE.b).Nodup ∧ ((S i).map LE.id).Nodup ∧ (S i).length ≤ l.length := by
  obtain ⟨R, h1, h2⟩ := all_upd S hi
  have h3 : ∀ e ∈ R, slotOf n e.due ≠ i := fun e he q => by
    have h4 : e ∈ allS (upd S i []) := (h2 []).mem_iff.2 (by simpa using he)
    obtain ⟨k, hk, h5⟩ := all_mem.1 h4
    by_cases hki : k = i
    · rw [hki, upd_at] at h5; simp at h5
    · rw [upd_ne _ _ hki] at h5
      exact hki (by rw [← hs.sl k hk e h5, q])
  have hpe := h1.symm.trans hs.pe
  have f1 : (S i).filter (fun e => decide (((slotOf n e.due : Nat) : Int) = i)) = S i := List.filter_eq_self.2 fun e he => by
    rw [hs.sl i hi e he]
    simp
  have f2 : R.filter (fun e => decide (((slotOf n e.due : Nat) : Int) = i)) = [] := List.filter_eq_nil_iff.2 fun e he => by
    have := h3 e he
    simp only [decide_eq_true_eq]
    omega
  have h6 := hpe.filter fun e => decide (((slotOf n e.due : Nat) : Int) = i)
  rw [List.filter_append, f1, f2, List.append_nil] at h6
  have h7 := hp.filter fun t => decide (((slotOf n t.due : Nat) : Int) = i)
  rw [List.filter_map] at h7
  refine ⟨(h6.map LE.tr).trans h7, ?_, ?_, ?_⟩
  · have := ((hpe.map LE.b).nodup_iff).2 hs.nd
    rw [List.map_append] at this
    exact (List.nodup_append.1 this).1
  · have := ((hpe.map LE.id).nodup_iff).2 hs.ids
    rw [List.map_append] at this
    exact (List.nodup_append.1 this).1
  · have := hpe.length_eq
    rw [List.length_append] at this
    omega
set_option maxHeartbeats 8000000 in
theorem wSlot_ok {i : Int} (hv : WV h p n L W) (hlen : L.length < 256) :
    Runs Try.prog T0 (.fn fn_zccQ) [.pointer (some ⟨p, 0, none⟩), .int .i64 i] h (fun r h' => Own h' 2 r (tcells (slotS L n i)) (slotS L n i).length ∧ (∀ j, ownedBy r j → h.n ≤ j) ∧ Fr (fun _ => False) h h') (fun _ _ => False) := by
  obtain ⟨m, c, u, S, l, hs, hp, hw⟩ := hv.kp
  have hLl : l.length = L.length := by have := hp.length_eq; rwa [List.length_map] at this
  haveI := hs.c0
  haveI : BLt p h := ⟨hs.pl⟩
  have h1n := hs.n1
  have h2n := hs.n2
  have hso := hv.so
  refine zccQ_runs ?_
  refine stp ?_
  refine O.call' (wnone_ok hs) (fun r h hr => ?_)
  obtain ⟨rfl, rfl⟩ := hr
  have hout : (i < 0 ∨ (n : Int) ≤ i) → slotS L n i = [] := fun hq => by
    unfold slotS
    refine List.filter_eq_nil_iff.2 fun t ht => ?_
    have := slot_lt (d := t.due) h1n
    simp only [decide_eq_true_eq]
    omega
  by_cases c1 : i < 0
  · haveI q1 : ∀ {ts : List Value} {h : Heap} {O : Oper} {x z : Operand} [Ev ts x (.int .i64 i)] [Ev ts z (.int .i64 0)], XOp Try.prog ts h (.bin .lss O x z) (.bool true) h := xlss1 c1
    refine stp ?_
    rw [hout (.inl c1)]
    exact ⟨.none, fun j hj => hj.elim, Fr.refl⟩
  haveI q1 : ∀ {ts : List Value} {h : Heap} {O : Oper} {x z : Operand} [Ev ts x (.int .i64 i)] [Ev ts z (.int .i64 0)], XOp Try.prog ts h (.bin .lss O x z) (.bool false) h := xlss0 c1
  by_cases c2 : (n : Int) ≤ i
  · haveI q2 : ∀ {ts : List Value} {h : Heap} {O : Oper} {x z : Operand} [Ev ts x (.int .i64 i)] [Ev ts z (.int .i64 (n : Nat))], XOp Try.prog ts h (.bin .geq O x z) (.bool true) h := xgeq1 c2
    refine stp ?_
    rw [hout (.inr c2)]
    exact ⟨.none, fun j hj => hj.elim, Fr.refl⟩
  haveI q2 : ∀ {ts : List Value} {h : Heap} {O : Oper} {x z : Operand} [Ev ts x (.int .i64 i)] [Ev ts z (.int .i64 (n : Nat))], XOp Try.prog ts h (.bin .geq O x z) (.bool false) h := xgeq0 c2
  obtain ⟨k, rfl⟩ : ∃ k : Nat, i = k := ⟨i.toNat, by omega⟩
  have hk : k < 256 := by omega
  obtain ⟨s1, s2, s3, s4⟩ := slot_tr hs hp hk
  have hto := told_ok (L := slotS L n k) (hs.ou k hk).rd (by omega) s2 s3 (fun e he => hs.ats e (hs.mem hk he)) s1 (hso.filter _)
  obtain ⟨a, cc, eu, _, _⟩ := id (hs.ou k hk).rd
  have hcs := hs.cs hk
  rw [eu] at hcs hto
  haveI := hcs
  refine stp ?_
  refine O.call' hto (fun r h1 hr => ?_)
  obtain ⟨o1, m1, f1⟩ := hr
  refine stp ?_
  exact ⟨o1, m1, f1⟩
theorem allU_len (S : Nat → List LE) {k : Nat} (hk : k ≤ 256) : ((List.range k).flatMap S).length ≤ (allS S).length := by
  unfold allS
  obtain ⟨j, hj⟩ : ∃ j, 256 = k + j := ⟨256 - k, by omega⟩
  rw [hj, List.range_add, List.flatMap_append, List.length_append]
  omega
set_option maxHeartbeats 8000000 in
theorem wList_ok (hv : WV h p n L W) (hlen : L.length < 256) :
    Runs Try.prog T0 (.fn fn_zzbQ) [.pointer (some ⟨p, 0, none⟩)] h (fun r h' => Own h' 2 r (tcells L) L.length ∧ (∀ j, ownedBy r j → h.n ≤ j) ∧ Fr (fun _ => False) h h') (fun _ _ => False) := by
  obtain ⟨m, c, u, S, l, hs, hp, hw⟩ := hv.kp
  have hLl : l.length = L.length := by have := hp.length_eq; rwa [List.length_map] at this
  have hal := hs.pe.length_eq
  have hso := hv.so
  have hno := wnone_ok hs
  refine zzbQ_runs ?_
  refine stp ?_
  refine O.call' hno (fun r h0 hr => ?_)
  obtain ⟨rfl, rfl⟩ := hr
  refine stp ?_
  refine loop2 zzbQ_l0_M 3 7 (fun q v3 v7 hx => ∃ k : Nat, k ≤ 256 ∧ q = 256 - k ∧ v7 = .int .i64 k ∧ Own hx 1 v3 (pcells (((List.range k).flatMap S).map LE.b)) ((List.range k).flatMap S).length ∧ (∀ i, ownedBy v3 i → h0.n ≤ i) ∧ Fr (fun _ => False) h0 hx) ?_ 256 ⟨0, by omega, rfl, rfl, .none, fun i hi => hi.elim, Fr.refl⟩
  rintro m v3 v7 h' x4 x8 x9 x10 x11 x12 x13 x14 x15 x16 x17 x18 ⟨k, hk, rfl, rfl, ho, hn3, hF⟩
  have hsx := hs.keep hF fun _ _ => id
  have nF := hF.n
  obtain ⟨a3, c3, e3, _, _⟩ := id ho.rd
  subst e3
  rcases Nat.lt_or_ge k 256 with hlt | hge
  · haveI q1 : ∀ {ts : List Value} {h : Heap} {O : Oper} {x z : Operand} [Ev ts x (.int .i64 (k : Nat))] [Ev ts z (.int .i64 256)], XOp Try.prog ts h (.bin .lss O x z) (.bool true) h := xlss1 (by omega)
    have hou := hsx.ou k hlt
    have hcs := hsx.cs hlt
    have hsu := hsx.su k hlt
    have h5 := allU_len S hk
    obtain ⟨_, _, _, s4⟩ := slot_tr hs hp hlt
    have hml : ((S k).map LE.b).length = (S k).length := List.length_map _
    obtain ⟨a, cc, eu, _, _⟩ := id hou.rd
    rw [eu] at hcs hou
    haveI := hcs
    haveI : BLt p h' := ⟨hsx.pl⟩
    refine stp ?_
    refine O.append (n := ((List.range k).flatMap S).length) (m := (S k).length) (d := pcells ((S k).map LE.b)) ho (hou.rd.new _) (by rw [pcells_len, hml, Nat.mul_one]) (pcells_one _) (by decide) (by decide) (by omega) (fun v6 h6 o6 f6 n6 => ?_)
    have e6 : (List.range (k + 1)).flatMap S = (List.range k).flatMap S ++ S k := by rw [List.range_succ, List.flatMap_append, List.flatMap_singleton]
    rw [← pcells_append, ← List.map_append, ← List.length_append, ← e6] at o6
    obtain ⟨a7, c7, rfl, _, _⟩ := id o6.rd
    refine stp ?_
    refine loop2a 3 7 (256 - (k + 1)) (by omega) ⟨k + 1, by omega, rfl, rfl, ?_, fun i hi => ?_, hF.trans f6 fun i hi q => by have := hn3 i q; omega⟩
    · exact o6
    · rcases n6 i hi with q | q
      · exact hn3 i q
      · omega
  · obtain rfl : k = 256 := by omega
    haveI q1 : ∀ {ts : List Value} {h : Heap} {O : Oper} {x z : Operand} [Ev ts x (.int .i64 ((256 : Nat) : Int))] [Ev ts z (.int .i64 256)], XOp Try.prog ts h (.bin .lss O x z) (.bool false) h := xlss0 (by omega)
    have hto := told_ok (S := allS S) (L := L) ho.rd (by omega) (((hs.pe.map LE.b).nodup_iff).2 hs.nd) (((hs.pe.map LE.id).nodup_iff).2 hs.ids) (fun e he => hsx.ats e (hs.pe.mem_iff.1 he)) ((hs.pe.map LE.tr).trans hp) hso
    refine stp ?_
    refine O.call' hto (fun r h1 hr => ?_)
    obtain ⟨o1, m1, f1⟩ := hr
    refine stp ?_
    exact ⟨o1, fun j hj => by have := m1 j hj; omega, hF.trans' f1⟩
end
end Go.Proofs.Ytfmpaoolplnpjaa.A

namespace Go.Proofs.Ytfmpaoolplnpjaa.A
open Go Go.Vm
set_option maxRecDepth 10000
set_option linter.unusedVariables false
section
variable {P : Program} {ts : List Value} {h : Heap} {x y : Operand}
end
def zT : LT := ⟨0, 0, 0, 0, []⟩
theorem tcells_at : ∀ {l : List LT} {k : Nat}, k < l.length → ((tcells l).drop (k * 2)).take 2 = ([.int .i64 (l.getD k zT).id, .int .i64 (l.getD k zT).due] : List Value)
  | a :: l, 0, _ => rfl
  | a :: l, k + 1, hk => by
    have h2 := tcells_at (l := l) (k := k) (by simpa using hk)
    show (([.int .i64 a.id, .int .i64 a.due] ++ tcells l : List Value).drop ((k + 1) * 2)).take 2 = _
    rw [show (k + 1) * 2 = ([.int .i64 a.id, .int .i64 a.due] : List Value).length + k * 2 from by simp; omega, ← List.drop_drop, List.drop_left, h2]
    rfl
theorem tim_cells {h : Heap} {b o n k : Nat} {l : List LT} (hc : cellsAt h b o (n * 2) = some (tcells l)) (hn : l.length = n) (hk : k < n) : Cell h b (o + k * 2) (.int .i64 (l.getD k zT).id) ∧ Cell h b (o + k * 2 + 1) (.int .i64 (l.getD k zT).due) := by
  have h1 : cellsAt h b (o + k * 2) 2 = some [.int .i64 (l.getD k zT).id, .int .i64 (l.getD k zT).due] := by rw [cellsAt_sub hc (by omega), tcells_at (by omega)]
  exact ⟨⟨by have := cellsAt_sub (k := 0) (m := 1) h1 (by omega); exact this⟩, ⟨by have := cellsAt_sub (k := 1) (m := 1) h1 (by omega); exact this⟩⟩
theorem getD_mem {l : List LT} {k : Nat} (hk : k < l.length) : l.getD k zT ∈ l := by simp [List.getD, hk]
def whenS (L : List LT) (k : Int) : Int × Bool := match findT k L with
  | some t => (t.due, true)
  | none => (0, false)
section
variable {h h' : Heap} {p n : Nat} {L : List LT} {W : Nat → Prop}
theorem wWhenV_ok {k : Int} (hv : WV h p n L W) : Runs Try.prog T0 (.fn fn_zecQ) [.pointer (some ⟨p, 0, none⟩), .int .i64 k] h (fun r h' => r = .tuple ⟨[.int .i64 (whenS L k).1, .bool (whenS L k).2]⟩ ∧ h' = h) (fun _ _ => False) := by
  obtain ⟨m, c, u, S, l, hs, hp, hw⟩ := hv.kp
  refine Runs.mono (wWhen_ok (k := k) hs) (fun r h' hr => ?_) (fun _ _ h => h)
  obtain ⟨rfl, ⟨e, he, hk, rfl⟩ | ⟨hno, rfl⟩⟩ := hr
  · unfold whenS
    rw [wfind_l hp hv.nd he hk]
    exact ⟨rfl, rfl⟩
  · unfold whenS
    rw [wfind_no hp hno]
    exact ⟨rfl, rfl⟩
theorem WV.n1 (hv : WV h p n L W) : 1 ≤ n ∧ n ≤ 256 := by
  obtain ⟨m, c, u, S, l, hs, hp, hw⟩ := hv.kp
  exact ⟨hs.n1, hs.n2⟩
theorem WV.du (hv : WV h p n L W) : ∀ t ∈ L, 0 ≤ t.due := fun t ht => by
  obtain ⟨m, c, u, S, l, hs, hp, hw⟩ := hv.kp
  obtain ⟨e, he, rfl⟩ := List.mem_map.1 (hp.mem_iff.2 ht)
  exact (hs.du e he).1
end
end Go.Proofs.Ytfmpaoolplnpjaa.A

namespace Go.Proofs.Ytfmpaoolplnpjaa.A
open Go Go.Vm
set_option maxRecDepth 10000
set_option linter.unusedVariables false
theorem srt_drop {L : List LT} {x : LT} {k : Nat} (hs : SrtT L) (hk : k < L.length) (hn : ltT L[k] x = false) : ∀ y ∈ L.drop k, ltT y x = false := fun y hy => by
  obtain ⟨j, hj, rfl⟩ := List.mem_iff_getElem.1 hy
  rw [List.length_drop] at hj
  rw [List.getElem_drop]
  rcases Nat.eq_zero_or_pos j with e | e
  · subst e
    exact hn
  · have h1 := List.pairwise_iff_getElem.1 hs k (k + j) hk (by omega) (by omega)
    simp only [ltK, decide_eq_true_eq, decide_eq_false_iff_not] at h1 hn ⊢
    omega
theorem ins_at {L : List LT} {x : LT} {k : Nat} (hs : SrtT L) (hk : k ≤ L.length) (h1 : ∀ y ∈ L.take k, ltT y x = true) (h2 : ∀ hk : k < L.length, ltT L[k] x = false) : L.take k ++ x :: L.drop k = insT x L := by
  have h3 : ∀ y ∈ L.drop k, ltT y x = false := fun y hy => by
    rcases Nat.lt_or_ge k L.length with q | q
    · exact srt_drop hs q (h2 q) y hy
    · rw [List.drop_eq_nil_of_le q] at hy; simp at hy
  have e1 : L.filter (fun y => ltT y x) = L.take k := by
    conv => lhs; rw [← List.take_append_drop k L]
    rw [List.filter_append, List.filter_eq_self.2 h1, List.filter_eq_nil_iff.2 (fun y hy => by rw [h3 y hy]; simp), List.append_nil]
  have e2 : L.filter (fun y => !ltT y x) = L.drop k := by
    conv => lhs; rw [← List.take_append_drop k L]
    rw [List.filter_append, List.filter_eq_nil_iff.2 (fun y hy => by rw [h1 y hy]; simp), List.filter_eq_self.2 (fun y hy => by rw [h3 y hy]; rfl), List.nil_append]
  unfold insT
  rw [e1, e2]
section
variable {h h' : Heap} {p : Nat} {most n gone : Int} {u : Value} {Ls : List LE}
end
end Go.Proofs.Ytfmpaoolplnpjaa.A

namespace Go.Proofs.Ytfmpaoolplnpjaa.A
open Go Go.Vm
set_option maxRecDepth 10000
set_option linter.unusedVariables false
class OwnI (h : Heap) (size : Nat) (v : Value) : Prop where
  ok : ∃ c n, Own h size v c n
instance {h : Heap} {size : Nat} {v : Value} {o : AObj} [k : OwnI h size v] : OwnI (h.push o) size v := ⟨by
  obtain ⟨c, n, h1⟩ := k.ok
  exact ⟨c, n, h1.keep (S := fun _ => False) Fr.refl.push fun _ _ => id⟩⟩
section
variable {P : Program} {ts : List Value} {h h' : Heap} {size n i : Nat} {v : Value} {c : List Value} {x lo hi : Operand} {p : Int}
theorem own_lo (hs : size ≠ 0) (ho : Own h size v c n) (i : Nat) (hi : i ≤ n) (hp : p = i) :
    ∃ v', (∀ b, blockOf v' b → ownedBy v b) ∧ Rd h size v' (c.drop (i * size)) (n - i) ∧ ∀ {P : Program} {ts : List Value} {h' : Heap} {x lo : Operand} [Ev ts x v] [Ev ts lo (.int .i64 p)] [OwnI h' size v], XOp P ts h' (.sliceSl size x (some lo) none none) v' h' := by
  have ix : ∀ {lim : Nat} {i : Nat}, i ≤ lim → idx (lim + 1) (.int .i64 i) = some i := fun hl => by rw [idx_in (by omega)]; simp
  subst hp
  cases ho with
  | none =>
    obtain rfl : i = 0 := by omega
    refine ⟨.slice none 0 0, fun b hb => hb.elim, by simpa using Rd.nil, fun {P ts h' x lo} e1 e2 k => ⟨rfl, ?_⟩⟩
    simp only [xop, e1.eq, sliceOf, bnd, e2.eq, ix (Nat.le_refl 0)]
    rfl
  | lit hq hg =>
    rename_i q es
    obtain rfl : i = 0 := by omega
    refine ⟨.slice (some ⟨q, 0, none⟩) 0 0, fun b hb => absurd rfl hb.2, by simpa using Rd.nil, fun {P ts h' x lo} e1 e2 k => ⟨rfl, ?_⟩⟩
    simp only [xop, e1.eq, sliceOf, bnd, e2.eq, ix (Nat.le_refl 0)]
    rfl
  | grown hq hn hle hl hl2 hg =>
    rename_i q k cap jj
    have hl3 := hl2
    rw [List.length_append] at hl3
    have hca : cellsAt h q 0 (n * size) = some c := by
      rw [cellsAt_of (by rw [hg]; rfl) (by rw [List.length_append]; omega), List.drop_zero, ← hl, List.take_left]
    have hmul : i * size + (n - i) * size = n * size := by rw [← Nat.add_mul]; congr 1; omega
    have nb1 : ∀ {e : Operand → Value}, bnd e cap n none = some n := rfl
    by_cases hi0 : i = 0
    · subst hi0
      refine ⟨.slice (some ⟨q, 0, some k⟩) n cap, fun b hb => hb.1, ?_, fun {P ts h' x lo} e1 e2 k => ⟨rfl, ?_⟩⟩
      · rw [Nat.zero_mul, List.drop_zero]
        exact Rd.mk hq hca
      · simp only [xop, e1.eq, sliceOf, bnd, e2.eq, ix (Nat.zero_le n)]
        rw [if_neg (by omega)]
        simp
    · by_cases hin : i = cap
      · refine ⟨.slice (some ⟨0, 0, some k⟩) 0 0, fun b hb => absurd rfl hb.2, ?_, fun {P ts h' x lo} e1 e2 k => ⟨rfl, ?_⟩⟩
        · have : n - i = 0 := by omega
          rw [this, List.drop_eq_nil_of_le (by rw [hl]; have := Nat.mul_le_mul_right size (show n ≤ i by omega); omega)]
          exact Rd.nil
        · simp only [xop, e1.eq, sliceOf, bnd, e2.eq, ix hi]
          rw [if_neg (by omega)]
          simp only [hi0, if_false]
          rw [if_pos hin.symm]
      · refine ⟨.slice (some ⟨q, 0 + i * size, some k⟩) (n - i) (cap - i), fun b hb => hb.1, ?_, fun {P ts h' x lo} e1 e2 kk => ⟨rfl, ?_⟩⟩
        · refine Rd.mk hq ?_
          have h5 := cellsAt_sub (k := i * size) (m := (n - i) * size) hca (by omega)
          rw [h5, List.take_of_length_le (by rw [List.length_drop]; omega)]
        · obtain ⟨c', n', ho'⟩ := kk.ok
          simp only [xop, e1.eq, sliceOf, bnd, e2.eq, ix hi]
          rw [if_neg (by omega)]
          cases ho' with
          | grown hq' hn' hle' hl' hl2' hg' => simp only [hi0, if_false, if_neg (Ne.symm hin), hg', if_true]
theorem own_hi (ho : Own h size v c n) (i : Nat) (hi : i ≤ n) (hp : p = i) :
    ∃ v', (∀ b, blockOf v' b → ownedBy v b) ∧ Rd h size v' (c.take (i * size)) i ∧ ∀ {P : Program} {ts : List Value} {h' : Heap} {x hi : Operand} [Ev ts x v] [Ev ts hi (.int .i64 p)], XOp P ts h' (.sliceSl size x none (some hi) none) v' h' := by
  have ix : ∀ {lim : Nat} {i : Nat}, i ≤ lim → idx (lim + 1) (.int .i64 i) = some i := fun hl => by rw [idx_in (by omega)]; simp
  subst hp
  cases ho with
  | none =>
    obtain rfl : i = 0 := by omega
    refine ⟨.slice none 0 0, fun b hb => hb.elim, by simpa using Rd.nil, fun {P ts h' x lo} e1 e2 => ⟨rfl, ?_⟩⟩
    simp only [xop, e1.eq, sliceOf, bnd, e2.eq, ix (Nat.le_refl 0)]
    rfl
  | lit hq hg =>
    rename_i q es
    obtain rfl : i = 0 := by omega
    refine ⟨.slice (some ⟨q, 0, none⟩) 0 0, fun b hb => absurd rfl hb.2, by simpa using Rd.nil, fun {P ts h' x lo} e1 e2 => ⟨rfl, ?_⟩⟩
    simp only [xop, e1.eq, sliceOf, bnd, e2.eq, ix (Nat.le_refl 0)]
    rfl
  | grown hq hn hle hl hl2 hg =>
    rename_i q k cap jj
    have h3 : i ≤ cap := by omega
    have hmul : i * size ≤ n * size := Nat.mul_le_mul_right _ hi
    refine ⟨.slice (some ⟨q, 0, some k⟩) i cap, fun b hb => hb.1, ?_, fun {P ts h' x lo} e1 e2 => ⟨rfl, ?_⟩⟩
    · refine Rd.mk hq ?_
      have hca : cellsAt h q 0 (n * size) = some c := by
        rw [cellsAt_of (by rw [hg]; rfl) (by rw [List.length_append]; omega), List.drop_zero, ← hl, List.take_left]
      have h5 := cellsAt_sub (k := 0) (m := i * size) hca (by omega)
      simpa using h5
    · simp only [xop, e1.eq, sliceOf, bnd, e2.eq, ix h3]
      rw [if_neg (by omega)]
      simp
end
end Go.Proofs.Ytfmpaoolplnpjaa.A

namespace Go.Proofs.Ytfmpaoolplnpjaa.A
open Go Go.Vm
set_option maxRecDepth 10000
set_option linter.unusedVariables false
theorem mkStoreN {P : Program} {ts : List Value} {h : Heap} {a x : Operand} {v : Value} {o r n es : Nat} {sp : Option Nat} {xs c : List Value} (ho : o + xs.length ≤ c.length) (h1 : xs.all Value.oneCell' = true) (hn : n = xs.length) [e : Ev ts a (.pointer (some ⟨r, o, sp⟩))] [f : Ev ts x v] [k : CellsOf v xs] [g : HGet h r (.cells c es)] :
    xop P (eval ts) h (.store n a x) = .ok undef (h.set r (.cells (over c o xs) es)) := by
  have hp : putAt h r o xs = some (h.set r (.cells (over c o xs) es)) := by
    unfold putAt
    rw [g.eq]
    show (if o + xs.length ≤ c.length ∧ xs.all Value.oneCell' = true then some (h.set r (.cells (over c o xs) es)) else none) = _
    rw [if_pos ⟨ho, h1⟩]
  subst hn
  simp only [xop, e.eq, f.eq, k.eq, k.len, hp, if_true]
end Go.Proofs.Ytfmpaoolplnpjaa.A

namespace Go.Proofs.Ytfmpaoolplnpjaa.A
open Go Go.Vm
set_option maxRecDepth 10000
set_option linter.unusedVariables false
theorem OverInts_ok {h : Heap} {v : Value} {c : List Value} {n : Nat} (ho : Own h 1 v c n) (hs : n < 1048576) :
    Runs Try.prog T0 (.fn fn_zhQ) [v] h (fun r h' => Fr (ownedBy v) h h') (fun _ _ => False) := by
  refine zhQ_runs ?_
  cases ho with
  | none =>
    refine stp ?_
    refine loop1 zhQ_l0_M 2 (fun m v2 h' => v2 = .int .i64 0 ∧ h' = h) ?_ 0 ⟨rfl, rfl⟩
    rintro m v2 h' x3 x4 x5 x6 x7 x8 x9 x10 x11 ⟨rfl, rfl⟩
    refine stp ?_
    exact Fr.refl
  | lit hq hg =>
    refine stp ?_
    refine loop1 zhQ_l0_M 2 (fun m v2 h' => v2 = .int .i64 0 ∧ h' = h) ?_ 0 ⟨rfl, rfl⟩
    rintro m v2 h' x3 x4 x5 x6 x7 x8 x9 x10 x11 ⟨rfl, rfl⟩
    refine stp ?_
    exact Fr.refl
  | grown hq hn hle hl hl2 hg =>
    rename_i q kk cap j
    refine stp ?_
    refine loop1 zhQ_l0_M 2 (fun m v2 h' => ∃ k : Nat, k ≤ n ∧ m = n - k ∧ v2 = .int .i64 k ∧ (∃ cs, h'.get q = .cells cs 1 ∧ cs.length = cap * 1) ∧ Fr (ownedBy (.slice (some ⟨q, 0, some kk⟩) n cap)) h h') ?_ n ⟨0, by omega, rfl, rfl, ⟨_, hg, hl2⟩, Fr.refl⟩
    rintro m v2 h' x3 x4 x5 x6 x7 x8 x9 x10 x11 ⟨k, hk, rfl, rfl, ⟨cs, hg', hcs⟩, hf⟩
    haveI : HGet h' q _ := ⟨hg'⟩
    refine stp ?_
    refine C.if (fun hlt => ?_) (fun hge => ?_)
    · refine stp ?_
      refine O.by0 (mkStoreN (xs := [.int .i64 (-77)]) (c := cs) (r := q) (es := 1) (by simp; omega) rfl rfl) rfl ?_
      refine stp ?_
      refine loop1a 2 (n - (k + 1)) (by omega) ⟨k + 1, by omega, rfl, rfl, ⟨_, by rw [Heap.get_set, if_pos rfl], ?_⟩, Fr.set hf fun _ => rfl⟩
      rw [over_length _ _ _ (by simp; omega), hcs]
    · refine stp ?_
      exact hf
end Go.Proofs.Ytfmpaoolplnpjaa.A

namespace Go.Proofs.Ytfmpaoolplnpjaa.A
open Go Go.Vm
set_option maxRecDepth 10000
set_option linter.unusedVariables false
instance cellsPush {h : Heap} {b off n : Nat} {c : List Value} {o : AObj} [k : Cells h b off n c] [l : BLt b h] : Cells (h.push o) b off n c := ⟨by
  rw [cellsAt_keep (S := fun _ => False) Fr.refl.push l.lt id]
  exact k.eq⟩
theorem tc_take (l : List LT) (i : Nat) : (tcells l).take (i * 2) = tcells (l.take i) := by
  induction l generalizing i with
  | nil => simp [tcells]
  | cons e l ih =>
    cases i with
    | zero => simp [tcells]
    | succ i =>
      show (([.int .i64 e.id, .int .i64 e.due] : List Value) ++ tcells l).take ((i + 1) * 2) = [.int .i64 e.id, .int .i64 e.due] ++ tcells (l.take i)
      rw [show (i + 1) * 2 = ([.int .i64 e.id, .int .i64 e.due] : List Value).length + i * 2 from by simp; omega, List.take_length_add_append, ih]
theorem tc_drop (l : List LT) (i : Nat) : (tcells l).drop (i * 2) = tcells (l.drop i) := by
  induction l generalizing i with
  | nil => simp [tcells]
  | cons e l ih =>
    cases i with
    | zero => simp
    | succ i =>
      show (([.int .i64 e.id, .int .i64 e.due] : List Value) ++ tcells l).drop ((i + 1) * 2) = tcells (l.drop i)
      rw [show (i + 1) * 2 = ([.int .i64 e.id, .int .i64 e.due] : List Value).length + i * 2 from by simp; omega, ← List.drop_drop, List.drop_left, ih]
theorem tc_ones (l : List LT) : (tcells l).all Value.oneCell' = true := by
  induction l with
  | nil => rfl
  | cons e l ih => show (([.int .i64 e.id, .int .i64 e.due] : List Value) ++ tcells l).all Value.oneCell' = true; rw [List.all_append, ih]; rfl
theorem tim_agg {h : Heap} {b o n k : Nat} {l : List LT} (hc : cellsAt h b o (n * 2) = some (tcells l)) (hn : l.length = n) (hk : k < n) : Cells h b (o + k * 2) 2 [.int .i64 (l.getD k zT).id, .int .i64 (l.getD k zT).due] := ⟨by
  rw [cellsAt_sub hc (by omega), tcells_at (by omega)]⟩
theorem getD_eq {l : List LT} {k : Nat} (hk : k < l.length) : l.getD k zT = l[k] := by simp [List.getD, hk]
theorem take_succ' {l : List LT} {k : Nat} (hk : k < l.length) : l.take (k + 1) = l.take k ++ [l.getD k zT] := by rw [getD_eq hk]; exact List.take_succ_eq_append_getElem hk
structure DV (h : Heap) (p n : Nat) (L : List LT) (Dp : Nat → Prop) : Prop where
  pl : p < h.n
  hp : Dp p
  kp : ∃ u, h.get p = .cells [.int .i64 n, u] 0 ∧ Own h 2 u (tcells L) L.length ∧ ∀ i, ownedBy u i → Dp i ∧ i ≠ p
  lt : ∀ i, Dp i → i < h.n
def DAfter (h : Heap) (p n : Nat) (Dp : Nat → Prop) (L' : List LT) (h' : Heap) : Prop := ∃ D' : Nat → Prop, DV h' p n L' D' ∧ (∀ i, D' i → Dp i ∨ h.n ≤ i) ∧ Fr (fun i => i = p) h h'
section
variable {h h' : Heap} {p n : Nat} {L L' : List LT} {Dp : Nat → Prop}
theorem DV.keep {T : Nat → Prop} (hv : DV h p n L Dp) (hf : Fr T h h') (hn : ∀ i, Dp i → ¬ T i) : DV h' p n L Dp := by
  obtain ⟨u, h1, h2, h3⟩ := hv.kp
  exact ⟨hf.lt hv.pl, hv.hp, ⟨u, by rw [hf.get _ hv.pl (hn _ hv.hp)]; exact h1, h2.keep hf fun i hi => hn i (h3 i hi).1, h3⟩, fun i hi => hf.lt (hv.lt i hi)⟩
theorem DAfter.same (hv : DV h p n L Dp) (hf : Fr (fun _ => False) h h') : DAfter h p n Dp L h' := ⟨Dp, hv.keep hf fun _ _ => id, fun i hi => .inl hi, hf.mono fun _ _ e => e.elim⟩
theorem dafter_new {hx : Heap} {v : Value} (hv : DV h p n L Dp) (hf : Fr (fun _ => False) h hx) (ho : Own hx 2 v (tcells L') L'.length) (hm : ∀ i, ownedBy v i → h.n ≤ i) : DAfter h p n Dp L' (hx.set p (.cells [.int .i64 n, v] 0)) := by
  have hS : Fr (fun i => i = p) hx (hx.set p (.cells [.int .i64 n, v] 0)) := Fr.refl.set fun _ => rfl
  have hpl := hv.pl
  refine ⟨fun i => i = p ∨ ownedBy v i, ⟨hS.lt (hf.lt hpl), .inl rfl, ⟨v, by rw [Heap.get_set, if_pos rfl], ho.keep hS fun i hi e => by have := hm i hi; omega, fun i hi => ⟨.inr hi, fun e => by have := hm i hi; omega⟩⟩, fun i hi => ?_⟩, fun i hi => ?_, (hf.mono fun _ _ e => e.elim).trans' hS⟩
  · rcases hi with q | q
    · rw [q]; exact hS.lt (hf.lt hpl)
    · exact hS.lt (ho.lt q)
  · rcases hi with q | q
    · rw [q]; exact .inl hv.hp
    · exact .inr (hm i q)
theorem DNew_ok {n : Int} : Runs Try.prog T0 (.fn fn_zpQ) [.int .i64 n] h
    (fun r h' => Fr (fun _ => False) h h' ∧ ((n < 1 ∨ 256 < n) ∧ r = .tuple ⟨[.pointer none, .int .i64 3]⟩ ∨ (1 ≤ n ∧ n ≤ 256) ∧ ∃ p Dp, r = .tuple ⟨[.pointer (some ⟨p, 0, none⟩), .int .i64 0]⟩ ∧ DV h' p n.toNat [] Dp ∧ ∀ i, Dp i → h.n ≤ i)) (fun _ _ => False) := by
  refine zpQ_runs ?_
  refine stp ?_
  refine O.dec (fun h1 => ?_) (fun h1 => ?_)
  · refine stp ?_
    exact ⟨Fr.refl, .inl ⟨.inl h1, rfl⟩⟩
  · refine stp ?_
    refine C.if (fun h2 => ?_) (fun h2 => ?_)
    · refine stp ?_
      exact ⟨Fr.refl, .inl ⟨.inr h2, rfl⟩⟩
    · refine stp ?_
      obtain ⟨k, rfl⟩ : ∃ k : Nat, n = k := ⟨n.toNat, by omega⟩
      exact ⟨Fr.refl.push, .inr ⟨⟨by omega, by omega⟩, _, fun i => i = h.n, rfl, ⟨by simp, rfl, ⟨_, HGet.new.eq, .none, fun i hi => hi.elim⟩, fun i hi => by simp only [hi]; simp⟩, fun i hi => by simp only [hi]; exact Nat.le_refl _⟩⟩
set_option maxHeartbeats 4000000 in
theorem dat_ok {k : Int} (hv : DV h p n L Dp) (hl : L.length < 100000) :
    Runs Try.prog T0 (.fn fn_zwQ) [.pointer (some ⟨p, 0, none⟩), .int .i64 k] h (fun r h' => h' = h ∧ ((∃ i : Nat, i < L.length ∧ r = .int .i64 i ∧ (L.getD i zT).id = k) ∨ r = .int .i64 (-1) ∧ ∀ t ∈ L, t.id ≠ k)) (fun _ _ => False) := by
  obtain ⟨u, hg, ho, hu⟩ := hv.kp
  haveI : HGet h p _ := ⟨hg⟩
  obtain ⟨a, c, rfl, _, hc⟩ := id ho.rd
  refine zwQ_runs ?_
  refine stp ?_
  refine loop1 zwQ_l0_M 5 (fun q v5 hx => ∃ j : Nat, j ≤ L.length ∧ q = L.length - j ∧ v5 = .int .i64 j ∧ hx = h ∧ ∀ t ∈ L.take j, t.id ≠ k) ?_ L.length ⟨0, by omega, rfl, rfl, rfl, by simp⟩
  rintro m v5 h' x4 x6 x7 x8 x9 x10 x11 x12 x13 x14 x15 x16 x17 x18 x19 x20 x21 x22 x23 x24 x25 ⟨j, hj, rfl, rfl, rfl, hno⟩
  rcases Nat.lt_or_ge j L.length with hlt | hge
  · haveI q1 : ∀ {ts : List Value} {h : Heap} {Q : Oper} {x z : Operand} [Ev ts x (.int .i64 (j : Nat))] [Ev ts z (.int .i64 (L.length : Nat))], XOp Try.prog ts h (.bin .lss Q x z) (.bool true) h := xlss1 (by omega)
    obtain ⟨b, o, sp, rfl, hb, hcc⟩ := hc (by omega)
    haveI := (tim_cells hcc rfl hlt).1
    refine stp ?_
    refine C.if (fun hk => ?_) (fun hk => ?_)
    · refine stp ?_
      exact ⟨rfl, .inl ⟨j, hlt, rfl, hk⟩⟩
    · refine stp ?_
      refine loop1a 5 (L.length - (j + 1)) (by omega) ⟨j + 1, by omega, rfl, rfl, rfl, fun t ht => ?_⟩
      rw [take_succ' hlt] at ht
      rcases List.mem_append.1 ht with ht | ht
      · exact hno t ht
      · rw [List.mem_singleton.1 ht]
        exact hk
  · haveI q1 : ∀ {ts : List Value} {h : Heap} {Q : Oper} {x z : Operand} [Ev ts x (.int .i64 (j : Nat))] [Ev ts z (.int .i64 (L.length : Nat))], XOp Try.prog ts h (.bin .lss Q x z) (.bool false) h := xlss0 (by omega)
    refine stp ?_
    exact ⟨rfl, .inr ⟨rfl, fun t ht => hno t (by rw [List.take_of_length_le (by omega)]; exact ht)⟩⟩
theorem at_find {i : Nat} {k : Int} (hn : (L.map LT.id).Nodup) (hi : i < L.length) (hk : (L.getD i zT).id = k) : findT k L = some (L.getD i zT) := find_of hn (getD_mem hi) hk
theorem at_none {k : Int} (hno : ∀ t ∈ L, t.id ≠ k) : findT k L = none := by
  unfold findT
  rw [List.find?_eq_none]
  intro y hy
  have h1 := hno y hy
  show ¬ (decide (y.id = k)) = true
  simpa using h1
set_option maxHeartbeats 4000000 in
theorem DWhen_ok {k : Int} (hv : DV h p n L Dp) (hl : L.length < 100000) (hn : (L.map LT.id).Nodup) :
    Runs Try.prog T0 (.fn fn_zvQ) [.pointer (some ⟨p, 0, none⟩), .int .i64 k] h (fun r h' => r = .tuple ⟨[.int .i64 (whenS L k).1, .bool (whenS L k).2]⟩ ∧ h' = h) (fun _ _ => False) := by
  obtain ⟨u, hg, ho, hu⟩ := hv.kp
  unfold whenS
  refine zvQ_runs ?_
  refine stp ?_
  refine O.call' (dat_ok hv (k := k) hl) (fun r h1 hr => ?_)
  obtain ⟨rfl, ⟨i, hi, rfl, hk⟩ | ⟨rfl, hno⟩⟩ := hr
  · haveI q1 : ∀ {ts : List Value} {h : Heap} {Q : Oper} {x z : Operand} [Ev ts x (.int .i64 (i : Nat))] [Ev ts z (.int .i64 0)], XOp Try.prog ts h (.bin .lss Q x z) (.bool false) h := xlss0 (by omega)
    rw [at_find hn hi hk]
    obtain ⟨a, c, rfl, _, hc⟩ := id ho.rd
    obtain ⟨b, o, sp, rfl, hb, hcc⟩ := hc (by omega)
    haveI : HGet h1 p _ := ⟨hg⟩
    haveI := (tim_cells hcc rfl hi).2
    refine stp ?_
    exact ⟨rfl, rfl⟩
  · haveI q1 : ∀ {ts : List Value} {h : Heap} {Q : Oper} {x z : Operand} [Ev ts x (.int .i64 (-1))] [Ev ts z (.int .i64 0)], XOp Try.prog ts h (.bin .lss Q x z) (.bool true) h := xlss1 (by omega)
    rw [at_none hno]
    refine stp ?_
    exact ⟨rfl, rfl⟩
set_option maxHeartbeats 4000000 in
theorem DNext_ok (hv : DV h p n L Dp) (hl : L.length < 100000) :
    Runs Try.prog T0 (.fn fn_zrQ) [.pointer (some ⟨p, 0, none⟩)] h (fun r h' => r = .tuple ⟨[.int .i64 (nextW L).1, .bool (nextW L).2]⟩ ∧ h' = h) (fun _ _ => False) := by
  obtain ⟨u, hg, ho, hu⟩ := hv.kp
  haveI : HGet h p _ := ⟨hg⟩
  obtain ⟨a, c, rfl, _, hc⟩ := id ho.rd
  haveI iz : ∀ {o : Nat}, IdxOff o 0 2 o := fun {o} => ⟨by simp⟩
  refine zrQ_runs ?_
  refine stp ?_
  refine C.if (fun h0 => ?_) (fun h0 => ?_)
  · refine stp ?_
    rw [List.length_eq_zero_iff.1 (show L.length = 0 by omega)]
    exact ⟨rfl, rfl⟩
  · have h1 : 0 < L.length := by omega
    obtain ⟨b, o, sp, rfl, hb, hcc⟩ := hc (by omega)
    have hcd := (tim_cells hcc rfl h1).2
    rw [Nat.zero_mul] at hcd
    haveI := hcd
    refine stp ?_
    cases L with
    | nil => simp at h1
    | cons t M => exact ⟨rfl, rfl⟩
end
end Go.Proofs.Ytfmpaoolplnpjaa.A

namespace Go.Proofs.Ytfmpaoolplnpjaa.A
open Go Go.Vm
set_option maxRecDepth 10000
set_option linter.unusedVariables false
section
variable {h h' : Heap} {p n : Nat} {L L' : List LT} {Dp : Nat → Prop}
set_option maxHeartbeats 64000000 in
theorem DSet_ok {k d : Int} (hv : DV h p n L Dp) (hl : L.length < 100000) (hso : SrtT L) (hnd : (L.map LT.id).Nodup) :
    Runs Try.prog T0 (.fn fn_zsQ) [.pointer (some ⟨p, 0, none⟩), .int .i64 k, .int .i64 d] h (fun r h' => r = .int .i64 (setS L k d).2 ∧ DAfter h p n Dp (setS L k d).1 h') (fun _ _ => False) := by
  unfold setS
  refine zsQ_runs ?_
  by_cases c1 : d < 0
  · haveI q1 : ∀ {ts : List Value} {h : Heap} {Q : Oper} {x z : Operand} [Ev ts x (.int .i64 d)] [Ev ts z (.int .i64 0)], XOp Try.prog ts h (.bin .lss Q x z) (.bool true) h := xlss1 c1
    rw [show isDue d = false from decide_eq_false (by omega)]
    refine stp ?_
    exact ⟨rfl, DAfter.same hv Fr.refl⟩
  haveI q1 : ∀ {ts : List Value} {h : Heap} {Q : Oper} {x z : Operand} [Ev ts x (.int .i64 d)] [Ev ts z (.int .i64 0)], XOp Try.prog ts h (.bin .lss Q x z) (.bool false) h := xlss0 c1
  by_cases c2 : 1099511627776 < d
  · haveI q2 : ∀ {ts : List Value} {h : Heap} {Q : Oper} {x z : Operand} [Ev ts x (.int .i64 d)] [Ev ts z (.int .i64 1099511627776)], XOp Try.prog ts h (.bin .gtr Q x z) (.bool true) h := xgtr1 c2
    rw [show isDue d = false from decide_eq_false (by omega)]
    refine stp ?_
    exact ⟨rfl, DAfter.same hv Fr.refl⟩
  haveI q2 : ∀ {ts : List Value} {h : Heap} {Q : Oper} {x z : Operand} [Ev ts x (.int .i64 d)] [Ev ts z (.int .i64 1099511627776)], XOp Try.prog ts h (.bin .gtr Q x z) (.bool false) h := xgtr0 c2
  rw [show isDue d = true from decide_eq_true (by omega)]
  simp only [Bool.true_eq_false, if_false]
  refine stp ?_
  refine O.call' (dat_ok hv (k := k) hl) (fun r h0 hr => ?_)
  obtain ⟨rfl, ⟨i, hi, rfl, hk⟩ | ⟨rfl, hno⟩⟩ := hr
  · haveI q3 : ∀ {ts : List Value} {h : Heap} {Q : Oper} {x z : Operand} [Ev ts x (.int .i64 (i : Nat))] [Ev ts z (.int .i64 0)], XOp Try.prog ts h (.bin .geq Q x z) (.bool true) h := xgeq1 (by omega)
    rw [at_find hnd hi hk]
    refine stp ?_
    exact ⟨rfl, DAfter.same hv Fr.refl⟩
  haveI q3 : ∀ {ts : List Value} {h : Heap} {Q : Oper} {x z : Operand} [Ev ts x (.int .i64 (-1))] [Ev ts z (.int .i64 0)], XOp Try.prog ts h (.bin .geq Q x z) (.bool false) h := xgeq0 (by omega)
  rw [at_none hno]
  simp only [Option.isSome_none, Bool.false_eq_true, if_false]
  obtain ⟨u, hg, ho, hu⟩ := hv.kp
  have hp := hv.pl
  haveI : HGet h0 p _ := ⟨hg⟩
  haveI : BLt p h0 := ⟨hp⟩
  obtain ⟨a, c, eu, _, hc⟩ := id ho.rd
  subst eu
  obtain ⟨x, hx⟩ : ∃ x : LT, x = ⟨k, 0, 0, d, []⟩ := ⟨_, rfl⟩
  rw [← hx]
  refine stp ?_
  refine loop1 zsQ_l0_M 7 (fun q v7 hx => ∃ j : Nat, j ≤ L.length ∧ q = L.length - j ∧ v7 = .int .i64 j ∧ hx = h0 ∧ ∀ y ∈ L.take j, ltT y x = true) ?_ L.length ⟨0, by omega, rfl, rfl, rfl, by simp⟩
  rintro m v7 h' x21 x22 x23 x24 x25 x26 x27 x28 x29 x30 x31 x32 x33 x34 x35 x36 x37 x38 x39 x40 x41 x42 x43 x44 x45 x46 x47 x48 x49 x50 x51 x52 x53 x54 x55 x56 x57 x58 x59 x60 x61 x62 x63 x64 x65 ⟨j, hj, rfl, rfl, rfl, hbe⟩
  by_cases hgo : ∃ hk : j < L.length, ltT (L.getD j zT) x = true
  · obtain ⟨hlt, hgo⟩ := hgo
    have hmo : ∀ y ∈ L.take (j + 1), ltT y x = true := fun y hy => by
      rw [take_succ' hlt] at hy
      rcases List.mem_append.1 hy with hy | hy
      · exact hbe y hy
      · rw [List.mem_singleton.1 hy]; exact hgo
    haveI q4 : ∀ {ts : List Value} {h : Heap} {Q : Oper} {x z : Operand} [Ev ts x (.int .i64 (j : Nat))] [Ev ts z (.int .i64 (L.length : Nat))], XOp Try.prog ts h (.bin .lss Q x z) (.bool true) h := xlss1 (by omega)
    obtain ⟨b, o, sp, rfl, hb, hcc⟩ := hc (by omega)
    obtain ⟨ci, cd⟩ := tim_cells hcc rfl hlt
    haveI := ci
    haveI := cd
    rw [hx] at hgo
    simp only [ltK, decide_eq_true_eq] at hgo
    generalize (L.getD j zT).due = d1 at *
    generalize (L.getD j zT).id = i1 at *
    rcases Classical.em (d1 < d) with hd | hd
    · haveI q5 : ∀ {ts : List Value} {h : Heap} {Q : Oper} {y z : Operand} [Ev ts y (.int .i64 d1)] [Ev ts z (.int .i64 d)], XOp Try.prog ts h (.bin .lss Q y z) (.bool true) h := xlss1 hd
      refine stp ?_
      exact loop1a 7 (L.length - (j + 1)) (by omega) ⟨j + 1, by omega, rfl, rfl, rfl, hmo⟩
    · haveI q5 : ∀ {ts : List Value} {h : Heap} {Q : Oper} {y z : Operand} [Ev ts y (.int .i64 d1)] [Ev ts z (.int .i64 d)], XOp Try.prog ts h (.bin .lss Q y z) (.bool false) h := xlss0 hd
      haveI q6 : ∀ {ts : List Value} {h : Heap} {Q : Oper} {y z : Operand} [Ev ts y (.int .i64 d1)] [Ev ts z (.int .i64 d)], XOp Try.prog ts h (.bin .eql Q y z) (.bool true) h := xeql1 (by omega)
      haveI q7 : ∀ {ts : List Value} {h : Heap} {Q : Oper} {y z : Operand} [Ev ts y (.int .i64 i1)] [Ev ts z (.int .i64 k)], XOp Try.prog ts h (.bin .lss Q y z) (.bool true) h := xlss1 (by omega)
      refine stp ?_
      exact loop1a 7 (L.length - (j + 1)) (by omega) ⟨j + 1, by omega, rfl, rfl, rfl, hmo⟩
  have hend : ∀ hk : j < L.length, ltT L[j] x = false := fun hk => by
    cases hq : ltT L[j] x with
    | false => rfl
    | true => exact absurd ⟨hk, by rw [getD_eq hk]; exact hq⟩ hgo
  have hins := ins_at hso hj hbe hend
  refine cut1 zsQ_l0_M (.exit 1) (fun v hz => v = .int .i64 j ∧ hz = h') ?_ ?_
  · rcases Nat.lt_or_ge j L.length with hlt | hge
    · haveI q4 : ∀ {ts : List Value} {h : Heap} {Q : Oper} {x z : Operand} [Ev ts x (.int .i64 (j : Nat))] [Ev ts z (.int .i64 (L.length : Nat))], XOp Try.prog ts h (.bin .lss Q x z) (.bool true) h := xlss1 (by omega)
      obtain ⟨b, o, sp, rfl, hb, hcc⟩ := hc (by omega)
      have hgo := hend hlt
      rw [← getD_eq hlt, hx] at hgo
      have hgo : ¬ ((L.getD j zT).due < d ∨ (L.getD j zT).due = d ∧ (L.getD j zT).id < k) := of_decide_eq_false hgo
      obtain ⟨ci, cd⟩ := tim_cells hcc rfl hlt
      haveI := ci
      haveI := cd
      generalize (L.getD j zT).due = d1 at *
      generalize (L.getD j zT).id = i1 at *
      haveI q5 : ∀ {ts : List Value} {h : Heap} {Q : Oper} {y z : Operand} [Ev ts y (.int .i64 d1)] [Ev ts z (.int .i64 d)], XOp Try.prog ts h (.bin .lss Q y z) (.bool false) h := xlss0 (by omega)
      rcases Classical.em (d1 = d) with hd | hd
      · haveI q6 : ∀ {ts : List Value} {h : Heap} {Q : Oper} {y z : Operand} [Ev ts y (.int .i64 d1)] [Ev ts z (.int .i64 d)], XOp Try.prog ts h (.bin .eql Q y z) (.bool true) h := xeql1 hd
        haveI q7 : ∀ {ts : List Value} {h : Heap} {Q : Oper} {y z : Operand} [Ev ts y (.int .i64 i1)] [Ev ts z (.int .i64 k)], XOp Try.prog ts h (.bin .lss Q y z) (.bool false) h := xlss0 (by omega)
        refine stp ?_
        exact cutQ1.out 7 ⟨rfl, rfl⟩
      · haveI q6 : ∀ {ts : List Value} {h : Heap} {Q : Oper} {y z : Operand} [Ev ts y (.int .i64 d1)] [Ev ts z (.int .i64 d)], XOp Try.prog ts h (.bin .eql Q y z) (.bool false) h := xeql0 hd
        refine stp ?_
        exact cutQ1.out 7 ⟨rfl, rfl⟩
    · haveI q4 : ∀ {ts : List Value} {h : Heap} {Q : Oper} {x z : Operand} [Ev ts x (.int .i64 (j : Nat))] [Ev ts z (.int .i64 (L.length : Nat))], XOp Try.prog ts h (.bin .lss Q x z) (.bool false) h := xlss0 (by omega)
      refine stp ?_
      exact cutQ1.out 7 ⟨rfl, rfl⟩
  intro vk hz x21 x22 x23 x24 x25 x26 x27 x28 x29 x30 x31 x32 x33 x34 x35 x36 x37 x38 x39 x40 x41 x42 x43 x44 x45 x46 x47 x48 x49 x50 x51 x52 x53 x54 x55 x56 x57 x58 x59 x60 x61 x62 x63 x64 x65 ⟨e1, e2⟩
  subst e1 e2
  clear hgo hend hbe
  obtain ⟨w1, b1, r1, x1⟩ := own_hi ho (p := (j : Int)) j hj rfl
  obtain ⟨w2, b2, r2, x2⟩ := own_lo (by decide) ho (p := (j : Int)) j hj rfl
  rw [tc_take] at r1
  rw [tc_drop] at r2
  have l1 : (L.take j).length = j := by rw [List.length_take]; omega
  have l2 : (L.drop j).length = L.length - j := List.length_drop
  have l1' : (tcells (L.take j)).length = j * 2 := by rw [tcells_len, l1]
  have l2' : (tcells (L.drop j)).length = (L.length - j) * 2 := by rw [tcells_len, l2]
  have en0 : 0 + j + 1 + (L.length - j) = L.length + 1 := by omega
  have s1 : 0 + (L.length - j) < 1048576 := by omega
  have s2 : 0 + j < 1048576 := by omega
  have s3 : 0 + j + 1 < 1048576 := by omega
  have s4 : 0 + j + 1 + (L.length - j) < 1048576 := by omega
  haveI := @x1
  haveI := @x2
  haveI oB0 : OwnI hz 2 (.slice a L.length c) := ⟨_, _, ho⟩
  refine stp ?_
  have G0 : ∀ {h : Heap} {A : AObj}, Fr (fun _ => False) h (h.push A) := fun {h A} => Fr.refl.push
  refine O.append (n := 0) (m := L.length - j) (c := []) (d := tcells (L.drop j)) (.lit (by simp) (by rw [Heap.get_push, if_pos rfl])) ((r2.keep G0 fun _ _ => id).new _) l2' (tc_ones _) (by decide) (by decide) s1 (fun vr h2 o2 f2 m2 => ?_)
  simp only [Heap.n_push] at m2
  rw [List.nil_append, Nat.zero_add] at o2
  have F2 : Fr (fun _ => False) hz h2 := G0.trans f2 fun i hi e => by have e : hz.n = i := e; omega
  have M2 : ∀ i, ownedBy vr i → hz.n ≤ i := fun i hi => (m2 i hi).elim (fun e => by have e : hz.n = i := e; omega) fun e => by omega
  have n2 := F2.n
  obtain ⟨ar, cr, er, _, _⟩ := id o2.rd
  subst er
  haveI : HGet h2 p _ := F2.keep ⟨hg⟩ hp id
  haveI : BLt p h2 := ⟨F2.lt hp⟩
  haveI : OwnI h2 2 (.slice a L.length c) := ⟨_, _, ho.keep F2 fun _ _ => id⟩
  refine stp ?_
  refine O.append (n := 0) (m := j) (c := []) (d := tcells (L.take j)) (.lit (by simp) (by rw [Heap.get_push, if_pos rfl])) (((r1.keep F2 fun _ _ => id).keep G0 fun _ _ => id).new _) l1' (tc_ones _) (by decide) (by decide) s2 (fun v3 h3 o3 f3 m3 => ?_)
  simp only [Heap.n_push] at m3
  have F3 : Fr (fun _ => False) h2 h3 := G0.trans f3 fun i hi e => by have e : h2.n = i := e; omega
  have M3 : ∀ i, ownedBy v3 i → h2.n ≤ i := fun i hi => (m3 i hi).elim (fun e => by have e : h2.n = i := e; omega) fun e => by omega
  have n3 := F3.n
  obtain ⟨a3, c3, e3, _, _⟩ := id o3.rd
  subst e3
  refine stp ?_
  have G3 : Fr (fun _ => False) h3 (h3.push (.cells [.int .i64 k, .int .i64 d] 0)) := G0
  refine O.append (n := 0 + j) (m := 1) (d := [.int .i64 k, .int .i64 d]) (o3.keep G3 fun _ _ => id) one_tim rfl rfl (by decide) (by decide) s3 (fun v4 h4 o4 f4 m4 => ?_)
  simp only [Heap.n_push] at m4
  have F4 : Fr (fun _ => False) h2 h4 := (F3.trans' G3).trans f4 fun i hi e => by have := M3 i e; omega
  have M4 : ∀ i, ownedBy v4 i → h2.n ≤ i := fun i hi => (m4 i hi).elim (M3 i) fun e => by omega
  obtain ⟨a4, c4, e4, _, _⟩ := id o4.rd
  subst e4
  refine stp ?_
  refine O.append (n := 0 + j + 1) (m := L.length - j) (d := tcells (L.drop j)) o4 ((o2.keep F4 fun _ _ => id).rd.new _) l2' (tc_ones _) (by decide) (by decide) s4 (fun v5 h5 o5 f5 m5 => ?_)
  have F5 : Fr (fun _ => False) hz h5 := F2.trans' (F4.trans f5 fun i hi e => by have := M4 i e; omega)
  have M5 : ∀ i, ownedBy v5 i → hz.n ≤ i := fun i hi => (m5 i hi).elim (fun q => by have := M4 i q; omega) fun e => by have := F4.n; omega
  have ec : ([] ++ tcells (L.take j)) ++ [.int .i64 k, .int .i64 d] ++ tcells (L.drop j) = tcells (insT x L) := by
    rw [← hins, List.nil_append, tcells_app, List.append_assoc]
    congr 1
    rw [hx]
    rfl
  have en : 0 + j + 1 + (L.length - j) = (insT x L).length := by
    rw [(ins_perm x L).length_eq, List.length_cons, en0]
  rw [ec, en] at o5
  obtain ⟨a5, c5, e5, _, _⟩ := id o5.rd
  subst e5
  haveI : HGet h5 p _ := F5.keep ⟨hg⟩ hp id
  haveI : BLt p h5 := ⟨F5.lt hp⟩
  refine stp ?_
  exact ⟨rfl, dafter_new hv F5 o5 M5⟩
end
end Go.Proofs.Ytfmpaoolplnpjaa.A

namespace Go.Proofs.Ytfmpaoolplnpjaa.A
open Go Go.Vm
set_option maxRecDepth 10000
set_option linter.unusedVariables false
theorem less_at {L : List LT} {i : Nat} {k : Int} (hn : (L.map LT.id).Nodup) (hi : i < L.length) (hk : L[i].id = k) : L.take i ++ L.drop (i + 1) = lessT k L := by
  have ne : ∀ j (hj : j < L.length), j ≠ i → L[j].id ≠ k := fun j hj hji e => by
    have h0 := List.pairwise_iff_getElem.1 hn
    rcases Nat.lt_or_gt_of_ne hji with q | q
    · exact h0 j i (by simpa using hj) (by simpa using hi) q (by rw [List.getElem_map, List.getElem_map, e, hk])
    · exact h0 i j (by simpa using hi) (by simpa using hj) q (by rw [List.getElem_map, List.getElem_map, e, hk])
  have e : L = L.take i ++ L[i] :: L.drop (i + 1) := by rw [List.getElem_cons_drop, List.take_append_drop]
  unfold lessT
  conv => rhs; rw [e]
  rw [List.filter_append, List.filter_cons_of_neg (by simpa using hk), List.filter_eq_self.2 (fun y hy => ?_), List.filter_eq_self.2 (fun y hy => ?_)]
  · obtain ⟨j, hj, rfl⟩ := List.mem_iff_getElem.1 hy
    rw [List.length_drop] at hj
    rw [List.getElem_drop]
    simpa using ne (i + 1 + j) (by omega) (by omega)
  · obtain ⟨j, hj, rfl⟩ := List.mem_iff_getElem.1 hy
    rw [List.length_take] at hj
    rw [List.getElem_take]
    simpa using ne j (by omega) (by omega)
section
variable {h h' : Heap} {p n : Nat} {L L' : List LT} {Dp : Nat → Prop}
set_option maxHeartbeats 16000000 in
theorem DStop_ok {k : Int} (hv : DV h p n L Dp) (hl : L.length < 100000) (hnd : (L.map LT.id).Nodup) :
    Runs Try.prog T0 (.fn fn_zuQ) [.pointer (some ⟨p, 0, none⟩), .int .i64 k] h (fun r h' => r = .bool (findT k L).isSome ∧ DAfter h p n Dp (stopS L k) h') (fun _ _ => False) := by
  unfold stopS
  refine zuQ_runs ?_
  refine stp ?_
  refine O.call' (dat_ok hv (k := k) hl) (fun r h0 hr => ?_)
  obtain ⟨rfl, ⟨i, hi, rfl, hk⟩ | ⟨rfl, hno⟩⟩ := hr
  case inr =>
    haveI q1 : ∀ {ts : List Value} {h : Heap} {Q : Oper} {x z : Operand} [Ev ts x (.int .i64 (-1))] [Ev ts z (.int .i64 0)], XOp Try.prog ts h (.bin .lss Q x z) (.bool true) h := xlss1 (by omega)
    rw [at_none hno]
    refine stp ?_
    exact ⟨rfl, DAfter.same hv Fr.refl⟩
  haveI q1 : ∀ {ts : List Value} {h : Heap} {Q : Oper} {x z : Operand} [Ev ts x (.int .i64 (i : Nat))] [Ev ts z (.int .i64 0)], XOp Try.prog ts h (.bin .lss Q x z) (.bool false) h := xlss0 (by omega)
  rw [at_find hnd hi hk]
  simp only [Option.isSome_some, if_true]
  rw [← less_at hnd hi (by rw [← getD_eq hi]; exact hk)]
  obtain ⟨u, hg, ho, hu⟩ := hv.kp
  have hp := hv.pl
  obtain ⟨a, c, eu, _, hc⟩ := id ho.rd
  subst eu
  obtain ⟨w1, b1, r1, x1⟩ := own_hi ho (p := (i : Int)) i (by omega) rfl
  obtain ⟨w2, b2, r2, x2⟩ := own_lo (by decide) ho (p := (i : Int) + 1) (i + 1) (by omega) (by omega)
  rw [tc_take] at r1
  rw [tc_drop] at r2
  have l1 : (L.take i).length = i := by rw [List.length_take]; omega
  have l2 : (L.drop (i + 1)).length = L.length - (i + 1) := List.length_drop
  have s1 : 0 + i < 1048576 := by omega
  have s2 : 0 + i + (L.length - (i + 1)) < 1048576 := by omega
  haveI := @x1
  haveI := @x2
  haveI : InR .i64 ((i : Int) + 1) := inr_i64 (by omega)
  haveI : HGet h0 p _ := ⟨hg⟩
  haveI : BLt p h0 := ⟨hp⟩
  haveI oB0 : OwnI h0 2 (.slice a L.length c) := ⟨_, _, ho⟩
  refine stp ?_
  refine D.one ?_ ?_
  · repeat refine stab_cons inferInstance ?_
    rfl
  have G0 : Fr (fun _ => False) h0 (h0.push (.cells [] 0)) := Fr.refl.push
  have hn : (h0.push (.cells [] 0)).n = h0.n + 1 := rfl
  refine D.appendC (n := 0) (m := i) (c := []) (d := tcells (L.take i)) (Own.lit (by simp) HGet.new.eq) ((r1.keep G0 fun _ _ => id).new _) (by rw [tcells_len, l1]) (tc_ones _) (by decide) (by decide) s1 (fun v1 h1 o1 f1 n1 => ?_)
  have o1' : ∀ {j}, ownedBy v1 j → h0.n ≤ j := fun {j} hj => (n1 j hj).elim (fun e => by have e : h0.n = j := e; omega) (fun e => by rw [hn] at e; omega)
  have F1 : Fr (fun _ => False) h0 h1 := G0.trans f1 fun j hj e => by have e : h0.n = j := e; omega
  haveI : HGet h1 p _ := F1.keep ⟨hg⟩ hp id
  haveI : OwnI h1 2 (.slice a L.length c) := ⟨_, _, ho.keep F1 fun _ _ => id⟩
  obtain ⟨q1, q2, rfl, _, _⟩ := id o1.rd
  refine ⟨?_, ?_⟩
  · repeat refine stab_cons inferInstance ?_
    rfl
  refine D.appendC o1 ((r2.keep F1 fun _ _ => id).new _) (by rw [tcells_len, l2]) (tc_ones _) (by decide) (by decide) s2 (fun v2 h2 o2 f2 n2 => ⟨?_, ?_⟩)
  · repeat refine stab_cons inferInstance ?_
    rfl
  have o2' : ∀ j, ownedBy v2 j → h0.n ≤ j := fun j hj => (n2 j hj).elim (fun e => o1' e) (fun e => by have := F1.n; omega)
  have F2 : Fr (fun _ => False) h0 h2 := F1.trans f2 fun j hj e => by have := o1' e; omega
  have len2 : i + (L.length - (i + 1)) = (L.take i ++ L.drop (i + 1)).length := by rw [List.length_append, l1, l2]
  rw [List.nil_append, ← tcells_app, Nat.zero_add, len2] at o2
  obtain ⟨q3, q4, rfl, _, _⟩ := id o2.rd
  haveI : HGet h2 p _ := F2.keep ⟨hg⟩ hp id
  haveI : BLt p h2 := ⟨F2.lt hp⟩
  refine stp ?_
  exact ⟨rfl, dafter_new hv F2 o2 o2'⟩
set_option maxHeartbeats 16000000 in
theorem DFire_ok {now : Int} (hv : DV h p n L Dp) (hlen : L.length < 10000) (hso : SrtT L) : Runs Try.prog T0 (.fn fn_zqQ) [.pointer (some ⟨p, 0, none⟩), .int .i64 now] h
    (fun r h' => ∃ D', Own h' 1 r (ncells ((firedS L now).map LT.id)) (firedS L now).length ∧ DV h' p n (staysS L now) D' ∧ (∀ i, D' i → Dp i ∨ h.n ≤ i) ∧ (∀ i, ownedBy r i → h.n ≤ i ∧ ¬ D' i) ∧ Fr (fun i => i = p) h h') (fun _ _ => False) := by
  have done : ∀ {hx : Heap} {v : Value} {Z K : List LT} {D' : Nat → Prop}, L = Z ++ K → DV hx p n K D' → (∀ t ∈ Z, t.due ≤ now) → Own hx 1 v (ncells (Z.map LT.id)) Z.length → (∀ i, ownedBy v i → h.n ≤ i ∧ ¬ D' i) → (∀ i, D' i → Dp i ∨ h.n ≤ i) → Fr (fun i => i = p) h hx → (∀ t ∈ K, now < t.due) → ∃ D', Own hx 1 v (ncells ((firedS L now).map LT.id)) (firedS L now).length ∧ DV hx p n (staysS L now) D' ∧ (∀ i, D' i → Dp i ∨ h.n ≤ i) ∧ (∀ i, ownedBy v i → h.n ≤ i ∧ ¬ D' i) ∧ Fr (fun i => i = p) h hx := fun {hx v Z K D'} e hw hz ho hn hW hF hK => by
    obtain ⟨e1, e2⟩ := fired_split hz hK
    rw [e, e1, e2]
    exact ⟨D', ho, hw, hW, hn, hF⟩
  refine zqQ_runs ?_
  refine stp ?_
  refine loop1 zqQ_l0_M 5 (fun q v5 hx => ∃ Z K D', q = K.length ∧ L = Z ++ K ∧ DV hx p n K D' ∧ (∀ t ∈ Z, t.due ≤ now) ∧ Own hx 1 v5 (ncells (Z.map LT.id)) Z.length ∧ (∀ i, ownedBy v5 i → h.n ≤ i ∧ ¬ D' i) ∧ (∀ i, D' i → Dp i ∨ h.n ≤ i) ∧ Fr (fun i => i = p) h hx) ?_ L.length ⟨[], L, Dp, rfl, rfl, hv, by simp, .none, fun i hi => hi.elim, fun i hi => .inl hi, Fr.refl⟩
  rintro m v5 h' x6 x7 x8 x9 x10 x11 x12 x13 x14 x15 x16 x17 x18 x19 x20 x21 x22 x23 x24 x25 x26 x27 x28 x29 x30 x31 x32 x33 x34 x35 x36 x37 x38 x39 x40 x41 x42 ⟨Z, K, D', rfl, eL, hvK, hz, hZ, hnew, hW, hF⟩
  have hLK : L.length = Z.length + K.length := by rw [eL, List.length_append]
  have hsK : SrtT K := by rw [eL] at hso; exact hso.sublist (List.sublist_append_right ..)
  obtain ⟨u, hg, ho, hu⟩ := hvK.kp
  obtain ⟨a, c, eu, _, hc⟩ := id ho.rd
  subst eu
  have hp := hvK.pl
  haveI : HGet h' p _ := ⟨hg⟩
  haveI iz : ∀ {o : Nat}, IdxOff o 0 2 o := fun {o} => ⟨by simp⟩
  obtain ⟨av, cv, ev, _, _⟩ := id hZ.rd
  subst ev
  cases hK : K with
  | nil =>
    haveI g1 : ∀ {ts : List Value} {h : Heap} {O : Oper} {x z : Operand} [Ev ts x (.int .i64 (K.length : Nat))] [Ev ts z (.int .i64 0)], XOp Try.prog ts h (.bin .gtr O x z) (.bool false) h := xgtr0 (by rw [hK]; simp)
    refine stp ?_
    exact done eL hvK hz hZ hnew hW hF (by rw [hK]; simp)
  | cons t M =>
  have h0 : 0 < K.length := by rw [hK]; simp
  haveI g1 : ∀ {ts : List Value} {h : Heap} {O : Oper} {x z : Operand} [Ev ts x (.int .i64 (K.length : Nat))] [Ev ts z (.int .i64 0)], XOp Try.prog ts h (.bin .gtr O x z) (.bool true) h := xgtr1 (by omega)
  obtain ⟨b, o, sp, rfl, hb, hcc⟩ := hc (by omega)
  obtain ⟨ci, cd⟩ := tim_cells hcc rfl h0
  have et : K.getD 0 zT = t := by rw [hK]; rfl
  rw [et, Nat.zero_mul] at ci cd
  haveI := ci
  haveI := cd
  refine stp ?_
  refine C.if (fun hdue => ?_) (fun hdue => ?_)
  case refine_2 =>
    refine stp ?_
    refine done eL hvK hz hZ hnew hW hF fun s hs => ?_
    have := srt_due hsK hK s hs
    omega
  have nF := hF.n
  obtain ⟨w2, b2, r2, x2⟩ := own_lo (by decide) ho (p := (1 : Int)) 1 (by omega) rfl
  rw [tc_drop, hK] at r2
  have r2 : Rd h' 2 w2 (tcells M) (K.length - 1) := by rw [hK]; exact r2
  have hM : M.length = K.length - 1 := by rw [hK]; simp
  haveI := @x2
  refine stp ?_
  refine O.append (n := Z.length) (m := 1) (d := [.int .i64 t.id]) (hZ.keep (Fr.refl.push (S := fun _ => False)) fun _ _ => id) one_int rfl rfl (by decide) (by decide) (by omega) (fun v2 h2 o2 f2 m2 => ?_)
  simp only [Heap.n_push] at m2
  have hlv := fun {i : Nat} (hi : ownedBy (.slice av Z.length cv) i) => hZ.lt hi
  have hDl := fun {i : Nat} (hi : D' i) => hvK.lt i hi
  have F2 : Fr (ownedBy (.slice av Z.length cv)) h' h2 := (Fr.refl.push (S := ownedBy (.slice av Z.length cv))).trans' f2
  have nv2 : ∀ i, ownedBy v2 i → h.n ≤ i ∧ ¬ D' i := fun i hi => by
    rcases m2 i hi with q | q
    · exact hnew i q
    · exact ⟨by omega, fun k => by have := hDl k; omega⟩
  have hv2 := hvK.keep F2 fun i hi q => (hnew i q).2 hi
  have n2 := F2.n
  have hnp : ∀ i, ownedBy (.slice av Z.length cv) i → i ≠ p := fun i hi e => (hnew i hi).2 (by rw [e]; exact hvK.hp)
  have hg2 : h2.get p = _ := (F2.get p hp fun q => hnp p q rfl).trans hg
  haveI : HGet h2 p _ := ⟨hg2⟩
  haveI : BLt p h2 := ⟨by omega⟩
  have hbD : ∀ i, ownedBy (.slice (some ⟨b, o, sp⟩) K.length c) i → D' i := fun i hi => (hu i hi).1
  have ho2 := ho.keep F2 fun i hi q => (hnew i q).2 (hbD i hi)
  haveI : OwnI h2 2 (.slice (some ⟨b, o, sp⟩) K.length c) := ⟨_, _, ho2⟩
  have r22 := r2.keep F2 fun i hi q => (hnew i q).2 (hbD i (b2 i hi))
  obtain ⟨a2, c2, e2, _, _⟩ := id o2.rd
  subst e2
  have hlv2 := fun {i : Nat} (hi : ownedBy (.slice a2 (Z.length + 1) c2) i) => o2.lt hi
  refine stp ?_
  have s1 : 0 + (K.length - 1) < 1048576 := by omega
  refine O.append (n := 0) (m := K.length - 1) (c := []) (d := tcells M) (.lit (by simp) (by rw [Heap.get_push, if_pos rfl])) ((r22.keep (Fr.refl.push (S := fun _ => False)) fun _ _ => id).new _) (by rw [tcells_len, hM]) (tc_ones _) (by decide) (by decide) s1 (fun v3 h3 o3 f3 m3 => ?_)
  simp only [Heap.n_push] at m3
  rw [List.nil_append, Nat.zero_add, ← hM] at o3
  have F3 : Fr (fun _ => False) h2 h3 := (Fr.refl.push (S := fun _ => False)).trans f3 fun i hi e => by have e : h2.n = i := e; omega
  have M3 : ∀ i, ownedBy v3 i → h2.n ≤ i := fun i hi => (m3 i hi).elim (fun e => by have e : h2.n = i := e; omega) fun e => by omega
  obtain ⟨a3, c3, e3, _, _⟩ := id o3.rd
  subst e3
  haveI : HGet h3 p _ := F3.keep ⟨hg2⟩ (by omega) id
  haveI : BLt p h3 := ⟨F3.lt (by omega)⟩
  refine stp ?_
  obtain ⟨D3, hv3, w3, f4⟩ := dafter_new hv2 F3 o3 M3
  have o4 := (o2.keep F3 fun _ _ => id).keep (S := fun i => i = p) (h' := h3.set p (.cells [.int .i64 n, .slice a3 M.length c3] 0)) (Fr.refl.set fun _ => rfl) fun i hi e => (nv2 i hi).2 (by rw [e]; exact hvK.hp)
  refine loop1a 5 M.length (by first | omega | simp) ⟨Z ++ [t], M, D3, rfl, by rw [eL, hK]; simp, hv3, fun s hs => ?_, ?_, fun i hi => ⟨(nv2 i hi).1, fun q => ?_⟩, fun i hi => ?_, ?_⟩
  · rcases List.mem_append.1 hs with q | q
    · exact hz s q
    · rw [List.mem_singleton.1 q]; exact hdue
  · rw [List.map_append, ncells_append, List.length_append]
    exact o4
  · rcases w3 i q with k | k
    · exact (nv2 i hi).2 k
    · have := hlv2 hi; omega
  · rcases w3 i hi with k | k
    · exact hW i k
    · exact .inr (by omega)
  · exact (hF.trans F2 fun i hi q => by have := (hnew i q).1; omega).trans' f4
set_option maxHeartbeats 16000000 in
theorem DSlot_ok {i : Int} (hv : DV h p n L Dp) (hlen : L.length < 10000) (hn1 : 1 ≤ n) (hn2 : n ≤ 256) (hdu : ∀ t ∈ L, 0 ≤ t.due) : Runs Try.prog T0 (.fn fn_ztQ) [.pointer (some ⟨p, 0, none⟩), .int .i64 i] h
    (fun r h' => Own h' 2 r (tcells (slotS L n i)) (slotS L n i).length ∧ (∀ j, ownedBy r j → h.n ≤ j) ∧ Fr (fun _ => False) h h') (fun _ _ => False) := by
  obtain ⟨u, hg, ho, hu⟩ := hv.kp
  obtain ⟨a, c, eu, _, hc⟩ := id ho.rd
  subst eu
  have hp := hv.pl
  refine ztQ_runs ?_
  refine stp ?_
  refine loop2 ztQ_l0_M 5 6 (fun q v5 v6 hx => ∃ k : Nat, k ≤ L.length ∧ q = L.length - k ∧ v6 = .int .i64 k ∧ Own hx 2 v5 (tcells (slotS (L.take k) n i)) (slotS (L.take k) n i).length ∧ (∀ j, ownedBy v5 j → h.n ≤ j) ∧ Fr (fun _ => False) h hx) ?_ L.length ⟨0, by omega, rfl, rfl, .none, fun j hj => hj.elim, Fr.refl⟩
  rintro m v5 v6 h' x7 x8 x9 x10 x11 x12 x13 x14 x15 x16 x17 x18 x19 x20 x21 x22 x23 x24 x25 x26 x27 x28 x29 x30 x31 x32 x33 x34 x35 x36 x37 x38 x39 x40 ⟨k, hk, rfl, rfl, hout, hnew, hF⟩
  have nF := hF.n
  haveI : HGet h' p _ := hF.keep ⟨hg⟩ hp id
  obtain ⟨av, cv, ev, _, _⟩ := id hout.rd
  subst ev
  rcases Nat.lt_or_ge k L.length with hlt | hge
  case inr =>
    haveI q1 : ∀ {ts : List Value} {h : Heap} {Q : Oper} {x z : Operand} [Ev ts x (.int .i64 (k : Nat))] [Ev ts z (.int .i64 (L.length : Nat))], XOp Try.prog ts h (.bin .lss Q x z) (.bool false) h := xlss0 (by omega)
    rw [List.take_of_length_le (by omega)] at *
    refine stp ?_
    exact ⟨hout, hnew, hF⟩
  haveI q1 : ∀ {ts : List Value} {h : Heap} {Q : Oper} {x z : Operand} [Ev ts x (.int .i64 (k : Nat))] [Ev ts z (.int .i64 (L.length : Nat))], XOp Try.prog ts h (.bin .lss Q x z) (.bool true) h := xlss1 (by omega)
  obtain ⟨b, o, sp, rfl, hb, hcc0⟩ := hc (by omega)
  have hcc : cellsAt h' b o (L.length * 2) = some (tcells L) := (cellsAt_keep hF hb id).trans hcc0
  have hd0 := hdu _ (getD_mem hlt)
  obtain ⟨ci, cd⟩ := tim_cells hcc rfl hlt
  haveI := cd
  haveI := tim_agg hcc rfl hlt
  have hmod := slot_mod (d := (L.getD k zT).due) hn1 hd0
  have hsl : (slotS (L.take k) n i).length ≤ k := Nat.le_trans (List.length_filter_le ..) (by rw [List.length_take]; omega)
  have hstep : slotS (L.take (k + 1)) n i = slotS (L.take k) n i ++ (if ((slotOf n (L.getD k zT).due : Nat) : Int) = i then [L.getD k zT] else []) := by
    rw [take_succ' hlt]
    unfold slotS
    rw [List.filter_append, List.filter_cons, List.filter_nil]
    congr 1
    by_cases e : ((slotOf n (L.getD k zT).due : Nat) : Int) = i
    · rw [if_pos e, if_pos (decide_eq_true e)]
    · rw [if_neg e, if_neg (by simpa using e)]
  have hn0 : (n : Int) ≠ 0 := by omega
  by_cases e : ((slotOf n (L.getD k zT).due : Nat) : Int) = i
  · rw [if_pos e] at hstep
    haveI q2 : ∀ {ts : List Value} {h : Heap} {Q : Oper} {x z : Operand} [Ev ts x (.int .i64 ((L.getD k zT).due.tmod (n : Int)))] [Ev ts z (.int .i64 i)], XOp Try.prog ts h (.bin .eql Q x z) (.bool true) h := xeql1 (by rw [hmod, e])
    refine stp ?_
    refine D.how (XOp.remI hn0) rfl ?_
    refine stp ?_
    refine O.append (n := (slotS (L.take k) n i).length) (m := 1) (d := [.int .i64 (L.getD k zT).id, .int .i64 (L.getD k zT).due]) (hout.keep (Fr.refl.push (S := fun _ => False)) fun _ _ => id) one_tim rfl rfl (by decide) (by decide) (by omega) (fun v2 h2 o2 f2 m2 => ?_)
    simp only [Heap.n_push] at m2
    have F2 : Fr (ownedBy (.slice av (slotS (L.take k) n i).length cv)) h' h2 := (Fr.refl.push (S := ownedBy (.slice av (slotS (L.take k) n i).length cv))).trans' f2
    have ec : tcells (slotS (L.take k) n i) ++ [.int .i64 (L.getD k zT).id, .int .i64 (L.getD k zT).due] = tcells (slotS (L.take (k + 1)) n i) := by rw [hstep, tcells_app]; rfl
    have en : (slotS (L.take k) n i).length + 1 = (slotS (L.take (k + 1)) n i).length := by rw [hstep, List.length_append]; rfl
    rw [ec, en] at o2
    obtain ⟨a2, c2, e2, _, _⟩ := id o2.rd
    subst e2
    refine stp ?_
    refine loop2a 5 6 (L.length - (k + 1)) (by omega) ⟨k + 1, by omega, rfl, rfl, o2, fun j hj => ?_, hF.trans F2 fun j hj q => by have := hnew j q; omega⟩
    rcases m2 j hj with q | q
    · exact hnew j q
    · omega
  · rw [if_neg e, List.append_nil] at hstep
    haveI q2 : ∀ {ts : List Value} {h : Heap} {Q : Oper} {x z : Operand} [Ev ts x (.int .i64 ((L.getD k zT).due.tmod (n : Int)))] [Ev ts z (.int .i64 i)], XOp Try.prog ts h (.bin .eql Q x z) (.bool false) h := xeql0 (by rw [hmod]; exact e)
    refine stp ?_
    refine D.how (XOp.remI hn0) rfl ?_
    refine stp ?_
    exact loop2a 5 6 (L.length - (k + 1)) (by omega) ⟨k + 1, by omega, rfl, rfl, by rw [hstep]; exact hout, hnew, hF⟩
end
end Go.Proofs.Ytfmpaoolplnpjaa.A

namespace Go.Proofs.Ytfmpaoolplnpjaa.A
open Go Go.Vm
set_option maxRecDepth 10000
set_option linter.unusedVariables false
theorem SameTims_ok {h : Heap} {v w : Value} {l : List LT} (hv : Rd h 2 v (tcells l) l.length) (hw : Rd h 2 w (tcells l) l.length) (hs : l.length < 1048576) :
    Runs Try.prog T0 (.fn fn_zkQ) [v, w] h (fun r h' => r = .bool true ∧ h' = h) (fun _ _ => False) := by
  obtain ⟨a, cap, rfl, hlen, hc⟩ := hv
  obtain ⟨a', cap', rfl, hlen', hc'⟩ := hw
  refine zkQ_runs ?_
  refine stp ?_
  refine loop2 zkQ_l0_M 5 6 (fun m v5 v6 h' => ∃ k : Nat, k ≤ l.length ∧ m = l.length - k ∧ v6 = .int .i64 k ∧ v5 = .bool true ∧ h' = h) ?_ l.length ⟨0, by omega, rfl, rfl, by simp, rfl⟩
  rintro m v5 v6 h' x12 x13 x14 x15 x16 x17 x18 x19 x20 x21 x22 x23 x24 x25 x26 x27 x28 x29 ⟨k, hk, rfl, rfl, rfl, rfl⟩
  refine stp ?_
  refine C.if (fun hlt => ?_) (fun hge => ?_)
  · have hlt : k < l.length := by omega
    obtain ⟨b, o, sp, rfl, hb, hcc⟩ := hc (by omega)
    obtain ⟨b', o', sp', rfl, hb', hcc'⟩ := hc' (by omega)
    haveI := tim_agg hcc rfl hlt
    haveI := tim_agg hcc' rfl hlt
    refine stp ?_
    rw [same_self]
    exact loop2a 5 6 (l.length - (k + 1)) (by omega) ⟨k + 1, by omega, rfl, rfl, rfl, rfl⟩
  · refine stp ?_
    exact ⟨rfl, rfl⟩
theorem OverTims_ok {h : Heap} {v : Value} {c : List Value} {n : Nat} (ho : Own h 2 v c n) (hs : n < 1048576) :
    Runs Try.prog T0 (.fn fn_ziQ) [v] h (fun r h' => Fr (ownedBy v) h h') (fun _ _ => False) := by
  refine ziQ_runs ?_
  cases ho with
  | none =>
    refine stp ?_
    refine loop1 ziQ_l0_M 2 (fun m v2 h' => v2 = .int .i64 0 ∧ h' = h) ?_ 0 ⟨rfl, rfl⟩
    rintro m v2 h' x3 x4 x5 x6 x7 x8 x9 x10 x11 x12 ⟨rfl, rfl⟩
    refine stp ?_
    exact Fr.refl
  | lit hq hg =>
    refine stp ?_
    refine loop1 ziQ_l0_M 2 (fun m v2 h' => v2 = .int .i64 0 ∧ h' = h) ?_ 0 ⟨rfl, rfl⟩
    rintro m v2 h' x3 x4 x5 x6 x7 x8 x9 x10 x11 x12 ⟨rfl, rfl⟩
    refine stp ?_
    exact Fr.refl
  | grown hq hn hle hl hl2 hg =>
    rename_i q kk cap j
    refine stp ?_
    refine loop1 ziQ_l0_M 2 (fun m v2 h' => ∃ k : Nat, k ≤ n ∧ m = n - k ∧ v2 = .int .i64 k ∧ (∃ cs, h'.get q = .cells cs 2 ∧ cs.length = cap * 2) ∧ Fr (ownedBy (.slice (some ⟨q, 0, some kk⟩) n cap)) h h') ?_ n ⟨0, by omega, rfl, rfl, ⟨_, hg, hl2⟩, Fr.refl⟩
    rintro m v2 h' x3 x4 x5 x6 x7 x8 x9 x10 x11 x12 ⟨k, hk, rfl, rfl, ⟨cs, hg', hcs⟩, hf⟩
    haveI : HGet h' q _ := ⟨hg'⟩
    refine stp ?_
    refine C.if (fun hlt => ?_) (fun hge => ?_)
    · refine stp ?_
      refine O.by0 (mkStoreN (xs := [.int .i64 (-77), .int .i64 (-77)]) (c := cs) (r := q) (es := 2) (by simp; omega) rfl rfl) rfl ?_
      refine stp ?_
      refine loop1a 2 (n - (k + 1)) (by omega) ⟨k + 1, by omega, rfl, rfl, ⟨_, by rw [Heap.get_set, if_pos rfl], ?_⟩, Fr.set hf fun _ => rfl⟩
      rw [over_length _ _ _ (by simp; omega), hcs]
    · refine stp ?_
      exact hf
end Go.Proofs.Ytfmpaoolplnpjaa.A

namespace Go.Proofs.Ytfmpaoolplnpjaa.A
open Go Go.Vm
set_option maxRecDepth 10000
set_option linter.unusedVariables false
section
variable {h h' : Heap} {p n : Nat} {L : List LT} {W : Nat → Prop}
theorem wLenV_ok (hv : WV h p n L W) : Runs Try.prog T0 (.fn fn_zybQ) [.pointer (some ⟨p, 0, none⟩)] h (fun r h' => r = .int .i64 L.length ∧ h' = h) (fun _ _ => False) := by
  obtain ⟨m, c, u, S, l, hs, hp, hw⟩ := hv.kp
  have hLl : l.length = L.length := by have := hp.length_eq; rwa [List.length_map] at this
  rw [← hLl]
  exact wLen_ok hs
end
end Go.Proofs.Ytfmpaoolplnpjaa.A

namespace Go.Proofs.Ytfmpaoolplnpjaa.A
open Go Go.Vm
set_option maxRecDepth 10000
set_option linter.unusedVariables false
theorem SameInts_n {h : Heap} {v w : Value} {l : List Int} {n : Nat} (hv : Rd h 1 v (ncells l) n) (hw : Rd h 1 w (ncells l) n) (hn : l.length = n) (hs : n < 1048576) :
    Runs Try.prog T0 (.fn fn_zjQ) [v, w] h (fun r h' => r = .bool true ∧ h' = h) (fun _ _ => False) := by
  subst hn
  exact SameInts_same hv hw hs
end Go.Proofs.Ytfmpaoolplnpjaa.A

set_option maxRecDepth 100000
set_option linter.unusedVariables false
namespace Go.Proofs.Ytfmpaoolplnpjaa.A
open Go Go.Vm
abbrev fn_zlQ : FuncId := 5
def zlQ_l0 : ACode :=
 (.seq (.seq (.region [
 o1 47 (.mov (tm 7)),
 o1 48 (.eq .ptr true (so (.binOp .neq 46 (tm 47) (.const (.pointer none)) 46) 4) (tm 47) (.const (.pointer none))),
 o1 49 (.mov (tm 48)),
 o4 50 (.mov (tm 9)) 49,
 o4 51 (.mov (tm 1)) 49,
 o4 52 (.lenSl (tm 51)) 49,
 o4 53 (.bin .lss (so (.binOp .lss 3 (tm 50) (tm 52) 3) 4) (tm 50) (tm 52)) 49,
 o1 54 (.pick (tm 49) (tm 53) (.const (.bool false)))]) (.cond (tm 54)
 .skip
 (.exit 0))) (.seq (.block 1 (.seq (.region [
 o1 57 (.mov (tm 1)),
 o1 58 (.mov (tm 9)),
 o1 59 (.indexSl 3 (tm 57) (tm 58)),
 o1 60 (.load (some 3) (tm 59)),
 o1 10 (.alloc 50 [(.int .i64 0), (.int .i64 0), (.int .i64 0)]),
 o3 (.store 3 (tm 10) (tm 60)),
 o1 11 (.mov (.const (.bool true)))]) (.seq (.seq (.region [
 o1 61 (.fieldAddr 0 (tm 10)),
 o1 62 (.load none (tm 61))]) (.block 2 (.seq (.region [
 o1 64 (.bin .eql (so (.binOp .eql 3 (tm 62) k0 3) 4) (tm 62) k0),
 o1 63 (.mov (tm 64))]) (.cond (tm 63)
 (.regionD [
 o1 65 (.mov (tm 5)),
 o1 66 (.fieldAddr 1 (tm 10)),
 o1 67 (.load none (tm 66)),
 o1 68 (.fieldAddr 2 (tm 10)),
 o1 69 (.load none (tm 68)),
 o1 71 (.mov (tm 7)),
 o1 72 (.fieldAddr 1 (tm 10)),
 o1 73 (.load none (tm 72)),
 o1 74 (.fieldAddr 2 (tm 10)),
 o1 75 (.load none (tm 74)),
 ⟨some 70, .callV (.func 14) [(tm 65), (tm 67), (tm 69)], none, [(some 75, .load none (tm 74), none), (some 74, .fieldAddr 2 (tm 10), none), (some 73, .load none (tm 72), none), (some 72, .fieldAddr 1 (tm 10), none), (some 71, .mov (tm 7), none)], false⟩,
 o2 76 (.callV (.func 23) [(tm 71), (tm 73), (tm 75)]),
 o2 77 (.bin .eql (so (.binOp .eql 24 (tm 70) (tm 76) 24) 4) (tm 70) (tm 76)),
 o2 11 (.mov (tm 77))])
 (.seq (.region [
 o1 79 (.bin .eql (so (.binOp .eql 3 (tm 62) (.const (.int .i64 1)) 3) 4) (tm 62) (.const (.int .i64 1))),
 o1 78 (.mov (tm 79))]) (.cond (tm 78)
 (.regionD [
 o1 80 (.mov (tm 5)),
 o1 81 (.fieldAddr 1 (tm 10)),
 o1 82 (.load none (tm 81)),
 o1 84 (.mov (tm 7)),
 o1 85 (.fieldAddr 1 (tm 10)),
 o1 86 (.load none (tm 85)),
 ⟨some 83, .callV (.func 15) [(tm 80), (tm 82)], none, [(some 86, .load none (tm 85), none), (some 85, .fieldAddr 1 (tm 10), none), (some 84, .mov (tm 7), none)], false⟩,
 o2 87 (.callV (.func 24) [(tm 84), (tm 86)]),
 o2 88 (.bin .eql (so (.binOp .eql 4 (tm 83) (tm 87) 4) 4) (tm 83) (tm 87)),
 o2 11 (.mov (tm 88))])
 (.seq (.region [
 o1 90 (.bin .eql (so (.binOp .eql 3 (tm 62) (.const (.int .i64 2)) 3) 4) (tm 62) (.const (.int .i64 2))),
 o1 89 (.mov (tm 90))]) (.cond (tm 89)
 (.seq (.region [
 o1 91 (.mov (tm 5)),
 o1 92 (.fieldAddr 2 (tm 10)),
 o1 93 (.load none (tm 92)),
 o1 94 (.callV (.func 13) [(tm 91), (tm 93)]),
 o1 12 (.mov (tm 94))]) (.seq (.region [
 o1 95 (.mov (tm 12)),
 o1 96 (.mov (tm 7)),
 o1 97 (.fieldAddr 2 (tm 10)),
 o1 98 (.load none (tm 97)),
 o1 99 (.callV (.func 25) [(tm 96), (tm 98)]),
 o1 100 (.callV (.func 20) [(tm 95), (tm 99)]),
 o1 11 (.mov (tm 100))]) (.region [
 o1 101 (.mov (tm 12)),
 o1 102 (.callV (.func 26) [(tm 101)])])))
 .skip)))))))) (.seq (.region [
 o1 104 (.mov (tm 5)),
 o1 105 (.fieldAddr 1 (tm 10)),
 o1 106 (.load none (tm 105)),
 o1 107 (.callV (.func 16) [(tm 104), (tm 106)]),
 o1 103 (.mov (tm 107)),
 o1 108 (.extract 0 (tm 103)),
 o1 109 (.extract 1 (tm 103)),
 o1 13 (.mov (tm 108)),
 o1 14 (.mov (tm 109))]) (.seq (.region [
 o1 111 (.mov (tm 7)),
 o1 112 (.fieldAddr 1 (tm 10)),
 o1 113 (.load none (tm 112)),
 o1 114 (.callV (.func 27) [(tm 111), (tm 113)]),
 o1 110 (.mov (tm 114)),
 o1 115 (.extract 0 (tm 110)),
 o1 116 (.extract 1 (tm 110)),
 o1 15 (.mov (tm 115)),
 o1 16 (.mov (tm 116))]) (.seq (.region [
 o1 118 (.mov (tm 5)),
 o1 119 (.callV (.func 10) [(tm 118)]),
 o1 117 (.mov (tm 119)),
 o1 120 (.extract 0 (tm 117)),
 o1 121 (.extract 1 (tm 117)),
 o1 17 (.mov (tm 120)),
 o1 18 (.mov (tm 121))]) (.seq (.region [
 o1 123 (.mov (tm 7)),
 o1 124 (.callV (.func 28) [(tm 123)]),
 o1 122 (.mov (tm 124)),
 o1 125 (.extract 0 (tm 122)),
 o1 126 (.extract 1 (tm 122)),
 o1 19 (.mov (tm 125)),
 o1 20 (.mov (tm 126))]) (.seq (.regionD [
 o1 127 (.mov (tm 5)),
 o1 129 (.mov (tm 5)),
 o1 130 (.fieldAddr 2 (tm 10)),
 o1 131 (.load none (tm 130)),
 ⟨some 128, .callV (.func 29) [(tm 127)], none, [(some 131, .load none (tm 130), none), (some 130, .fieldAddr 2 (tm 10), none), (some 129, .mov (tm 5), none)], false⟩,
 o2 132 (.callV (.func 12) [(tm 129), (tm 131)]),
 o2 21 (.mov (tm 128)),
 o2 22 (.mov (tm 132))]) (.seq (.seq (.regionD [
 o2 133 (.mov (tm 11)),
 o2 134 (.raw (so (.unOp .not 4 (tm 133)) 4)),
 o2 135 (.mov (tm 134)),
 o5 136 (.mov (tm 13)) 135,
 o5 137 (.mov (tm 15)) 135,
 ⟨some 138, .bin .neq (so (.binOp .neq 3 (tm 136) (tm 137) 3) 4) (tm 136) (tm 137), some (135, false), [], true⟩,
 o2 139 (.pick (tm 135) (.const (.bool true)) (tm 138)),
 o2 140 (.mov (tm 139)),
 o5 141 (.mov (tm 14)) 140,
 o5 142 (.mov (tm 16)) 140,
 ⟨some 143, .bin .neq (so (.binOp .neq 4 (tm 141) (tm 142) 4) 4) (tm 141) (tm 142), some (140, false), [], true⟩,
 o2 144 (.pick (tm 140) (.const (.bool true)) (tm 143)),
 o2 145 (.mov (tm 144)),
 o5 146 (.mov (tm 17)) 145,
 o5 147 (.mov (tm 19)) 145,
 ⟨some 148, .bin .neq (so (.binOp .neq 3 (tm 146) (tm 147) 3) 4) (tm 146) (tm 147), some (145, false), [], true⟩,
 o2 149 (.pick (tm 145) (.const (.bool true)) (tm 148)),
 o2 150 (.mov (tm 149)),
 o5 151 (.mov (tm 18)) 150,
 o5 152 (.mov (tm 20)) 150,
 ⟨some 153, .bin .neq (so (.binOp .neq 4 (tm 151) (tm 152) 4) 4) (tm 151) (tm 152), some (150, false), [], true⟩,
 o2 154 (.pick (tm 150) (.const (.bool true)) (tm 153)),
 o2 155 (.mov (tm 154)),
 o5 156 (.mov (tm 5)) 155,
 o5 158 (.mov (tm 7)) 155,
 o5 159 (.nilCheck (tm 158)) 155,
 o5 160 (.fieldAddr 1 (tm 159)) 155,
 o5 161 (.load none (tm 160)) 155,
 o5 162 (.lenSl (tm 161)) 155,
 ⟨some 157, .callV (.func 21) [(tm 156)], some (155, false), [(some 162, .lenSl (tm 161), some (155, false)), (some 161, .load none (tm 160), some (155, false)), (some 160, .fieldAddr 1 (tm 159), some (155, false)), (some 159, .nilCheck (tm 158), some (155, false)), (some 158, .mov (tm 7), some (155, false))], false⟩,
 ⟨some 163, .bin .neq (so (.binOp .neq 3 (tm 157) (tm 162) 3) 4) (tm 157) (tm 162), some (155, false), [], true⟩,
 o2 164 (.pick (tm 155) (.const (.bool true)) (tm 163)),
 o2 165 (.mov (tm 164)),
 o5 166 (.mov (tm 21)) 165,
 o5 167 (.mov (tm 7)) 165,
 o5 168 (.nilCheck (tm 167)) 165,
 o5 169 (.fieldAddr 1 (tm 168)) 165,
 o5 170 (.load none (tm 169)) 165,
 ⟨some 171, .callV (.func 11) [(tm 166), (tm 170)], some (165, false), [], true⟩,
 ⟨some 172, .raw (so (.unOp .not 4 (tm 171)) 4), some (165, false), [], true⟩,
 o2 173 (.pick (tm 165) (.const (.bool true)) (tm 172)),
 o2 174 (.mov (tm 173)),
 o5 175 (.mov (tm 22)) 174,
 o5 176 (.mov (tm 7)) 174,
 o5 177 (.fieldAddr 2 (tm 10)) 174,
 o5 178 (.load none (tm 177)) 174,
 ⟨some 179, .callV (.func 30) [(tm 176), (tm 178)], some (174, false), [(some 175, .mov (tm 22), some (174, false))], false⟩,
 ⟨some 180, .callV (.func 11) [(tm 175), (tm 179)], some (174, false), [], true⟩,
 ⟨some 181, .raw (so (.unOp .not 4 (tm 180)) 4), some (174, false), [], true⟩,
 o2 182 (.pick (tm 174) (.const (.bool true)) (tm 181))]) (.cond (tm 182)
 (.seq (.region [
 o1 4 (.mov (.const (.bool false)))]) .ret)
 .skip)) (.seq (.region [
 o1 183 (.mov (tm 21)),
 o1 184 (.callV (.func 31) [(tm 183)])]) (.region [
 o1 185 (.mov (tm 22)),
 o1 186 (.callV (.func 31) [(tm 185)])]))))))))))) (.region [
 o1 55 (.mov (tm 9)),
 o1 56 (.bin .add (so (.binOp .add 3 (tm 55) (.const (.int .i64 1)) 3) 3) (tm 55) (.const (.int .i64 1))),
 o1 9 (.mov (tm 56))])))
def zlQ_c : ACode :=
 (.seq (.region [
 o1 4 (.mov (.const (.bool false)))]) (.seq (.seq (.region [
 o1 23 (.mov (tm 1)),
 o1 24 (.lenSl (tm 23)),
 o1 25 (.bin .gtr (so (.binOp .gtr 3 (tm 24) (.const (.int .i64 60)) 3) 4) (tm 24) (.const (.int .i64 60)))]) (.cond (tm 25)
 (.seq (.region [
 o1 26 (.callV (.func 17) []),
 o1 4 (.mov (tm 26))]) .ret)
 .skip)) (.seq (.region [
 o1 28 (.mov (tm 0)),
 o1 29 (.callV (.func 9) [(tm 28)]),
 o1 27 (.mov (tm 29)),
 o1 30 (.extract 0 (tm 27)),
 o1 31 (.extract 1 (tm 27)),
 o1 5 (.mov (tm 30)),
 o1 6 (.mov (tm 31))]) (.seq (.region [
 o1 33 (.mov (tm 0)),
 o1 34 (.callV (.func 22) [(tm 33)]),
 o1 32 (.mov (tm 34)),
 o1 35 (.extract 0 (tm 32)),
 o1 36 (.extract 1 (tm 32)),
 o1 7 (.mov (tm 35)),
 o1 8 (.mov (tm 36))]) (.seq (.seq (.region [
 o1 37 (.mov (tm 6)),
 o1 38 (.mov (tm 8)),
 o1 39 (.bin .neq (so (.binOp .neq 24 (tm 37) (tm 38) 24) 4) (tm 37) (tm 38)),
 o1 40 (.mov (tm 39)),
 o5 41 (.mov (tm 5)) 40,
 o5 42 (.eq .ptr false (so (.binOp .eql 22 (tm 41) (.const (.pointer none)) 22) 4) (tm 41) (.const (.pointer none))) 40,
 o5 43 (.mov (tm 7)) 40,
 o5 44 (.eq .ptr false (so (.binOp .eql 46 (tm 43) (.const (.pointer none)) 46) 4) (tm 43) (.const (.pointer none))) 40,
 o5 45 (.bin .neq (so (.binOp .neq 4 (tm 42) (tm 44) 4) 4) (tm 42) (tm 44)) 40,
 o1 46 (.pick (tm 40) (.const (.bool true)) (tm 45))]) (.cond (tm 46)
 (.seq (.region [
 o1 4 (.mov (.const (.bool false)))]) .ret)
 .skip)) (.seq (.seq (.region [
 o1 9 (.mov k0)]) (.block 0 (.loop zlQ_l0))) (.seq (.region [
 o1 187 (.callV (.func 17) []),
 o1 4 (.mov (tm 187))]) .ret)))))))
def zlQ : AFunc := ⟨188, [(4, none)], zlQ_c, none⟩
theorem zlQ_t0 : tableOf Try.prog 5 = some zlQ := by kernel_rfl
theorem zlQ_t : T0 5 = some zlQ := withKept_t rfl (withTrue_t rfl zlQ_t0)
theorem zlQ_runs {v0 v1 : Value} {h : Heap} {R : RP} {X : XP} (k : RunC Try.prog T0 zlQ_c ⟨[v0, v1, U, U, U, U, U, U, U, U, U, U, U, U, U, U, U, U, U, U, U, U, U, U, U, U, U, U, U, U, U, U, U, U, U, U, U, U, U, U, U, U, U, U, U, U, U, U, U, U, U, U, U, U, U, U, U, U, U, U, U, U, U, U, U, U, U, U, U, U, U, U, U, U, U, U, U, U, U, U, U, U, U, U, U, U, U, U, U, U, U, U, U, U, U, U, U, U, U, U, U, U, U, U, U, U, U, U, U, U, U, U, U, U, U, U, U, U, U, U, U, U, U, U, U, U, U, U, U, U, U, U, U, U, U, U, U, U, U, U, U, U, U, U, U, U, U, U, U, U, U, U, U, U, U, U, U, U, U, U, U, U, U, U, U, U, U, U, U, U, U, U, U, U, U, U, U, U, U, U, U, U, U, U, U, U, U, U], [], h, none⟩ (bodyQ Try.prog T0 [(4, none)] R X)) :
 Runs Try.prog T0 (.fn 5) [v0, v1] h R X := Runs.fn zlQ_t rfl k
abbrev zlQ_l0_M : List Nat := [0, 0, 0, 0, 1, 0, 0, 0, 0, 2, 1, 1, 1, 1, 1, 1, 1, 1, 1, 1, 1, 1, 1, 0, 0, 0, 0, 0, 0, 0, 0, 0, 0, 0, 0, 0, 0, 0, 0, 0, 0, 0, 0, 0, 0, 0, 0, 1, 1, 1, 1, 1, 1, 1, 1, 1, 1, 1, 1, 1, 1, 1, 1, 1, 1, 1, 1, 1, 1, 1, 1, 1, 1, 1, 1, 1, 1, 1, 1, 1, 1, 1, 1, 1, 1, 1, 1, 1, 1, 1, 1, 1, 1, 1, 1, 1, 1, 1, 1, 1, 1, 1, 1, 1, 1, 1, 1, 1, 1, 1, 1, 1, 1, 1, 1, 1, 1, 1, 1, 1, 1, 1, 1, 1, 1, 1, 1, 1, 1, 1, 1, 1, 1, 1, 1, 1, 1, 1, 1, 1, 1, 1, 1, 1, 1, 1, 1, 1, 1, 1, 1, 1, 1, 1, 1, 1, 1, 1, 1, 1, 1, 1, 1, 1, 1, 1, 1, 1, 1, 1, 1, 1, 1, 1, 1, 1, 1, 1, 1, 1, 1, 1, 1, 1, 1, 1, 1, 0]
end Go.Proofs.Ytfmpaoolplnpjaa.A

namespace Go.Proofs.Ytfmpaoolplnpjaa.A
open Go Go.Vm
set_option maxRecDepth 10000
set_option linter.unusedVariables false
structure AC where
  kind : Int
  id : Int
  tm : Int
abbrev AC.cells (e : AC) : List Value := [.int .i64 e.kind, .int .i64 e.id, .int .i64 e.tm]
def acells (l : List AC) : List Value := l.flatMap AC.cells
def zAC : AC := ⟨0, 0, 0⟩
theorem acells_cons (a : AC) (l : List AC) : acells (a :: l) = a.cells ++ acells l := rfl
theorem acells_len : ∀ (l : List AC), (acells l).length = l.length * 3
  | [] => rfl
  | a :: l => by
    rw [acells_cons, List.length_append, acells_len l, List.length_cons]
    simp
    omega
theorem acells_at : ∀ {l : List AC} {k : Nat}, k < l.length → ((acells l).drop (k * 3)).take 3 = (l.getD k zAC).cells
  | a :: l, 0, _ => rfl
  | a :: l, k + 1, hk => by
    have h2 := acells_at (l := l) (k := k) (by simpa using hk)
    rw [acells_cons, show (k + 1) * 3 = a.cells.length + k * 3 from by simp; omega, ← List.drop_drop, List.drop_left]
    exact h2
theorem act_cells {h : Heap} {b o n k : Nat} {l : List AC} (hc : cellsAt h b o (n * 3) = some (acells l)) (hn : l.length = n) (hk : k < n) : Cells h b (o + k * 3) 3 (l.getD k zAC).cells := ⟨by
  rw [cellsAt_sub hc (by omega), acells_at (by omega)]⟩
theorem set_len (L : List LT) (k d : Int) : (setS L k d).1.length ≤ L.length + 1 := by
  unfold setS
  split
  · exact Nat.le_succ _
  · split
    · exact Nat.le_succ _
    · show (insT _ L).length ≤ _
      rw [(ins_perm _ L).length_eq, List.length_cons]
      exact Nat.le_refl _
theorem stop_len (L : List LT) (k : Int) : (stopS L k).length ≤ L.length := by
  unfold stopS
  split
  · exact List.length_filter_le ..
  · exact Nat.le_refl _
structure Bo (m : Nat) (h : Heap) (p d n : Nat) (L : List LT) (W Dp : Nat → Prop) : Prop where
  pm : WV h p n L W
  dm : DV h d n L Dp
  wn : ∀ i, W i → m ≤ i
  dn : ∀ i, Dp i → m ≤ i
  dj : ∀ i, W i → ¬ Dp i
section
variable {m p d n : Nat} {h h' h'' : Heap} {L L' : List LT} {W Dp : Nat → Prop}
theorem Bo.keep {T : Nat → Prop} (hb : Bo m h p d n L W Dp) (hf : Fr T h h') (h1 : ∀ i, W i → ¬ T i) (h2 : ∀ i, Dp i → ¬ T i) : Bo m h' p d n L W Dp := ⟨hb.pm.keep hf h1, hb.dm.keep hf h2, hb.wn, hb.dn, hb.dj⟩
theorem Bo.dv (hb : Bo m h p d n L W Dp) (hf : Fr W h h') : DV h' d n L Dp := hb.dm.keep hf fun i hi hw => hb.dj i hw hi
theorem Bo.step (hb : Bo m h p d n L W Dp) (hn : m ≤ h.n) (ha : WAfter h p n W L' h') (hd : DAfter h' d n Dp L' h'') : ∃ W' D', Bo m h'' p d n L' W' D' ∧ Fr (fun i => m ≤ i) h h'' := by
  obtain ⟨W', a1, a2, a3⟩ := ha
  obtain ⟨D', d1, d2, d3⟩ := hd
  have n1 := a3.n
  have hdp := hb.dn d hb.dm.hp
  have hWd : ∀ i, W' i → i ≠ d := fun i hi e => by
    rcases a2 i hi with q | q
    · exact hb.dj i q (by rw [e]; exact hb.dm.hp)
    · have := hb.dm.lt _ hb.dm.hp; omega
  refine ⟨W', D', ⟨a1.keep d3 hWd, d1, fun i hi => (a2 i hi).elim (hb.wn i) fun q => by omega, fun i hi => (d2 i hi).elim (hb.dn i) fun q => by omega, fun i hi hi2 => ?_⟩, ?_⟩
  · have hlt := a1.lt hi
    rcases d2 i hi2 with q | q
    · rcases a2 i hi with k | k
      · exact hb.dj i k q
      · have := hb.dm.lt _ q; omega
    · omega
  · exact (a3.mono fun i _ hi => hb.wn i hi).trans' (d3.mono fun i _ hi => by rw [hi]; exact hdp)
end
set_option maxHeartbeats 400000000 in
theorem WheelActs_true {h : Heap} {slots : Int} {v : Value} {l : List AC} (hv : Rd h 3 v (acells l) l.length) :
    Runs Try.prog T0 (.fn fn_zlQ) [.int .i64 slots, v] h (fun r h' => r = .bool true) (fun _ _ => False) := by
  obtain ⟨av, cv, rfl, hvl, hvc⟩ := id hv
  haveI qs : ∀ {ts : List Value} {h : Heap} {Q0 : Oper} {x z : Operand} {p : Int} [Ev ts x (.int .i64 p)] [Ev ts z (.int .i64 p)], XOp Try.prog ts h (.bin .eql Q0 x z) (.bool true) h := xeql1 rfl
  haveI qn : ∀ {ts : List Value} {h : Heap} {Q0 : Oper} {x z : Operand} {p : Int} [Ev ts x (.int .i64 p)] [Ev ts z (.int .i64 p)], XOp Try.prog ts h (.bin .neq Q0 x z) (.bool false) h := xneqI0 rfl
  haveI qbe : ∀ {ts : List Value} {h : Heap} {x z : Operand} {t t' ty : TypeId} {b : Bool} [IsBoolT Try.prog t] [Ev ts x (.bool b)] [Ev ts z (.bool b)], XOp Try.prog ts h (.bin .eql (so (.binOp .eql t x z t') ty) x z) (.bool true) h := fun {ts h x z t t' ty b} i e1 e2 => by
    have := (XOp.eqlB : XOp Try.prog ts h (.bin .eql (so (.binOp .eql t x z t') ty) x z) (.bool (b == b)) h)
    rwa [beq_self_eq_true] at this
  haveI qbn : ∀ {ts : List Value} {h : Heap} {x z : Operand} {t t' ty : TypeId} {b : Bool} [IsBoolT Try.prog t] [Ev ts x (.bool b)] [Ev ts z (.bool b)], XOp Try.prog ts h (.bin .neq (so (.binOp .neq t x z t') ty) x z) (.bool false) h := fun {ts h x z t t' ty b} i e1 e2 => by
    have := (XOp.neqB : XOp Try.prog ts h (.bin .neq (so (.binOp .neq t x z t') ty) x z) (.bool (!(b == b))) h)
    rwa [beq_self_eq_true] at this
  refine zlQ_runs ?_
  refine stp ?_
  refine C.if (fun hlong => ?_) (fun hlong => ?_)
  · refine stp ?_
    refine O.call' znQ_known (fun r h2 hr => ?_)
    obtain ⟨rfl, rfl⟩ := hr
    refine stp ?_
    rfl
  have h60 : l.length ≤ 60 := by omega
  refine stp ?_
  refine O.call' wNew_ok (fun r h2 hr => ?_)
  obtain ⟨f2, hr⟩ := hr
  rcases hr with ⟨hbad, rfl⟩ | ⟨hroom, p, W, rfl, hm, hW⟩
  · refine stp ?_
    refine O.call' DNew_ok (fun r h3 hr => ?_)
    obtain ⟨f3, hr⟩ := hr
    rcases hr with ⟨_, rfl⟩ | ⟨hroom, _⟩
    · refine stp ?_
      refine loop1 zlQ_l0_M 9 (fun q v9 hx => v9 = .int .i64 0) ?_ 0 rfl
      rintro m v9 h' x4 x10 x11 x12 x13 x14 x15 x16 x17 x18 x19 x20 x21 x22 x47 x48 x49 x50 x51 x52 x53 x54 x55 x56 x57 x58 x59 x60 x61 x62 x63 x64 x65 x66 x67 x68 x69 x70 x71 x72 x73 x74 x75 x76 x77 x78 x79 x80 x81 x82 x83 x84 x85 x86 x87 x88 x89 x90 x91 x92 x93 x94 x95 x96 x97 x98 x99 x100 x101 x102 x103 x104 x105 x106 x107 x108 x109 x110 x111 x112 x113 x114 x115 x116 x117 x118 x119 x120 x121 x122 x123 x124 x125 x126 x127 x128 x129 x130 x131 x132 x133 x134 x135 x136 x137 x138 x139 x140 x141 x142 x143 x144 x145 x146 x147 x148 x149 x150 x151 x152 x153 x154 x155 x156 x157 x158 x159 x160 x161 x162 x163 x164 x165 x166 x167 x168 x169 x170 x171 x172 x173 x174 x175 x176 x177 x178 x179 x180 x181 x182 x183 x184 x185 x186 rfl
      refine stp ?_
      refine O.call' znQ_known (fun r h2 hr => ?_)
      obtain ⟨rfl, rfl⟩ := hr
      refine stp ?_
      rfl
    · omega
  refine stp ?_
  refine O.call' DNew_ok (fun r h3 hr => ?_)
  obtain ⟨f3, hr⟩ := hr
  rcases hr with ⟨hbad, _⟩ | ⟨_, d, Dp, rfl, hd, hD⟩
  · omega
  have n2 := f2.n
  have n3 := f3.n
  generalize slots.toNat = n at *
  obtain ⟨hn1, hn2⟩ := hm.n1
  refine stp ?_
  refine loop1 zlQ_l0_M 9 (fun q v9 hx => ∃ (k : Nat) (L : List LT) (W Dp : Nat → Prop), k ≤ l.length ∧ q = l.length - k ∧ v9 = .int .i64 k ∧ Bo h.n hx p d n L W Dp ∧ L.length ≤ k ∧ Fr (fun _ => False) h hx) ?_ l.length ⟨0, [], W, Dp, by omega, rfl, rfl, ⟨hm.keep f3 fun _ _ => id, hd, hW, fun i hi => by have := hD i hi; omega, fun i hi hi2 => by have := hm.lt hi; have := hD i hi2; omega⟩, by simp, f2.trans' f3⟩
  clear hm hW hd hD f2 f3 n2 n3
  rintro m v9 h' x4 x10 x11 x12 x13 x14 x15 x16 x17 x18 x19 x20 x21 x22 x47 x48 x49 x50 x51 x52 x53 x54 x55 x56 x57 x58 x59 x60 x61 x62 x63 x64 x65 x66 x67 x68 x69 x70 x71 x72 x73 x74 x75 x76 x77 x78 x79 x80 x81 x82 x83 x84 x85 x86 x87 x88 x89 x90 x91 x92 x93 x94 x95 x96 x97 x98 x99 x100 x101 x102 x103 x104 x105 x106 x107 x108 x109 x110 x111 x112 x113 x114 x115 x116 x117 x118 x119 x120 x121 x122 x123 x124 x125 x126 x127 x128 x129 x130 x131 x132 x133 x134 x135 x136 x137 x138 x139 x140 x141 x142 x143 x144 x145 x146 x147 x148 x149 x150 x151 x152 x153 x154 x155 x156 x157 x158 x159 x160 x161 x162 x163 x164 x165 x166 x167 x168 x169 x170 x171 x172 x173 x174 x175 x176 x177 x178 x179 x180 x181 x182 x183 x184 x185 x186 ⟨k, L, W, Dp, hk, rfl, rfl, hB, hBd, hF⟩
  rcases Nat.lt_or_ge k l.length with hlt | hge
  case inr =>
    haveI q1 : ∀ {ts : List Value} {h : Heap} {Q0 : Oper} {x z : Operand} [Ev ts x (.int .i64 (k : Nat))] [Ev ts z (.int .i64 (l.length : Nat))], XOp Try.prog ts h (.bin .lss Q0 x z) (.bool false) h := xlss0 (by omega)
    refine stp ?_
    refine O.call' znQ_known (fun r h2 hr => ?_)
    obtain ⟨rfl, rfl⟩ := hr
    refine stp ?_
    rfl
  haveI q1 : ∀ {ts : List Value} {h : Heap} {Q0 : Oper} {x z : Operand} [Ev ts x (.int .i64 (k : Nat))] [Ev ts z (.int .i64 (l.length : Nat))], XOp Try.prog ts h (.bin .lss Q0 x z) (.bool true) h := xlss1 (by omega)
  obtain ⟨b, o, sp, rfl, hb, hcc⟩ := hvc (by omega)
  have hcc' : cellsAt h' b o (l.length * 3) = some (acells l) := (cellsAt_keep hF hb id).trans hcc
  have hcel := act_cells hcc' rfl hlt
  generalize l.getD k zAC = A at *
  haveI := hcel
  have nF := hF.n
  refine stp ?_
  have F3 : Fr (fun _ => False) h' (h'.push (.cells [.int .i64 A.kind, .int .i64 A.id, .int .i64 A.tm] 0)) := Fr.refl.push
  have g3 : (h'.push (.cells [.int .i64 A.kind, .int .i64 A.id, .int .i64 A.tm] 0)).get h'.n = .cells [.int .i64 A.kind, .int .i64 A.id, .int .i64 A.tm] 0 := HGet.new.eq
  have n3 : (h'.push (.cells [.int .i64 A.kind, .int .i64 A.id, .int .i64 A.tm] 0)).n = h'.n + 1 := rfl
  have hWl := fun {i : Nat} (hi : W i) => hB.pm.lt hi
  have hDl := fun {i : Nat} (hi : Dp i) => hB.dm.lt i hi
  generalize h'.push (.cells [.int .i64 A.kind, .int .i64 A.id, .int .i64 A.tm] 0) = h3 at *
  have F0 := hF.trans' F3
  have hB3 := hB.keep F3 (fun _ _ => id) (fun _ _ => id)
  have hdp := hB3.dn d hB3.dm.hp
  have hso := hB3.pm.so
  have hnd := hB3.pm.nd
  refine cut1 [0, 0, 0, 0, 0, 0, 0, 0, 0, 0, 0, 2, 1, 0, 0, 0, 0, 0, 0, 0, 0, 0, 0, 0, 0, 0, 0, 0, 0, 0, 0, 0, 0, 0, 0, 0, 0, 0, 0, 0, 0, 0, 0, 0, 0, 0, 0, 0, 0, 0, 0, 0, 0, 0, 0, 0, 0, 0, 0, 0, 0, 0, 0, 0, 0, 1, 1, 1, 1, 1, 1, 1, 1, 1, 1, 1, 1, 1, 1, 1, 1, 1, 1, 1, 1, 1, 1, 1, 1, 1, 1, 1, 1, 1, 1, 1, 1, 1, 1, 1, 1, 1, 1, 0, 0, 0, 0, 0, 0, 0, 0, 0, 0, 0, 0, 0, 0, 0, 0, 0, 0, 0, 0, 0, 0, 0, 0, 0, 0, 0, 0, 0, 0, 0, 0, 0, 0, 0, 0, 0, 0, 0, 0, 0, 0, 0, 0, 0, 0, 0, 0, 0, 0, 0, 0, 0, 0, 0, 0, 0, 0, 0, 0, 0, 0, 0, 0, 0, 0, 0, 0, 0, 0, 0, 0, 0, 0, 0, 0, 0, 0, 0, 0, 0, 0, 0, 0, 0] .normal (fun v hz => v = .bool true ∧ ∃ (L' : List LT) (W' D' : Nat → Prop), Bo h.n hz p d n L' W' D' ∧ L'.length ≤ k + 1 ∧ hz.get h'.n = .cells [.int .i64 A.kind, .int .i64 A.id, .int .i64 A.tm] 0 ∧ h3.n ≤ hz.n ∧ Fr (fun _ => False) h hz) ?_ ?_
  · haveI : HGet h3 h'.n _ := ⟨g3⟩
    have hkeep : ∀ {h4 h5 : Heap}, Fr W h3 h4 → Fr (fun i => i = d) h4 h5 → h5.get h'.n = .cells [.int .i64 A.kind, .int .i64 A.id, .int .i64 A.tm] 0 := fun {h4 h5} f4 f5 => by
      rw [f5.get _ (by have := f4.n; omega) fun e => by have := hDl hB.dm.hp; omega, f4.get _ (by omega) fun q => by have := hWl q; omega]
      exact g3
    refine C.if (fun hk0 => ?_) (fun hk0 => ?_)
    · refine stp ?_
      refine D.callX (wSet_ok hB3.pm (by omega)) (fun r h4 hr => ?_) (fun r h4 hr => ?_) (fun _ _ hx => hx.elim)
      · obtain ⟨rfl, _, _, _, f4⟩ := hr
        haveI : HGet h4 h'.n _ := ⟨(f4.get _ (by omega) fun q => by have := hWl q; omega).trans g3⟩
        repeat refine stab_cons inferInstance ?_
        rfl
      obtain ⟨rfl, ha⟩ := hr
      have f4 : Fr W h3 h4 := by obtain ⟨_, _, _, q⟩ := ha; exact q
      haveI : HGet h4 h'.n _ := ⟨(f4.get _ (by omega) fun q => by have := hWl q; omega).trans g3⟩
      refine stp ?_
      refine D.callX (DSet_ok (hB3.dv f4) (by omega) hso hnd) (fun r h5 hr => rfl) (fun r h5 hr => ?_) (fun _ _ hx => hx.elim)
      obtain ⟨rfl, hd⟩ := hr
      have f5 : Fr (fun i => i = d) h4 h5 := by obtain ⟨_, _, _, q⟩ := hd; exact q
      obtain ⟨W2, D2, hB5, f35⟩ := hB3.step (by omega) ha hd
      have := set_len L A.id A.tm
      refine stp ?_
      exact cutQ1.out 11 ⟨rfl, _, _, _, hB5, by omega, hkeep f4 f5, f35.n, F0.trans f35 fun i hi q => by omega⟩
    refine stp ?_
    refine C.if (fun hk1 => ?_) (fun hk1 => ?_)
    · refine stp ?_
      refine D.callX (wStop_ok hB3.pm (by omega)) (fun r h4 hr => ?_) (fun r h4 hr => ?_) (fun _ _ hx => hx.elim)
      · obtain ⟨rfl, _, _, _, f4⟩ := hr
        haveI : HGet h4 h'.n _ := ⟨(f4.get _ (by omega) fun q => by have := hWl q; omega).trans g3⟩
        repeat refine stab_cons inferInstance ?_
        rfl
      obtain ⟨rfl, ha⟩ := hr
      have f4 : Fr W h3 h4 := by obtain ⟨_, _, _, q⟩ := ha; exact q
      haveI : HGet h4 h'.n _ := ⟨(f4.get _ (by omega) fun q => by have := hWl q; omega).trans g3⟩
      refine stp ?_
      refine D.callX (DStop_ok (hB3.dv f4) (by omega) hnd) (fun r h5 hr => rfl) (fun r h5 hr => ?_) (fun _ _ hx => hx.elim)
      obtain ⟨rfl, hd⟩ := hr
      have f5 : Fr (fun i => i = d) h4 h5 := by obtain ⟨_, _, _, q⟩ := hd; exact q
      obtain ⟨W2, D2, hB5, f35⟩ := hB3.step (by omega) ha hd
      have := stop_len L A.id
      refine stp ?_
      exact cutQ1.out 11 ⟨rfl, _, _, _, hB5, by omega, hkeep f4 f5, f35.n, F0.trans f35 fun i hi q => by omega⟩
    refine stp ?_
    refine C.if (fun hk2 => ?_) (fun hk2 => ?_)
    · refine stp ?_
      refine O.call' (wFire_ok hB3.pm (by omega)) (fun r4 h4 hr => ?_)
      obtain ⟨W4, o4, hw4, w4, hn4, f4⟩ := hr
      have n4 := f4.n
      haveI : HGet h4 h'.n _ := ⟨(f4.get _ (by omega) fun q => by have := hWl q; omega).trans g3⟩
      refine stp ?_
      refine O.call' (DFire_ok (hB3.dv f4) (by omega) hso) (fun r5 h5 hr => ?_)
      obtain ⟨D5, o5, hd5, d5, hn5, f5⟩ := hr
      have n5 := f5.n
      have hl4 := fun {i : Nat} (hi : ownedBy r4 i) => o4.lt hi
      have hdl := hDl hB.dm.hp
      have o45 := o4.keep f5 fun i hi e => by have := (hn4 i hi).1; omega
      have hfl : (firedS L A.tm).length ≤ L.length := List.length_filter_le ..
      have hsl : (staysS L A.tm).length ≤ L.length := List.length_filter_le ..
      refine stp ?_
      refine O.call' (SameInts_n o45.rd o5.rd (List.length_map _) (by omega)) (fun r h6 hr => ?_)
      obtain ⟨rfl, rfl⟩ := hr
      refine stp ?_
      refine O.call' (OverInts_ok o45 (by omega)) (fun r h7 hr => ?_)
      refine stp ?_
      have hw5 := hw4.keep f5 fun i hi e => (w4 i hi).elim (fun q => hB.dj i q (by rw [e]; exact hB.dm.hp)) fun q => by omega
      have hw7 := hw5.keep hr fun i hi q => (hn4 i q).2 hi
      have hd7 := hd5.keep hr fun i hi q => (d5 i hi).elim (fun k => by have := (hn4 i q).1; have := hDl k; omega) fun k => by have := hl4 q; omega
      have F7 : Fr (fun i => h.n ≤ i) h3 h7 := ((f4.mono fun i _ hi => hB3.wn i hi).trans' (f5.mono fun i _ hi => by rw [hi]; exact hdp)).trans' (hr.mono fun i _ hi => by have := (hn4 i hi).1; omega)
      refine cutQ1.out 11 ⟨rfl, staysS L A.tm, W4, D5, ⟨hw7, hd7, fun i hi => (w4 i hi).elim (hB3.wn i) fun q => by omega, fun i hi => (d5 i hi).elim (hB3.dn i) fun q => by omega, fun i hi hi2 => ?_⟩, by omega, ?_, F7.n, F0.trans F7 fun i hi q => by omega⟩
      · have := hw4.lt hi
        rcases d5 i hi2 with k1 | k1
        · rcases w4 i hi with k2 | k2
          · exact hB.dj i k2 k1
          · have := hDl k1; omega
        · omega
      · rw [hr.get _ (by omega) fun q => by have := (hn4 _ q).1; omega]
        exact hkeep f4 f5
    refine stp ?_
    exact cutQ1.out 11 ⟨rfl, _, _, _, hB3, by omega, g3, Nat.le_refl _, F0⟩
  intro v hz x12 x65 x66 x67 x68 x69 x70 x71 x72 x73 x74 x75 x76 x77 x78 x79 x80 x81 x82 x83 x84 x85 x86 x87 x88 x89 x90 x91 x92 x93 x94 x95 x96 x97 x98 x99 x100 x101 x102 ⟨e1, L', W', D', hBz, hBdz, gz, nz3, hFz⟩
  subst e1
  clear hB hBd hF hB3 hWl hDl F0 F3 hso hnd
  have nz := hFz.n
  have hso := hBz.pm.so
  have hnd := hBz.pm.nd
  have hdu := hBz.pm.du
  have hWl := fun {i : Nat} (hi : W' i) => hBz.pm.lt hi
  have hDl := fun {i : Nat} (hi : D' i) => hBz.dm.lt i hi
  haveI : HGet hz h'.n _ := ⟨gz⟩
  have hwa := wWhenV_ok (k := A.id) hBz.pm
  have hwd := DWhen_ok (k := A.id) hBz.dm (by omega) hnd
  generalize whenS L' A.id = ww at *
  refine stp ?_
  refine O.call' hwa (fun r g0 hr => ?_)
  obtain ⟨rfl, rfl⟩ := hr
  refine stp ?_
  refine O.call' hwd (fun r g0 hr => ?_)
  obtain ⟨rfl, rfl⟩ := hr
  have hna := wNext_ok hBz.pm (by omega)
  refine stp ?_
  refine O.call' hna (fun r g1 hr => ?_)
  obtain ⟨rfl, f1⟩ := hr
  have hB1 := hBz.keep f1 (fun _ _ => id) (fun _ _ => id)
  have hndx := DNext_ok hB1.dm (by omega)
  clear hna
  have m1 := f1.n
  haveI : HGet g1 h'.n _ := ⟨(f1.get _ (by omega) id).trans gz⟩
  generalize nextW L' = nw at *
  refine stp ?_
  refine O.call' hndx (fun r g2 hr => ?_)
  obtain ⟨rfl, rfl⟩ := hr
  refine stp ?_
  refine D.callX (wList_ok hB1.pm (by omega)) (fun r g3' hr => ?_) (fun rL gL hr => ?_) (fun _ _ hx => hx.elim)
  · obtain ⟨_, _, fL⟩ := hr
    haveI : HGet g3' h'.n _ := ⟨(fL.get _ (by omega) id).trans (HGet.eq)⟩
    repeat refine stab_cons inferInstance ?_
    rfl
  obtain ⟨oL, mL, fL⟩ := hr
  have hBL := hB1.keep fL (fun _ _ => id) (fun _ _ => id)
  have nL := fL.n
  have FL := f1.trans' fL
  haveI : HGet gL h'.n _ := ⟨(FL.get _ (by omega) id).trans gz⟩
  have hsl : (slotS L' n A.tm).length ≤ L'.length := List.length_filter_le ..
  refine stp ?_
  refine D.callX (wSlot_ok (i := A.tm) hBL.pm (by omega)) (fun r g3' hr => rfl) (fun rS gS hr => ?_) (fun _ _ hx => hx.elim)
  obtain ⟨oS, mS, fS⟩ := hr
  have hBS := hBL.keep fS (fun _ _ => id) (fun _ _ => id)
  have nS := fS.n
  have FSq := FL.trans' fS
  have oLS := oL.keep fS fun _ _ => id
  have hLl := fun {i : Nat} (hi : ownedBy rL i) => oL.lt hi
  haveI : HGet gS h'.n _ := ⟨(FSq.get _ (by omega) id).trans gz⟩
  obtain ⟨u, hg, ho, hu⟩ := hBS.dm.kp
  obtain ⟨au, cu, eu, _, _⟩ := id ho.rd
  subst eu
  haveI : HGet gS d _ := ⟨hg⟩
  have hlen := wLenV_ok hBS.pm
  have hsame1 := SameTims_ok oLS.rd ho.rd (by omega)
  have hds := DSlot_ok (i := A.tm) hBS.dm (by omega) hn1 hn2 hdu
  refine stp ?_
  refine D.callT hlen (fun r g3' hr => ?_) (fun r g3' hr => ?_)
  · obtain ⟨rfl, rfl⟩ := hr
    repeat refine stab_consT inferInstance ?_
    rfl
  obtain ⟨rfl, rfl⟩ := hr
  refine stp ?_
  refine D.callT hsame1 (fun r g3' hr => rfl) (fun r g3' hr => ?_)
  obtain ⟨rfl, rfl⟩ := hr
  refine stp ?_
  refine D.callT hds (fun r g3' hr => ?_) (fun rD gD hr => ?_)
  · repeat refine stab_consT inferInstance ?_
    rfl
  obtain ⟨oD, mD, fD⟩ := hr
  have oSD := oS.keep fD fun _ _ => id
  have oLD := oLS.keep fD fun _ _ => id
  have hBD := hBS.keep fD (fun _ _ => id) (fun _ _ => id)
  have nD := fD.n
  refine stp ?_
  refine D.callT (SameTims_ok oSD.rd oD.rd (by omega)) (fun r g3' hr => rfl) (fun r g3' hr => ?_)
  obtain ⟨rfl, rfl⟩ := hr
  refine stp ?_
  refine O.call' (OverTims_ok oLD (by omega)) (fun r g4 hr4 => ?_)
  have oS4 := oSD.keep hr4 fun i hi q => by have := mS i hi; have := hLl q; omega
  refine stp ?_
  refine O.call' (OverTims_ok oS4 (by omega)) (fun r g5 hr5 => ?_)
  refine stp ?_
  have FD := FSq.trans' fD
  have FF : Fr (fun i => g0.n ≤ i) g0 g5 := ((FD.mono fun _ _ e => e.elim).trans' (hr4.mono fun i _ hi => by have := mL i hi; omega)).trans' (hr5.mono fun i _ hi => by have := mS i hi; omega)
  refine loop1a 9 (l.length - (k + 1)) (by omega) ⟨k + 1, L', W', D', by omega, rfl, rfl, hBz.keep FF (fun i hi q => by have := hWl hi; omega) (fun i hi q => by have := hDl hi; omega), hBdz, hFz.trans FF fun i hi q => by omega⟩
end Go.Proofs.Ytfmpaoolplnpjaa.A

namespace Go.Proofs.Ytfmpaoolplnpjaa.A
open Go Go.Vm
set_option maxRecDepth 10000
set_option linter.unusedVariables false
end Go.Proofs.Ytfmpaoolplnpjaa.A

namespace Go.Proofs.Ytfmpaoolplnpjaa.A
open Go Go.Vm
set_option maxRecDepth 100000
set_option linter.unusedVariables false
theorem acts_fit {h : Heap} {m : Nat} {te : TypeId} (f0 : fieldAt Try.prog te 0 = some (0, 3)) (f1 : fieldAt Try.prog te 1 = some (1, 3)) (f2 : fieldAt Try.prog te 2 = some (2, 3)) (ui : Try.prog.underlying 3 = some (.int .i64)) (ci : Try.prog.cellsOf 3 = 1) :
    ∀ (len : Nat) (c : List Value), c.length = len * 3 → (∀ i, i < len → Fits Try.prog h (m + 3) te ((c.drop (i * 3)).take 3)) → ∃ l : List AC, c = acells l ∧ l.length = len
  | 0, c, hl, _ => ⟨[], by simpa [acells] using hl, rfl⟩
  | len + 1, c, hl, hall => by
    have h0 := hall 0 (by omega)
    rw [Nat.zero_mul, List.drop_zero] at h0
    obtain ⟨a, g0, _⟩ := (h0.field f0).int ui
    obtain ⟨b, g1, _⟩ := (h0.field f1).int ui
    obtain ⟨x, g2, _⟩ := (h0.field f2).int ui
    rw [ci] at g0 g1 g2
    obtain ⟨l, e1, e2⟩ := acts_fit f0 f1 f2 ui ci len (c.drop 3) (by rw [List.length_drop]; omega) fun i hi => by
      have := hall (i + 1) (by omega)
      rw [List.drop_drop]
      rw [show (i + 1) * 3 = 3 + i * 3 from by omega] at this
      exact this
    have hl2 : (c.take 3).length = 3 := by rw [List.length_take]; omega
    have he : c.take 3 = (⟨a, b, x⟩ : AC).cells := by
      generalize c.take 3 = e at *
      rw [← List.drop_zero (l := e), vsplit e 0 1, g0, vsplit e (0 + 1) 1, g1, vsplit e (0 + 1 + 1) 1, g2, show e.drop (0 + 1 + 1 + 1) = [] from List.drop_eq_nil_of_le (by omega), List.append_nil]
      rfl
    refine ⟨⟨a, b, x⟩ :: l, ?_, by simp [e2]⟩
    rw [acells_cons, ← e1, ← he, List.take_append_drop]
theorem fits_acts3 {h : Heap} {t te : TypeId} {v : Value} (ht : Try.prog.underlying t = some (.slice te)) (f0 : fieldAt Try.prog te 0 = some (0, 3)) (f1 : fieldAt Try.prog te 1 = some (1, 3)) (f2 : fieldAt Try.prog te 2 = some (2, 3)) (ui : Try.prog.underlying 3 = some (.int .i64)) (ci : Try.prog.cellsOf 3 = 1) (ce : Try.prog.cellsOf te = 3) (hv : FitsV Try.prog h 8 t v) :
    ∃ l : List AC, Rd h 3 v (acells l) l.length := by
  unfold FitsV at hv
  rw [ht] at hv
  unfold Fits at hv
  rw [ht] at hv
  rcases hv with hv | ⟨b, len, cap, c, hv, hb, hlc, hcap, hro, hl, hall⟩
  · injection hv with hv _
    subst hv
    exact ⟨[], Rd.nil⟩
  · rw [ce] at hl hall
    obtain ⟨l, rfl, e2⟩ := acts_fit (m := 4) f0 f1 f2 ui ci len c hl hall
    have hal := acells_len l
    injection hv with hv _
    subst hv
    refine ⟨l, _, _, by rw [e2], hal, fun hn => ⟨b, 0, none, rfl, hb, ?_⟩⟩
    rw [cellsAt_of (c := acells l) (by rw [hro (by omega)]; rfl) (by omega), List.drop_zero, List.take_of_length_le (by omega)]
theorem WheelActs_run (h : Heap) (vs : List Value) (hf : FitsAll Try.prog h 8 [3, 45] vs) : Runs Try.prog T0 (.fn fn_zlQ) vs h (fun r _ => r = .bool true) (fun _ _ => False) := by
  obtain ⟨v1, _, rfl, h1, hf⟩ := hf.cons
  obtain ⟨v2, _, rfl, h2, hf⟩ := hf.cons
  obtain rfl := hf.nil
  obtain ⟨a, rfl, _⟩ := FitsV.int (k := .i64) h1 (by kernel_rfl)
  obtain ⟨l, hl⟩ := fits_acts3 (te := 50) (by kernel_rfl) (by kernel_rfl) (by kernel_rfl) (by kernel_rfl) (by kernel_rfl) (by kernel_rfl) (by kernel_rfl) h2
  exact WheelActs_true hl
end Go.Proofs.Ytfmpaoolplnpjaa.A
