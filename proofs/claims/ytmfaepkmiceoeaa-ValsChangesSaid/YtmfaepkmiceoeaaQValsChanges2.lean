/- Contracts of functions, over the machine. -/
import Derived.Test.YtmfaepkmiceoeaaQValsChanges1
import Derived.Test.YtmfaepkmiceoeaaVK
import Derived.Test.YtmfaepkmiceoeaaVJ
noncomputable section
namespace Go.Proofs.Ytmfaepkmiceoeaa.A
open Go Go.Vm
set_option maxRecDepth 10000
set_option linter.unusedVariables false
set_option maxHeartbeats 8000000 in
theorem RChange_ok {h : Heap} {v w : Value} {l cs : List Val} (hv : Rd h 5 v (vcells l) l.length) (hw : Rd h 5 w (vcells cs) cs.length) (hl : l.length < 400000) (hcs : cs.length < 50000) :
    Runs Try.prog T0 (.fn fn_zlQ) [v, w] h
      (fun r h' => ∃ x, r = .tuple ⟨[x, .int .i64 (changeS l cs).1]⟩ ∧ Own h' 5 x (vcells (changeS l cs).2) (changeS l cs).2.length ∧ (∀ i, ownedBy x i → h.n ≤ i) ∧ Fr (fun _ => False) h h') (fun _ _ => False) := by
  have k1 := RVCheck_ok hv
  have hw0 := hw
  obtain ⟨a, cap, rfl, hlen, hc⟩ := hw
  refine zlQ_runs ?_
  refine stp ?_
  refine O.call' k1 (fun r h1 hr => ?_)
  obtain ⟨rfl, hf1⟩ := hr
  refine stp ?_
  unfold changeS
  refine C.ifN (fun hz => ?_) (fun hz => ?_)
  · refine stp ?_
    rw [if_pos hz]
    exact ⟨_, rfl, .none, fun i hi => hi.elim, hf1⟩
  rw [if_neg (by omega)]
  refine stp ?_
  refine appendLitV (hv.keep hf1 fun _ _ => id) (by omega) (by omega) (fun v2 h2 ho2 hf2 hn2 => ?_)
  have hF := hf1.trans' hf2
  have n1 := hf1.n
  refine stp ?_
  refine zlQ_l0_rule (fun m v7 v8 h' => ∃ k : Nat, k ≤ cs.length ∧ m = cs.length - k ∧ v8 = .int .i64 k ∧ Own h' 5 v7 (vcells (allS l (cs.take k))) (allS l (cs.take k)).length ∧ (∀ i, ownedBy v7 i → h.n ≤ i) ∧ chkC l none cs = chkC l (lastV cs k) (cs.drop k) ∧ Fr (fun _ => False) h h') ?_ cs.length ⟨0, by omega, rfl, rfl, ho2, fun i hi => by have := hn2 i hi; omega, rfl, hF⟩
  · rintro m v7 v8 h' x4 x5 x9 x10 x11 x20 x21 x22 x23 x24 x25 x26 x27 x28 x29 x30 x31 x32 x33 x34 x35 x36 x37 x38 x39 x40 x41 x42 x43 x44 x45 x46 x47 x48 x49 x50 x51 x52 x53 x54 x55 x56 x57 x58 x59 x60 x61 x62 x63 x64 x65 x66 x67 x68 x69 x70 x71 ⟨k, hk, rfl, rfl, ho, hnew, hst, hf⟩
    refine stp ?_
    refine C.if (fun hlt => ?_) (fun hge => ?_)
    · have hlt : k < cs.length := by omega
      obtain ⟨b, o, sp, rfl, hb, hcc⟩ := hc (by omega)
      have hcc' : cellsAt h' b o (cs.length * 5) = some (vcells cs) := by rw [cellsAt_keep hf hb id]; exact hcc
      haveI := val_cells hcc' rfl hlt
      refine stp ?_
      refine O.call' (RFind_ok (w := cs.getD k zVal) (hv.keep (S := fun _ => False) hf.push fun _ _ => id) (by omega)) (fun r h3 hr => ?_)
      obtain ⟨rfl, hf3⟩ := hr
      have n3 := hf3.n
      simp only [Heap.n_push] at n3
      have g3 : HGet h3 h'.n (.cells (cs.getD k zVal).cells 0) := hf3.keep (b := h'.n) HGet.new (by simp) id
      haveI := g3
      haveI : BLt h'.n h3 := ⟨by omega⟩
      have hff : Fr (fun _ => False) h h3 := Fr.trans (S := fun _ => False) hf.push hf3 fun _ _ => id
      have ho3 : Own h3 5 v7 (vcells (allS l (cs.take k))) (allS l (cs.take k)).length := (ho.keep (S := fun _ => False) Fr.refl.push fun _ _ => id).keep hf3 fun _ _ => id
      have hcc3 : cellsAt h3 b o (cs.length * 5) = some (vcells cs) := by rw [cellsAt_keep hff hb id]; exact hcc
      refine stp ?_
      have hst0 := hst
      rw [chkC_at hlt] at hst
      refine D.dec (fun h0 => ?kpos) (fun h0 => ?kzero)
      case' kpos =>
        have hlast : lastV cs k = some (cs.getD (k - 1) zVal) := if_neg (by omega)
        haveI := val_key (k := k - 1) hcc3 rfl (by omega)
        refine stp ?_
        rw [show ((k : Nat) : Int) - 1 = ((k - 1 : Nat) : Int) from by omega]
        refine D.howT (XOp.mkIndexSl (by omega)) rfl ?_
        refine stp ?_
        refine D.callT (Less_ok) (fun _ _ _ => rfl) (fun r h4 hr => ?_)
        obtain ⟨rfl, hf4⟩ := hr
        have n4 := hf4.n
        have ho4 := ho3.keep hf4 fun _ _ => id
        have g4 := hf4.keep g3 (by omega) id
        have hf0 := hff.trans' hf4
        rw [hlast] at hst
        haveI := g4
        haveI : BLt h'.n h4 := ⟨by omega⟩
        refine stp ?_
        refine C.ifB (fun hb1 => ?bad) (fun hb1 => ?good)
      case' bad =>
        refine stp ?_
        have hb2 : keyLt (cs.getD (k - 1) zVal).key (cs.getD k zVal).key = false := by simpa using hb1
        have hst : chkC l none cs = 9 := by
          rw [hst, if_pos (show (!keyLt (cs.getD (k - 1) zVal).key (cs.getD k zVal).key) = true by rw [hb2]; rfl)]
        rw [hst]
        exact ⟨_, rfl, .none, fun i hi => hi.elim, hf0⟩
      case' good =>
        have hb2 : keyLt (cs.getD (k - 1) zVal).key (cs.getD k zVal).key = true := by simpa using hb1
        rw [if_neg (show ¬ (!keyLt (cs.getD (k - 1) zVal).key (cs.getD k zVal).key) = true by rw [hb2]; exact Bool.false_ne_true)] at hst
        refine stp ?_
      case' kzero =>
        have hlast : lastV cs k = none := if_pos (by omega)
        rw [hlast, if_neg Bool.false_ne_true] at hst
        have ho4 := ho3
        have hf0 := hff
        have n4 := n3
        refine stp ?_
      all_goals
        refine O.dec (fun h1 => ?_) (fun h1 => ?_)
        · refine stp ?_
          rw [if_pos (show (cs.getD k zVal).p < 0 ∨ 4611686018427387904 < (cs.getD k zVal).p from .inl h1)] at hst
          rw [hst]
          exact ⟨_, rfl, .none, fun i hi => hi.elim, hf0⟩
        refine stp ?_
        refine C.if (fun h2 => ?_) (fun h2 => ?_)
        · refine stp ?_
          rw [if_pos (show (cs.getD k zVal).p < 0 ∨ 4611686018427387904 < (cs.getD k zVal).p from .inr h2)] at hst
          rw [hst]
          exact ⟨_, rfl, .none, fun i hi => hi.elim, hf0⟩
        rw [if_neg (show ¬ ((cs.getD k zVal).p < 0 ∨ 4611686018427387904 < (cs.getD k zVal).p) by omega)] at hst
        have hl4 : (allS l (cs.take k)).length < 500000 := by
          have := allS_len (cs.take k) l
          rw [List.length_take] at this
          omega
        refine stp ?_
        refine O.dec (fun h5 => ?_) (fun h5 => ?_)
        · refine stp ?_
          refine C.ifB (fun h6 => ?_) (fun h6 => ?_)
          · refine stp ?_
            rw [if_pos ⟨h5, by simpa using h6⟩] at hst
            rw [hst]
            exact ⟨_, rfl, .none, fun i hi => hi.elim, hf0⟩
          · rw [if_neg (fun hh => by rw [hh.2] at h6; simp at h6)] at hst
            refine stp ?_
            refine O.call' (RChanged_ok (c := cs.getD k zVal) ho4.rd hl4) (fun r h7 hr => ?_)
            obtain ⟨ho7, hn7, hf7⟩ := hr
            rw [← allS_take hlt] at ho7
            refine stp ?_
            exact zlQ_l0_again (cs.length - (k + 1)) (by omega) ⟨k + 1, by omega, rfl, rfl, ho7, fun i hi => by have := hn7 i hi; have := hf0.n; omega, hst, hf0.trans' hf7⟩
        · rw [if_neg (fun hh => h5 hh.1)] at hst
          refine stp ?_
          refine O.call' (RChanged_ok (c := cs.getD k zVal) ho4.rd hl4) (fun r h7 hr => ?_)
          obtain ⟨ho7, hn7, hf7⟩ := hr
          rw [← allS_take hlt] at ho7
          refine stp ?_
          exact zlQ_l0_again (cs.length - (k + 1)) (by omega) ⟨k + 1, by omega, rfl, rfl, ho7, fun i hi => by have := hn7 i hi; have := hf0.n; omega, hst, hf0.trans' hf7⟩
    · obtain rfl : k = cs.length := by omega
      rw [List.drop_length] at hst
      have hst : chkC l none cs = 0 := hst
      rw [if_neg (by rw [hst]; decide)]
      rw [List.take_length] at ho
      obtain ⟨a7, c7, rfl, _⟩ := ho.rd
      have hl4 := allS_len cs l
      refine stp ?_
      refine C.if (fun h5 => ?_) (fun h5 => ?_)
      · refine stp ?_
        rw [if_pos (by omega)]
        exact ⟨_, rfl, .none, fun i hi => hi.elim, hf⟩
      rw [if_neg (by omega)]
      refine stp ?_
      refine C.if (fun h6 => ?_) (fun h6 => ?_)
      · refine stp ?_
        rw [if_pos (by omega)]
        exact ⟨_, rfl, .none, fun i hi => hi.elim, hf⟩
      rw [if_neg (by omega)]
      refine stp ?_
      exact ⟨_, rfl, ho, hnew, hf⟩
end Go.Proofs.Ytmfaepkmiceoeaa.A

namespace Go.Proofs.Ytmfaepkmiceoeaa.A
open Go Go.Vm
set_option maxRecDepth 10000
set_option linter.unusedVariables false
theorem mergeS_cons (l : List Val) (c : Val) (cs : List Val) : mergeS l (c :: cs) = l.takeWhile (belowS c) ++ c :: mergeS (skipS c (l.dropWhile (belowS c))) cs := by
  rw [mergeS]
theorem vcells_drop1 (v : Val) (l : List Val) : ((vcells (v :: l)).drop (1 * 5)).take (((v :: l).length - 1) * 5) = vcells l := by
  rw [vcells_cons]
  show ((v.cells ++ vcells l).drop 5).take _ = _
  rw [List.drop_left' (by rfl), List.take_of_length_le]
  rw [vcells_len, List.length_cons]
  omega
theorem head_cells {h : Heap} {b o n : Nat} {v : Val} {l : List Val} (hc : cellsAt h b o (n * 5) = some (vcells (v :: l))) (hn : (v :: l).length = n) : Cells h b o 5 v.cells := by
  have := val_cells (k := 0) hc hn (by rw [← hn]; simp)
  simpa using this
theorem head_key {h : Heap} {b o n : Nat} {v : Val} {l : List Val} (hc : cellsAt h b o (n * 5) = some (vcells (v :: l))) (hn : (v :: l).length = n) : Cells h b o 4 v.kcells := by
  have := val_key (k := 0) hc hn (by rw [← hn]; simp)
  simpa using this
theorem low_ends {c : Val} {l : List Val} (h : ∀ x t, l = x :: t → ¬ kn x < kn c) : l.takeWhile (belowS c) = [] ∧ l.dropWhile (belowS c) = l := by
  cases l with
  | nil => exact ⟨rfl, rfl⟩
  | cons x t =>
    have hb : ¬ belowS c x = true := fun h9 => h x t rfl (of_decide_eq_true h9)
    rw [List.takeWhile_cons, List.dropWhile_cons, if_neg hb, if_neg hb]
    exact ⟨rfl, rfl⟩
structure Gets (J : List Val → (Nat → Prop) → Heap → Prop) (pl lp N : Nat) : Prop where
  lt : ∀ d o h, J d o h → ∀ i, o i → i < h.n
  keep : ∀ d o h1 h2, J d o h1 → Fr (fun i => i = pl) h1 h2 → J d o h2
  go : ∀ d o h1 x, J d o h1 → d.length < N → Runs Try.prog T0 (.yield lp) [.agg ⟨x.cells⟩] h1 (fun r h2 => r = .bool true ∧ ∃ o', J (d ++ [x]) o' h2 ∧ Fr o h1 h2 ∧ ∀ i, o' i → o i ∨ h1.n ≤ i) (fun _ _ => False)
structure MSt (J : List Val → (Nat → Prop) → Heap → Prop) (pl : Nat) (Bk : Nat → Prop) (w : Value) (cs : List Val) (d : List Val) (o : Nat → Prop) (v' : Value) (l' : List Val) (h' : Heap) : Prop where
  j : J d o h'
  lt : pl < h'.n
  g : h'.get pl = .cells [v'] 0
  sd : Sd h' 5 v' (vcells l') l'.length
  sub : ∀ i, blockOf v' i → Bk i
  own : ∀ i, o i → i ≠ pl ∧ ¬ Bk i
  blt : ∀ i, Bk i → i < h'.n ∧ i ≠ pl
  rd : Rd h' 5 w (vcells cs) cs.length
  subw : ∀ i, blockOf w i → Bk i
theorem MSt.push {J : List Val → (Nat → Prop) → Heap → Prop} {pl lp N : Nat} {Bk : Nat → Prop} {w : Value} {cs d : List Val} {o : Nat → Prop} {v' : Value} {l' : List Val} {h' h2 : Heap} (G : Gets J pl lp N) (m : MSt J pl Bk w cs d o v' l' h') (hf : Fr (fun _ => False) h' h2) : MSt J pl Bk w cs d o v' l' h2 :=
  ⟨G.keep _ _ _ _ m.j (hf.mono fun _ _ h => h.elim), hf.lt m.lt, by rw [hf.get _ m.lt id]; exact m.g, m.sd.keep hf fun _ _ => id, m.sub, m.own, fun i hi => ⟨hf.lt (m.blt i hi).1, (m.blt i hi).2⟩, m.rd.keep hf fun _ _ => id, m.subw⟩
theorem MSt.got {J : List Val → (Nat → Prop) → Heap → Prop} {pl : Nat} {Bk : Nat → Prop} {w : Value} {cs d d' : List Val} {o o' : Nat → Prop} {v' : Value} {l' : List Val} {h' h2 : Heap} (m : MSt J pl Bk w cs d o v' l' h') (hj : J d' o' h2) (hf : Fr o h' h2) (ho : ∀ i, o' i → o i ∨ h'.n ≤ i) : MSt J pl Bk w cs d' o' v' l' h2 :=
  ⟨hj, hf.lt m.lt, by rw [hf.get _ m.lt fun h => (m.own _ h).1 rfl]; exact m.g, m.sd.keep hf fun b hb h => (m.own _ h).2 (m.sub _ hb), m.sub, fun i hi => by
    rcases ho i hi with h | h
    · exact m.own i h
    · exact ⟨by have := m.lt; omega, fun hB => by have := (m.blt i hB).1; omega⟩, fun i hi => ⟨hf.lt (m.blt i hi).1, (m.blt i hi).2⟩, m.rd.keep hf fun b hb h => (m.own _ h).2 (m.subw _ hb), m.subw⟩
theorem MSt.put {J : List Val → (Nat → Prop) → Heap → Prop} {pl lp N : Nat} {Bk : Nat → Prop} {w : Value} {cs d : List Val} {o : Nat → Prop} {v' v2 : Value} {l' l2 : List Val} {h' : Heap} (G : Gets J pl lp N) (m : MSt J pl Bk w cs d o v' l' h') (hs : ∀ i, blockOf v2 i → blockOf v' i) (hv : Sd h' 5 v2 (vcells l2) l2.length) : MSt J pl Bk w cs d o v2 l2 (h'.set pl (.cells [v2] 0)) :=
  have hf : Fr (fun i => i = pl) h' (h'.set pl (.cells [v2] 0)) := Fr.refl.set fun _ => rfl
  ⟨G.keep _ _ _ _ m.j hf, by simpa using m.lt, by rw [Heap.get_set, if_pos rfl], hv.keep hf fun b hb e => (m.blt b (m.sub _ (hs _ hb))).2 e, fun i hi => m.sub _ (hs _ hi), m.own, fun i hi => ⟨by simpa using (m.blt i hi).1, (m.blt i hi).2⟩, m.rd.keep hf fun b hb e => (m.blt b (m.subw _ hb)).2 e, m.subw⟩
set_option maxHeartbeats 8000000 in
theorem merged1_ok {J : List Val → (Nat → Prop) → Heap → Prop} {h : Heap} {pc pl lp : Nat} {Bk : Nat → Prop} {v w : Value} {l cs : List Val} {o0 : Nat → Prop} (G : Gets J pl lp (mergeS l cs).length) (m0 : MSt J pl Bk w cs [] o0 v l h) (hgc : h.get pc = .cells [w] 0)
    (hl : l.length < 500000) (hcs : cs.length < 500000) :
    Runs Try.prog T0 (.fn fn_zzQ) [.func (.yield lp) #[] #[], .pointer (some ⟨pc, 0, none⟩), .pointer (some ⟨pl, 0, none⟩)] h
      (fun _ h' => ∃ o, J (mergeS l cs) o h') (fun _ _ => False) := by
  obtain ⟨aw, capw, rfl, hlen, hc⟩ := m0.rd
  haveI : HGet h pc _ := ⟨hgc⟩
  refine zzQ_runs ?_
  refine stp ?_
  refine zzQ_l1_rule (fun m v10 h' => ∃ (k : Nat) (d : List Val) (o : Nat → Prop) (v' : Value) (l' : List Val), k ≤ cs.length ∧ m = cs.length - k ∧ v10 = .int .i64 k ∧ MSt J pl Bk (.slice aw cs.length capw) cs d o v' l' h' ∧ d ++ mergeS l' (cs.drop k) = mergeS l cs ∧ l'.length ≤ l.length) ?_ cs.length ⟨0, [], o0, v, l, by omega, rfl, rfl, m0, rfl, by omega⟩
  rintro m v10 h' x5 x11 x12 x13 x14 x15 x16 x17 x18 x19 x20 x21 x22 x23 x24 x25 x26 x27 x28 x29 x30 x31 x32 x33 x34 x35 x36 x37 x38 x39 x40 x41 x42 x43 x44 x45 x46 x47 x48 x49 x50 x51 x52 ⟨k, d, o, v', l', hk, rfl, rfl, ms, heq, hll⟩
  refine stp ?_
  refine C.if (fun hlt => ?_) (fun hge => ?_)
  · have hlt : k < cs.length := by omega
    obtain ⟨a2, cap2, e2, hlen2, hc2⟩ := ms.rd
    cases e2
    obtain ⟨b, oo, sp, rfl, hb, hcc⟩ := hc2 (by omega)
    haveI := val_cells hcc rfl hlt
    refine stp ?_
    have hneq : h'.n ≠ pl := by have := ms.lt; omega
    refine zzQ_l0_rule (v := undef) (fun m h2 => ∃ (d : List Val) (o : Nat → Prop) (v' : Value) (l' : List Val), m = l'.length ∧ MSt J pl Bk (.slice (some ⟨b, oo, sp⟩) cs.length capw) cs d o v' l' h2 ∧ h2.get h'.n = .cells (cs.getD k zVal).cells 0 ∧ h'.n < h2.n ∧ ¬ o h'.n ∧ d ++ mergeS l' (cs.getD k zVal :: cs.drop (k + 1)) = mergeS l cs ∧ l'.length ≤ l.length) ?_ l'.length ⟨d, o, v', l', rfl, ms.push G Fr.refl.push, by rw [Heap.get_push, if_pos rfl], by simp, fun ho => by have := G.lt _ _ _ ms.j _ ho; omega, by rw [← drop_getD hlt]; exact heq, hll⟩
    clear ms heq hll hcc hc2 hb
    rintro m h2 x14 x15 x16 x17 x18 x19 x20 x21 x22 x23 x24 x25 x26 x27 x28 x29 x30 x31 x32 x33 ⟨d, o, v', l', rfl, ms, gq, hq, hoq, heq, hll⟩
    have hsd := ms.sd
    obtain ⟨a3, cap3, rfl, hcap3, hlen3, hc3⟩ := ms.sd
    haveI : HGet h2 pl _ := ⟨ms.g⟩
    haveI : HGet h2 h'.n _ := ⟨gq⟩
    refine stp ?_
    refine D.dec (fun h0 => ?_) (fun h0 => ?_)
    · cases l' with
      | nil => simp at h0
      | cons x t =>
      obtain ⟨b3, o3, sp3, rfl, hb3, hcc3, _⟩ := hc3 (by simp)
      haveI := head_cells hcc3 rfl
      refine stp ?_
      refine D.howT (XOp.mkIndexSl (by simp only [List.length_cons]; omega)) rfl ?_
      rw [show o3 + Int.toNat 0 * 5 = o3 from rfl]
      refine stp ?_
      refine D.callT (compare_ok (v := x) (w := cs.getD k zVal)) (fun _ _ _ => rfl) (fun r h4 hr => ?_)
      obtain ⟨rfl, hf4⟩ := hr
      have hq4 : h'.n < h4.n := hf4.lt hq
      have gq4 : h4.get h'.n = .cells (cs.getD k zVal).cells 0 := by rw [hf4.get _ hq id]; exact gq
      replace ms := ms.push G hf4
      have hsd4 := ms.sd
      haveI : HGet h4 pl _ := ⟨ms.g⟩
      haveI : HGet h4 h'.n _ := ⟨gq4⟩
      haveI : BLt pl h4 := ⟨ms.lt⟩
      refine stp ?_
      have hcmp : (cmpB x.key (cs.getD k zVal).key < 0) ↔ kn x < kn (cs.getD k zVal) := by
        have := keyLt_kn x (cs.getD k zVal)
        have h9 : keyLt x.key (cs.getD k zVal).key = decide (cmpB x.key (cs.getD k zVal).key < 0) := rfl
        rw [h9] at this
        exact decide_eq_decide.1 this
      refine C.if (fun hlow => ?_) (fun hnlow => ?_)
      · have hlow := hcmp.1 hlow
        have hbel : belowS (cs.getD k zVal) x = true := decide_eq_true hlow
        have hcc4 : cellsAt h4 b3 o3 ((x :: t).length * 5) = some (vcells (x :: t)) := by rw [cellsAt_keep hf4 hb3 id]; exact hcc3
        haveI := head_cells hcc4 rfl
        refine stp ?_
        rw [show o3 + Int.toNat 0 * 5 = o3 from rfl]
        refine stp ?_
        refine O.yield (G.go _ _ _ x ms.j (by rw [← heq, mergeS_cons, List.takeWhile_cons, if_pos hbel]; simp only [List.length_append, List.length_cons]; omega)) (fun r h5 hr => ?_)
        obtain ⟨rfl, o', hj5, hf5, ho5⟩ := hr
        have ms5 := ms.got hj5 hf5 ho5
        haveI : HGet h5 pl _ := ⟨ms5.g⟩
        refine stp ?_
        refine O.cut 1 (x :: t).length ms5.sd (fun _ _ => bnd_none) (bnd_at' (i := 1) (by simp)) (by simp) (Nat.le_refl _) (fun v2 hv2 hs2 => ?_)
        rw [vcells_drop1] at hs2
        obtain ⟨a5, cap5, rfl, _⟩ := id hs2
        refine stp ?_
        have ms6 := ms5.put (l2 := t) G hv2 (by simpa using hs2)
        have hoq6 : ¬ o' h'.n := fun hh => by
          rcases ho5 _ hh with h9 | h9
          · exact hoq h9
          · omega
        have hxt : (x :: t).length = t.length + 1 := rfl
        refine zzQ_l0_again (v := undef) t.length (by omega) ⟨d ++ [x], o', _, t, rfl, ms6, ?_, ?_, hoq6, ?_, ?_⟩
        · rw [Heap.get_set, if_neg hneq, hf5.get _ hq4 hoq]
          exact gq4
        · have := hf5.n
          simp; omega
        · rw [← heq, mergeS_cons, mergeS_cons, List.takeWhile_cons, List.dropWhile_cons, if_pos hbel, if_pos hbel, List.append_assoc]
          rfl
        · rw [List.length_cons] at hll; omega
      · have hnl : ¬ kn x < kn (cs.getD k zVal) := fun h9 => hnlow (hcmp.2 h9)
        obtain ⟨e1, e2⟩ := low_ends (c := cs.getD k zVal) (l := x :: t) (fun x' t' e => by cases e; exact hnl)
        rw [mergeS_cons, e1, e2, List.nil_append] at heq
        have hcc4 : cellsAt h4 b3 o3 ((x :: t).length * 5) = some (vcells (x :: t)) := by rw [cellsAt_keep hf4 hb3 id]; exact hcc3
        haveI := head_key hcc4 rfl
        refine stp ?_
        refine D.dec (fun h0' => ?_) (fun h0' => absurd h0 h0')
        refine stp ?_
        refine D.howT (XOp.mkIndexSl (by simp only [List.length_cons]; omega)) rfl ?_
        rw [show o3 + Int.toNat 0 * 5 = o3 from rfl]
        refine stp ?_
        rw [same_key]
        refine C.if (fun hsame => ?same) (fun hsame => ?other)
        case' same =>
          have e3 : skipS (cs.getD k zVal) (x :: t) = t := if_pos hsame
          rw [e3] at heq
          refine stp ?_
          refine O.cut 1 (x :: t).length ms.sd (fun _ _ => bnd_none) (bnd_at' (i := 1) (by simp)) (by simp) (Nat.le_refl _) (fun v2 hv2 hs2 => ?_)
          rw [vcells_drop1] at hs2
          obtain ⟨a5, cap5, rfl, _⟩ := id hs2
          have ms6 := ms.put (l2 := t) G hv2 (by simpa using hs2)
          have gq6 : (h4.set pl (.cells [.slice a5 ((x :: t).length - 1) cap5] 0)).get h'.n = .cells (cs.getD k zVal).cells 0 := by rw [Heap.get_set, if_neg hneq]; exact gq4
          have hq6 : h'.n < (h4.set pl (.cells [.slice a5 ((x :: t).length - 1) cap5] 0)).n := hq4
          have hl6 : t.length ≤ l.length := by rw [List.length_cons] at hll; omega
          refine stp ?_
        case' other =>
          have e3 : skipS (cs.getD k zVal) (x :: t) = x :: t := if_neg hsame
          rw [e3] at heq
          have ms6 := ms
          have gq6 := gq4
          have hq6 := hq4
          have hl6 := hll
          refine stp ?_
        case' same =>
          haveI : HGet (h4.set pl (.cells [.slice a5 ((x :: t).length - 1) cap5] 0)) h'.n _ := ⟨gq6⟩
          refine stp ?_
          generalize h4.set pl (.cells [.slice a5 ((x :: t).length - 1) cap5] 0) = h6 at *
        all_goals
          refine O.yield (G.go _ _ _ (cs.getD k zVal) ms6.j (by rw [← heq]; simp only [List.length_append, List.length_cons]; omega)) (fun r h7 hr => ?_)
          obtain ⟨rfl, o', hj7, hf7, ho7⟩ := hr
          refine stp ?_
          exact zzQ_l1_again (cs.length - (k + 1)) (by omega) ⟨k + 1, d ++ [cs.getD k zVal], o', _, _, by omega, rfl, rfl, ms6.got hj7 hf7 ho7, by rw [← heq, List.append_assoc]; rfl, hl6⟩
    · refine stp ?_
      refine D.dec (fun h0' => absurd h0' h0) (fun h0' => ?_)
      have e0 : l' = [] := List.length_eq_zero_iff.1 (by omega)
      subst e0
      rw [mergeS_cons] at heq
      have heq : d ++ (cs.getD k zVal :: mergeS [] (cs.drop (k + 1))) = mergeS l cs := heq
      refine stp ?_
      refine O.yield (G.go _ _ _ (cs.getD k zVal) ms.j (by rw [← heq]; simp only [List.length_append, List.length_cons]; omega)) (fun r h7 hr => ?_)
      obtain ⟨rfl, o', hj7, hf7, ho7⟩ := hr
      refine stp ?_
      exact zzQ_l1_again (cs.length - (k + 1)) (by omega) ⟨k + 1, d ++ [cs.getD k zVal], o', _, _, by omega, rfl, rfl, ms.got hj7 hf7 ho7, by rw [← heq, List.append_assoc]; rfl, hll⟩
  · obtain rfl : k = cs.length := by omega
    rw [List.drop_length] at heq
    have hsd := ms.sd
    obtain ⟨a3, cap3, rfl, hcap3, hlen3, hc3⟩ := ms.sd
    haveI : HGet h' pl _ := ⟨ms.g⟩
    refine stp ?_
    have hnil : mergeS l' [] = l' := by rw [mergeS]
    rw [hnil] at heq
    refine zzQ_l2_rule (fun m v55 h2 => ∃ (k2 : Nat) (d : List Val) (o : Nat → Prop), k2 ≤ l'.length ∧ m = l'.length - k2 ∧ v55 = .int .i64 k2 ∧ MSt J pl Bk (.slice aw cs.length capw) cs d o (.slice a3 l'.length cap3) l' h2 ∧ d ++ l'.drop k2 = mergeS l cs) ?_ l'.length ⟨0, d, o, by omega, rfl, rfl, ms, heq⟩
    clear ms heq hlen3 hc3
    rintro m v55 h' x7 x56 x57 x58 x59 x60 x61 x62 x63 ⟨k2, d, o, hk2, rfl, rfl, ms, heq⟩
    refine stp ?_
    refine C.if (fun hlt => ?_) (fun hge => ?_)
    · have hlt : k2 < l'.length := by omega
      obtain ⟨a4, cap4, e4, hcap4, hlen4, hc4⟩ := ms.sd
      cases e4
      obtain ⟨b4, o4, sp4, rfl, hb4, hcc4, _⟩ := hc4 (by omega)
      haveI := val_cells hcc4 rfl hlt
      refine stp ?_
      refine O.yield (G.go _ _ _ (l'.getD k2 zVal) (ms.push G (Fr.refl.push)).j (by rw [← heq, drop_getD hlt]; simp only [List.length_append, List.length_cons]; omega)) (fun r h7 hr => ?_)
      obtain ⟨rfl, o', hj7, hf7, ho7⟩ := hr
      refine stp ?_
      exact zzQ_l2_again (l'.length - (k2 + 1)) (by omega) ⟨k2 + 1, d ++ [l'.getD k2 zVal], o', by omega, rfl, rfl, (ms.push G (Fr.refl.push)).got hj7 hf7 ho7, by rw [← heq, drop_getD hlt, List.append_assoc]; rfl⟩
    · obtain rfl : k2 = l'.length := by omega
      rw [List.drop_length, List.append_nil] at heq
      refine stp ?_
      exact ⟨o, heq ▸ ms.j⟩
end Go.Proofs.Ytmfaepkmiceoeaa.A

namespace Go.Proofs.Ytmfaepkmiceoeaa.A
open Go Go.Vm
set_option maxRecDepth 10000
set_option linter.unusedVariables false
structure OutJ (pl lp po : Nat) (rec : AObj) (h0 : Heap) (d : List Val) (o : Nat → Prop) (h : Heap) : Prop where
  ln : lp < h.n
  lg : h.get lp = rec
  pn : po < h.n
  qn : pl < h.n
  fr : Fr (fun i => i = po ∨ i = pl) h0 h
  out : ∃ w, h.get po = .cells [w] 0 ∧ Own h 5 w (vcells (d.filter powS)) (d.filter powS).length ∧ (∀ i, ownedBy w i → h0.n ≤ i ∧ i ≠ lp ∧ i ≠ po ∧ i ≠ pl) ∧ o = fun i => i = lp ∨ i = po ∨ ownedBy w i
theorem merged_ok {h : Heap} {a1 a2 : Option Addr} {n1 c1 n2 c2 : Nat} : Runs Try.prog T0 (.fn fn_zyQ) [.slice a1 n1 c1, .slice a2 n2 c2] h
    (fun r h' => r = .func (.func fn_zzQ) ⟨[]⟩ ⟨[.pointer (some ⟨h.n + 1, 0, none⟩), .pointer (some ⟨h.n, 0, none⟩)]⟩ ∧ h' = (h.push (.cells [.slice a1 n1 c1] 0)).push (.cells [.slice a2 n2 c2] 0)) (fun _ _ => False) := by
  refine zyQ_runs ?_
  refine stp ?_
  exact ⟨rfl, rfl⟩
set_option maxHeartbeats 8000000 in
theorem Change_go {f0 f1 f2 f3 f5 f6 f7 f8 f9 f10 f11 f12 f13 f14 f15 f16 f17 f18 f19 f20 f21 f22 f23 f24 f25 f26 f27 f28 f29 f30 f31 f32 f33 f34 f35 f36 f37 f38 f39 f40 f41 f42 f43 f44 f45 f46 f47 f48 f49 f50 f51 f52 f53 f54 f55 f56 f57 f58 f59 f60 f61 f62 f63 f64 f65 : Value} {pl lp po N : Nat} {h0 : Heap} (h1 : lp ≠ pl) (h2 : po ≠ pl) (h3 : po ≠ lp) (hN : N < 1000000) (hl : h0.n ≤ lp) :
    Gets (OutJ pl lp po (.loop .ready none (f0 :: f1 :: f2 :: f3 :: .pointer (some ⟨po, 0, none⟩) :: f5 :: f6 :: f7 :: f8 :: f9 :: f10 :: f11 :: f12 :: f13 :: f14 :: f15 :: f16 :: f17 :: f18 :: f19 :: f20 :: f21 :: f22 :: f23 :: f24 :: f25 :: f26 :: f27 :: f28 :: f29 :: f30 :: f31 :: f32 :: f33 :: f34 :: f35 :: f36 :: f37 :: f38 :: f39 :: f40 :: f41 :: f42 :: f43 :: f44 :: f45 :: f46 :: f47 :: f48 :: f49 :: f50 :: f51 :: f52 :: f53 :: f54 :: f55 :: f56 :: f57 :: f58 :: f59 :: f60 :: f61 :: f62 :: f63 :: f64 :: f65 :: []) [49] zsQ_ra0 zsQ_rb0) h0) pl lp N := by
  refine ⟨fun d o h hj i hi => ?_, fun d o ha hb hj hf => ?_, fun d o ha x hj hd => ?_⟩
  · obtain ⟨w, hg, ho, hw, rfl⟩ := hj.out
    rcases hi with rfl | rfl | hi
    · exact hj.ln
    · exact hj.pn
    · exact ho.lt hi
  · obtain ⟨w, hg, ho, hw, rfl⟩ := hj.out
    refine ⟨hf.lt hj.ln, by rw [hf.get _ hj.ln h1]; exact hj.lg, hf.lt hj.pn, hf.lt hj.qn, hj.fr.trans hf fun i hi e => .inr e, w, by rw [hf.get _ hj.pn h2]; exact hg, ho.keep hf fun b hb e => (hw b hb).2.2.2 e, hw, rfl⟩
  · obtain ⟨w, hg, ho, hw, rfl⟩ := hj.out
    haveI : HGet ha lp _ := ⟨hj.lg⟩
    haveI : HGet ha po _ := ⟨hg⟩
    haveI : BLt lp ha := ⟨hj.ln⟩
    haveI : BLt po ha := ⟨hj.pn⟩
    haveI : BNe po lp := ⟨h3⟩
    haveI : BNe lp po := ⟨fun e => h3 e.symm⟩
    have hfl : (d.filter powS).length ≤ d.length := List.length_filter_le _ _
    refine Runs.round hj.lg put_one rfl zsQ_na0 zsQ_nb0 zsQ_ca0 zsQ_cb0 ?_
    refine stp ?_
    refine A.go ?_
    refine stp ?_
    refine C.if (fun hpow => ?_) (fun hpow => ?_)
    · refine stp ?_
      have e1 : (d ++ [x]).filter powS = d.filter powS ++ [x] := by
        rw [List.filter_append, List.filter_cons, if_pos (show powS x = true from decide_eq_true hpow), List.filter_nil]
      have hF := (((Fr.refl (S := fun i => i = lp) (h := ha)).push (o := .cells x.cells 0)).set (b := lp) (o := .loop .busy none (f0 :: f1 :: f2 :: f3 :: .pointer (some ⟨po, 0, none⟩) :: f5 :: f6 :: f7 :: f8 :: f9 :: f10 :: f11 :: f12 :: f13 :: f14 :: f15 :: f16 :: f17 :: f18 :: f19 :: f20 :: f21 :: f22 :: f23 :: f24 :: f25 :: f26 :: f27 :: f28 :: f29 :: f30 :: f31 :: f32 :: f33 :: f34 :: f35 :: f36 :: f37 :: f38 :: f39 :: f40 :: f41 :: f42 :: f43 :: f44 :: f45 :: f46 :: f47 :: f48 :: f49 :: f50 :: f51 :: f52 :: f53 :: f54 :: f55 :: f56 :: f57 :: f58 :: f59 :: f60 :: f61 :: f62 :: f63 :: f64 :: f65 :: []) [49] zsQ_ra0 zsQ_rb0) fun _ => rfl).push (o := .cells x.cells 0)
      refine O.append (ho.keep hF fun b hb => (hw b hb).2.1) (one_val (c := x.cells) rfl) rfl rfl (by omega) (by omega) (by omega) (fun w2 h5 ho5 hf5 hn5 => ?_)
      have hF5 : Fr (fun i => i = lp ∨ ownedBy w i) ha h5 := (hF.mono fun _ _ => .inl).trans hf5 fun i _ => .inr
      have n5 := hF5.n
      have gp5 : h5.get po = .cells [w] 0 := by rw [hF5.get _ hj.pn (fun e => by rcases e with e | e; exact h3 e; exact (hw _ e).2.2.1 rfl)]; exact hg
      have gl5 : h5.get lp = .loop .busy none (f0 :: f1 :: f2 :: f3 :: .pointer (some ⟨po, 0, none⟩) :: f5 :: f6 :: f7 :: f8 :: f9 :: f10 :: f11 :: f12 :: f13 :: f14 :: f15 :: f16 :: f17 :: f18 :: f19 :: f20 :: f21 :: f22 :: f23 :: f24 :: f25 :: f26 :: f27 :: f28 :: f29 :: f30 :: f31 :: f32 :: f33 :: f34 :: f35 :: f36 :: f37 :: f38 :: f39 :: f40 :: f41 :: f42 :: f43 :: f44 :: f45 :: f46 :: f47 :: f48 :: f49 :: f50 :: f51 :: f52 :: f53 :: f54 :: f55 :: f56 :: f57 :: f58 :: f59 :: f60 :: f61 :: f62 :: f63 :: f64 :: f65 :: []) [49] zsQ_ra0 zsQ_rb0 := by
        rw [hf5.get _ (by have := hj.ln; simp; omega) (fun e => (hw _ e).2.1 rfl), Heap.get_push, if_neg (by have := hj.ln; simp; omega), Heap.get_set, if_pos rfl]
      haveI : HGet h5 po _ := ⟨gp5⟩
      haveI : HGet h5 lp _ := ⟨gl5⟩
      obtain ⟨aw, cw, rfl, _⟩ := ho5.rd
      refine stp ?_
      refine A.on ?_
      have hw5 : ∀ i, ownedBy (.slice aw ((d.filter powS).length + 1) cw) i → h0.n ≤ i ∧ i ≠ lp ∧ i ≠ po ∧ i ≠ pl := fun i hi => by
        rcases hn5 i hi with e | e
        · exact hw i e
        · have := hj.ln; have := hj.pn; have := hj.qn; have := hj.fr.n
          simp at e
          exact ⟨by omega, by omega, by omega, by omega⟩
      have hF6 : Fr (fun i => i = po ∨ i = lp) h5 ((h5.set po (.cells [.slice aw ((d.filter powS).length + 1) cw] 0)).set lp (.loop .ready none (f0 :: f1 :: f2 :: f3 :: .pointer (some ⟨po, 0, none⟩) :: f5 :: f6 :: f7 :: f8 :: f9 :: f10 :: f11 :: f12 :: f13 :: f14 :: f15 :: f16 :: f17 :: f18 :: f19 :: f20 :: f21 :: f22 :: f23 :: f24 :: f25 :: f26 :: f27 :: f28 :: f29 :: f30 :: f31 :: f32 :: f33 :: f34 :: f35 :: f36 :: f37 :: f38 :: f39 :: f40 :: f41 :: f42 :: f43 :: f44 :: f45 :: f46 :: f47 :: f48 :: f49 :: f50 :: f51 :: f52 :: f53 :: f54 :: f55 :: f56 :: f57 :: f58 :: f59 :: f60 :: f61 :: f62 :: f63 :: f64 :: f65 :: []) [49] zsQ_ra0 zsQ_rb0)) := (Fr.refl.set fun _ => .inl rfl).set fun _ => .inr rfl
      have hFa := (hF5.mono (S' := fun i => i = lp ∨ i = po ∨ ownedBy w i) fun i _ e => by rcases e with e | e; exact .inl e; exact .inr (.inr e)).trans hF6 fun i _ e => by rcases e with e | e; exact .inr (.inl e); exact .inl e
      refine ⟨rfl, _, ⟨by simp; have := hj.ln; omega, by rw [Heap.get_set, if_pos rfl], by simp; have := hj.pn; omega, by simp; have := hj.qn; omega, ?_, _, by rw [Heap.get_set, if_neg h3, Heap.get_set, if_pos rfl], ?_, hw5, rfl⟩, ?_, fun i hi => ?_⟩
      · exact hj.fr.trans hFa fun i hi e => by
          rcases e with e | e | e
          · omega
          · exact .inl e
          · have := (hw i e).1; omega
      · rw [e1, vcells_append, List.length_append]
        exact ho5.keep hF6 fun b hb e => by rcases e with e | e; exact (hw5 b hb).2.2.1 e; exact (hw5 b hb).2.1 e
      · exact hFa
      · rcases hi with hi | hi | hi
        · exact .inl (.inl hi)
        · exact .inl (.inr (.inl hi))
        · rcases hn5 i hi with e | e
          · exact .inl (.inr (.inr e))
          · exact .inr (by simp at e; omega)
    · have e1 : (d ++ [x]).filter powS = d.filter powS := by
        rw [List.filter_append, List.filter_cons, if_neg (show ¬ powS x = true from fun h9 => hpow (of_decide_eq_true h9)), List.filter_nil, List.append_nil]
      have hF := (((Fr.refl (S := fun i => i = lp) (h := ha)).push (o := .cells x.cells 0)).set (b := lp) (o := .loop .busy none (f0 :: f1 :: f2 :: f3 :: .pointer (some ⟨po, 0, none⟩) :: f5 :: f6 :: f7 :: f8 :: f9 :: f10 :: f11 :: f12 :: f13 :: f14 :: f15 :: f16 :: f17 :: f18 :: f19 :: f20 :: f21 :: f22 :: f23 :: f24 :: f25 :: f26 :: f27 :: f28 :: f29 :: f30 :: f31 :: f32 :: f33 :: f34 :: f35 :: f36 :: f37 :: f38 :: f39 :: f40 :: f41 :: f42 :: f43 :: f44 :: f45 :: f46 :: f47 :: f48 :: f49 :: f50 :: f51 :: f52 :: f53 :: f54 :: f55 :: f56 :: f57 :: f58 :: f59 :: f60 :: f61 :: f62 :: f63 :: f64 :: f65 :: []) [49] zsQ_ra0 zsQ_rb0) fun _ => rfl).set (b := lp) (o := .loop .ready none (f0 :: f1 :: f2 :: f3 :: .pointer (some ⟨po, 0, none⟩) :: f5 :: f6 :: f7 :: f8 :: f9 :: f10 :: f11 :: f12 :: f13 :: f14 :: f15 :: f16 :: f17 :: f18 :: f19 :: f20 :: f21 :: f22 :: f23 :: f24 :: f25 :: f26 :: f27 :: f28 :: f29 :: f30 :: f31 :: f32 :: f33 :: f34 :: f35 :: f36 :: f37 :: f38 :: f39 :: f40 :: f41 :: f42 :: f43 :: f44 :: f45 :: f46 :: f47 :: f48 :: f49 :: f50 :: f51 :: f52 :: f53 :: f54 :: f55 :: f56 :: f57 :: f58 :: f59 :: f60 :: f61 :: f62 :: f63 :: f64 :: f65 :: []) [49] zsQ_ra0 zsQ_rb0) fun _ => rfl
      refine stp ?_
      refine A.on ?_
      refine ⟨rfl, _, ⟨by simp; have := hj.ln; omega, by rw [Heap.get_set, if_pos rfl], by simp; have := hj.pn; omega, by simp; have := hj.qn; omega, hj.fr.trans hF fun i hi e => by omega, w, by rw [hF.get _ hj.pn h3]; exact hg, ?_, hw, rfl⟩, hF.mono fun i _ => .inl, fun i hi => .inl hi⟩
      rw [e1]
      exact ho.keep hF fun b hb => (hw b hb).2.1
end Go.Proofs.Ytmfaepkmiceoeaa.A

namespace Go.Proofs.Ytmfaepkmiceoeaa.A
open Go Go.Vm
set_option maxRecDepth 10000
set_option linter.unusedVariables false
theorem chkC_steps {l : List Val} : ∀ {cs : List Val} {o : Option Val}, chkC l o cs = 0 → stepsV 0 o cs = 0
  | [], _, _ => rfl
  | c :: cs, o, h => by
    have key : ∀ b : Bool, (if b = true then (9 : Int) else if c.p < 0 ∨ 4611686018427387904 < c.p then 3 else if c.p = 0 ∧ (findN l c).isSome = false then 10 else chkC l (some c) cs) = 0 → (if b = true then (9 : Int) else if c.p < 0 ∨ 4611686018427387904 < c.p then 3 else stepsV 0 (some c) cs) = 0 := by
      intro b h
      by_cases hA : b = true
      · rw [if_pos hA] at h; cases h
      · rw [if_neg hA] at h ⊢
        by_cases hB : c.p < 0 ∨ 4611686018427387904 < c.p
        · rw [if_pos hB] at h; cases h
        · rw [if_neg hB] at h ⊢
          by_cases hC : c.p = 0 ∧ (findN l c).isSome = false
          · rw [if_pos hC] at h; cases h
          · rw [if_neg hC] at h
            exact chkC_steps h
    exact key _ h
theorem merge_all {l cs : List Val} (h1 : checkV l = 0) (h2 : chkC l none cs = 0) : allS l cs = (mergeS l cs).filter powS := by
  obtain ⟨_, _, c3, c4⟩ := checkV_ok h1
  have h3 := chkC_steps h2
  exact allS_merge (steps_rise c3).2 (steps_rise h3).2 (fun v hv => (c4 v hv).1) (fun v hv => (stepsV_range h3 v hv).1)
theorem mergeS_len : ∀ (cs l : List Val), (mergeS l cs).length ≤ l.length + cs.length
  | [], l => by rw [mergeS]; simp
  | c :: cs, l => by
    have h1 := mergeS_len cs (skipS c (l.dropWhile (belowS c)))
    have h2 := (skipS_sub c (l.dropWhile (belowS c))).length_le
    have h3 : (l.takeWhile (belowS c)).length + (l.dropWhile (belowS c)).length = l.length := by
      conv => rhs; rw [← List.takeWhile_append_dropWhile (p := belowS c) (l := l)]
      rw [List.length_append]
    rw [mergeS, List.length_append, List.length_cons, List.length_cons]
    omega
set_option maxHeartbeats 16000000 in
theorem VChange_ok {h : Heap} {v w : Value} {l cs : List Val} (hv : Sd h 5 v (vcells l) l.length) (hw : Rd h 5 w (vcells cs) cs.length) (hl : l.length < 400000) (hcs : cs.length < 50000) :
    Runs Try.prog T0 (.fn fn_zsQ) [v, w] h
      (fun r h' => ∃ x, r = .tuple ⟨[x, .int .i64 (changeS l cs).1]⟩ ∧ Own h' 5 x (vcells (changeS l cs).2) (changeS l cs).2.length ∧ (∀ i, ownedBy x i → h.n ≤ i) ∧ Fr (fun _ => False) h h') (fun _ _ => False) := by
  have hw0 := hw
  obtain ⟨a, cap, rfl, hlen, hc⟩ := hw
  refine zsQ_runs ?_
  refine stp ?_
  refine O.call' (VCheck_ok (hv.rd.keep (S := fun _ => False) Fr.refl.push fun _ _ => id)) (fun r h1 hr => ?_)
  obtain ⟨rfl, hf1⟩ := hr
  have n1 := hf1.n
  simp only [Heap.n_push] at n1
  have g1 : HGet h1 h.n (.cells [.slice none 0 0] 0) := hf1.keep (b := h.n) HGet.new (by simp) id
  have hF1 : Fr (fun _ => False) h h1 := Fr.trans (S := fun _ => False) Fr.refl.push hf1 fun _ _ => id
  haveI := g1
  haveI : BLt h.n h1 := ⟨by omega⟩
  refine stp ?_
  unfold changeS
  refine C.ifN (fun hz => ?_) (fun hz => ?_)
  · refine stp ?_
    rw [if_pos hz]
    exact ⟨_, rfl, .none, fun i hi => hi.elim, hF1.set fun e => absurd e (by omega)⟩
  rw [if_neg (by omega)]
  refine stp ?_
  refine zsQ_l0_rule (fun m v5 v22 h' => ∃ k : Nat, k ≤ cs.length ∧ m = cs.length - k ∧ v22 = .int .i64 k ∧ (∃ x : Val, h'.get h1.n = .cells (lookC x (decide (0 < k)) 0 4611686018427387904) 0 ∧ (0 < k → lastV cs k = some x)) ∧ h1.n < h'.n ∧ h'.get h.n = .cells [.slice none 0 0] 0 ∧ Fr (fun _ => False) h h' ∧ chkC l none cs = chkC l (lastV cs k) (cs.drop k)) ?_ cs.length ⟨0, by omega, rfl, rfl, ⟨zVal, ?_, by omega⟩, ?_, ?_, ?_, rfl⟩
  · rintro m v5 v22 h' x9 x10 x11 x12 x23 x24 x25 x26 x27 x28 x29 x30 x31 x32 x33 x34 x35 x36 x37 x38 x39 x40 x41 x42 x43 x44 x45 ⟨k, hk, rfl, rfl, ⟨x, hg, hx⟩, hn, hgo, hf, hst⟩
    refine stp ?_
    refine C.if (fun hlt => ?_) (fun hge => ?_)
    · have hlt : k < cs.length := by omega
      obtain ⟨b, o, sp, rfl, hb, hcc⟩ := hc (by omega)
      have hcc' : cellsAt h' b o (cs.length * 5) = some (vcells cs) := by rw [cellsAt_keep hf hb id]; exact hcc
      haveI := val_cells hcc' rfl hlt
      refine stp ?_
      have hgP : (h'.push (.cells (cs.getD k zVal).cells 0)).get h1.n = .cells (lookC x (decide (0 < k)) 0 4611686018427387904) 0 := by rw [Heap.get_push, if_neg (by omega), hg]
      refine O.call' (at_ok (x := x) (v := cs.getD k zVal) hgP (by simp; omega)) (fun r h2 hr => ?_)
      obtain ⟨rfl, hg2, hf2⟩ := hr
      have n2 := hf2.n
      simp only [Heap.n_push] at n2
      have hfh : Fr (fun _ => False) h h2 := Fr.trans (S := fun _ => False) hf.push hf2 fun i hi ho => by omega
      have gc2 : h2.get h'.n = .cells (cs.getD k zVal).cells 0 := by rw [hf2.get _ (by simp) (by omega), Heap.get_push, if_pos rfl]
      have go2 : h2.get h.n = .cells [.slice none 0 0] 0 := by rw [hf2.get _ (by simp; omega) (by omega), Heap.get_push, if_neg (by omega)]; exact hgo
      haveI : HGet h2 h'.n _ := ⟨gc2⟩
      haveI : HGet h2 h.n _ := ⟨go2⟩
      haveI : BLt h'.n h2 := ⟨by omega⟩
      haveI : BLt h.n h2 := ⟨by omega⟩
      rw [chkC_atS hlt hx] at hst
      refine stp ?_
      refine C.ifN (fun he => ?_) (fun he => ?_)
      · refine stp ?_
        rw [if_neg he] at hst
        rw [if_pos (by rw [hst]; exact he), hst]
        exact ⟨_, rfl, .none, fun i hi => hi.elim, hfh.set fun e => absurd e (by omega)⟩
      rw [if_pos he] at hst
      refine stp ?_
      refine O.call' (Find_ok (w := cs.getD k zVal) (hv.rd.keep hfh fun _ _ => id) (by omega)) (fun r h3 hr => ?_)
      obtain ⟨rfl, hf3⟩ := hr
      have n3 := hf3.n
      have hf03 := hfh.trans' hf3
      have gc3 : h3.get h'.n = .cells (cs.getD k zVal).cells 0 := by rw [hf3.get _ (by omega) id]; exact gc2
      have go3 : h3.get h.n = .cells [.slice none 0 0] 0 := by rw [hf3.get _ (by omega) id]; exact go2
      have gx3 : h3.get h1.n = .cells (lookC (cs.getD k zVal) (decide (0 < k + 1)) 0 4611686018427387904) 0 := by rw [hf3.get _ (by omega) id, hg2, decide_eq_true (show 0 < k + 1 by omega)]
      haveI : HGet h3 h'.n _ := ⟨gc3⟩
      haveI : HGet h3 h.n _ := ⟨go3⟩
      refine stp ?_
      refine O.dec (fun h5 => ?_) (fun h5 => ?_)
      · refine stp ?_
        refine C.ifB (fun h6 => ?_) (fun h6 => ?_)
        · refine stp ?_
          rw [if_pos ⟨h5, by simpa using h6⟩] at hst
          rw [if_pos (by rw [hst]; decide), hst]
          exact ⟨_, rfl, .none, fun i hi => hi.elim, hf03.set fun e => absurd e (by omega)⟩
        · rw [if_neg (fun hh => by rw [hh.2] at h6; simp at h6)] at hst
          refine stp ?_
          exact zsQ_l0_again (cs.length - (k + 1)) (by omega) ⟨k + 1, by omega, rfl, rfl, ⟨cs.getD k zVal, gx3, fun _ => rfl⟩, by omega, go3, hf03, hst⟩
      · rw [if_neg (fun hh => h5 hh.1)] at hst
        refine stp ?_
        exact zsQ_l0_again (cs.length - (k + 1)) (by omega) ⟨k + 1, by omega, rfl, rfl, ⟨cs.getD k zVal, gx3, fun _ => rfl⟩, by omega, go3, hf03, hst⟩
    · obtain rfl : k = cs.length := by omega
      rw [List.drop_length] at hst
      have hst : chkC l none cs = 0 := hst
      rw [if_neg (by rw [hst]; decide)]
      haveI : HGet h' h.n _ := ⟨hgo⟩
      haveI : BLt h.n h' := ⟨by omega⟩
      obtain ⟨av, capv, rfl, _⟩ := id hv
      refine stp ?_
      refine O.call' merged_ok (fun r ha hr => ?_)
      obtain ⟨rfl, rfl⟩ := hr
      refine stp ?_
      have hvB : ∀ i, blockOf (.slice av l.length capv) i → i < h.n := fun i hi => Rd.block_lt hv.rd hi
      have hwB : ∀ i, blockOf (.slice a cs.length cap) i → i < h.n := fun i hi => Rd.block_lt hw0 hi
      have na : ((h'.push (.cells [.slice av l.length capv] 0)).push (.cells [.slice a cs.length cap] 0)).n = h'.n + 2 := rfl
      have gpl : ((h'.push (.cells [.slice av l.length capv] 0)).push (.cells [.slice a cs.length cap] 0)).get h'.n = .cells [.slice av l.length capv] 0 := by rw [Heap.get_push, if_neg (by simp), Heap.get_push, if_pos rfl]
      have gpc : ((h'.push (.cells [.slice av l.length capv] 0)).push (.cells [.slice a cs.length cap] 0)).get (h'.n + 1) = .cells [.slice a cs.length cap] 0 := HGet.new.eq
      have gpo : ((h'.push (.cells [.slice av l.length capv] 0)).push (.cells [.slice a cs.length cap] 0)).get h.n = .cells [.slice none 0 0] 0 := by rw [Heap.get_push, if_neg (by simp; omega), Heap.get_push, if_neg (by omega)]; exact hgo
      have hfa : Fr (fun _ => False) h ((h'.push (.cells [.slice av l.length capv] 0)).push (.cells [.slice a cs.length cap] 0)) := hf.push.push
      generalize (h'.push (.cells [.slice av l.length capv] 0)).push (.cells [.slice a cs.length cap] 0) = ha at *
      have hml := mergeS_len cs l
      have hfP : ∀ {o1 o2 : AObj}, Fr (fun _ => False) h ((ha.push o1).push o2) := fun {o1 o2} => hfa.push.push
      refine range_on (J := fun hx => ∃ o rec, OutJ h'.n (ha.n + 1) h.n rec (ha.push (.defs false)) (mergeS l cs) o hx) ?_ (fun hx hJ => ?_)
      · refine Runs.mono (merged1_ok (l := l) (cs := cs) (v := .slice av l.length capv) (w := .slice a cs.length cap) (pl := h'.n) (pc := h'.n + 1) (Bk := fun i => i < h.n) (Change_go (lp := ha.n + 1) (pl := h'.n) (po := h.n) (h0 := ha.push (.defs false)) (by omega) (by omega) (by omega) (by omega) (by simp)) ⟨⟨by simp, HGet.new.eq, by simp; omega, by simp; omega, Fr.refl.push, .slice none 0 0, ?_, .none, fun i hi => hi.elim, rfl⟩, by simp; omega, ?_, hv.keep hfP fun _ _ => id, hvB, ?_, ?_, hw0.keep hfP fun _ _ => id, hwB⟩ ?_ (by omega) (by omega)) (fun v hx hh => ?_) (fun _ _ hx => hx)
        · rw [Heap.get_push, if_neg (by simp; omega), Heap.get_push, if_neg (by omega)]; exact gpo
        · rw [Heap.get_push, if_neg (by simp; omega), Heap.get_push, if_neg (by omega)]; exact gpl
        · rintro i (rfl | rfl | hi)
          · exact ⟨by omega, by omega⟩
          · exact ⟨by omega, by omega⟩
          · exact hi.elim
        · exact fun i hi => ⟨by have := hfa.n; simp; omega, by omega⟩
        · rw [Heap.get_push, if_neg (by simp; omega), Heap.get_push, if_neg (by omega)]; exact gpc
        · obtain ⟨o, hj⟩ := hh
          exact ⟨hj.lg, o, _, hj⟩
      · obtain ⟨o, rec, hj⟩ := hJ
        obtain ⟨w, hgw, how, hw2, _⟩ := hj.out
        have gdf : hx.get ha.n = .defs false := by rw [hj.fr.get _ (by simp) (fun e => by omega), Heap.get_push, if_pos rfl]
        have hfx : Fr (fun _ => False) h hx := hfa.push.trans hj.fr fun i hi e => by omega
        rw [← merge_all hz hst] at how
        have hlx := hj.ln
        have hpx := hj.pn
        clear gpl gpc gpo hgo hg hj
        obtain ⟨aw, cw, rfl, _⟩ := id how.rd
        haveI : HGet hx h.n _ := ⟨hgw⟩
        haveI : HGet hx ha.n _ := ⟨gdf⟩
        haveI : BNe h.n (ha.n + 1) := ⟨by omega⟩
        haveI : BNe ha.n (ha.n + 1) := ⟨by omega⟩
        haveI : BNe ha.n h.n := ⟨by omega⟩
        haveI : BNe h.n ha.n := ⟨by omega⟩
        have hend : ∀ {o1 o2 o3 : AObj}, Fr (fun _ => False) h ((((hx.set (ha.n + 1) o1).set (ha.n + 1) o2).set ha.n o3)) := fun {o1 o2 o3} => ((hfx.set fun e => by have := hfa.n; omega).set fun e => by have := hfa.n; omega).set fun e => by have := hfa.n; omega
        have hend2 : ∀ {o1 o2 o3 o4 : AObj}, Fr (fun _ => False) h (((((hx.set (ha.n + 1) o1).set (ha.n + 1) o2).set h.n o4).set ha.n o3)) := fun {o1 o2 o3 o4} => (((hfx.set fun e => by have := hfa.n; omega).set fun e => by have := hfa.n; omega).set fun e => by omega).set fun e => by have := hfa.n; omega
        refine stp ?_
        refine C.if (fun h5 => ?_) (fun h5 => ?_)
        · refine stp ?_
          refine B.retC ?_
          rw [if_pos (by omega)]
          exact ⟨_, rfl, .none, fun i hi => hi.elim, hend2⟩
        rw [if_neg (by omega)]
        refine stp ?_
        refine C.if (fun h6 => ?_) (fun h6 => ?_)
        · refine stp ?_
          refine B.retC ?_
          rw [if_pos (by omega)]
          exact ⟨_, rfl, .none, fun i hi => hi.elim, hend2⟩
        rw [if_neg (by omega)]
        refine stp ?_
        refine B.retC ?_
        refine ⟨_, rfl, ?_, fun i hi => ?_, hend2⟩
        · refine how.keep (S := fun i => i = ha.n + 1 ∨ i = h.n ∨ i = ha.n) ((((Fr.refl.set fun _ => .inl rfl).set fun _ => .inl rfl).set fun _ => .inr (.inl rfl)).set fun _ => .inr (.inr rfl)) fun b hb e => ?_
          have := hw2 b hb
          simp at this
          omega
        · have h7 := (hw2 i hi).1
          have h8 := hfa.n
          simp at h7
          omega
  · rw [Heap.get_push, if_pos rfl]
    rfl
  · simp
  · rw [Heap.get_push, if_neg (by omega)]
    exact g1.eq
  · exact hF1.push
end Go.Proofs.Ytmfaepkmiceoeaa.A

namespace Go.Proofs.Ytmfaepkmiceoeaa.A
open Go Go.Vm
set_option maxRecDepth 10000
set_option linter.unusedVariables false
theorem changeS_len {l cs : List Val} (hl : l.length ≤ 80) (hcs : cs.length ≤ 80) : (changeS l cs).2.length ≤ 160 := by
  have := allS_len cs l
  unfold changeS
  split
  · simp
  · split
    · simp
    · split
      · simp
      · split
        · simp
        · show (allS l cs).length ≤ 160
          omega
set_option maxHeartbeats 4000000 in
theorem ValsChanges_true {h : Heap} {v w : Value} {l cs : List Val} (hv : Rd h 5 v (vcells l) l.length) (hw : Rd h 5 w (vcells cs) cs.length) : Runs Try.prog T0 (.fn fn_zfQ) [v, w] h (fun r h' => r = .bool true) (fun _ _ => False) := by
  have hv0 := hv
  have hw0 := hw
  obtain ⟨a1, c1, rfl, _, _⟩ := hv
  obtain ⟨a2, c2, rfl, _, _⟩ := hw
  refine zfQ_runs ?_
  refine stp ?_
  refine O.dec (fun h0 => ?_) (fun h0 => ?_)
  · refine stp ?_
    refine O.call' ziQ_known (fun r h1 hr => ?_)
    obtain ⟨rfl, rfl⟩ := hr
    refine stp ?_
    rfl
  refine stp ?_
  refine C.if (fun h1 => ?_) (fun h1 => ?_)
  · refine stp ?_
    refine O.call' ziQ_known (fun r h1 hr => ?_)
    obtain ⟨rfl, rfl⟩ := hr
    refine stp ?_
    rfl
  have hl : l.length ≤ 80 := by omega
  have hc : cs.length ≤ 80 := by omega
  have hcl := changeS_len hl hc
  refine stp ?_
  refine O.call' (CopyVals_ok hv0 (by omega)) (fun r ha hr => ?_)
  obtain ⟨hoa, hfa, hna⟩ := hr
  refine stp ?_
  refine O.call' (CopyVals_ok (hw0.keep hfa fun _ _ => id) (by omega)) (fun r2 hb hr => ?_)
  obtain ⟨hob, hfb, hnb⟩ := hr
  have hfab := hfa.trans' hfb
  refine stp ?_
  refine O.call' (VChange_ok (hoa.keep hfb fun _ _ => id).sd hob.rd (by omega) (by omega)) (fun r3 hc3 hr => ?_)
  obtain ⟨x1, rfl, ho1, hn1, hf3⟩ := hr
  have hf03 := hfab.trans' hf3
  refine stp ?_
  refine O.call' (RChange_ok (hv0.keep hf03 fun _ _ => id) (hw0.keep hf03 fun _ _ => id) (by omega) (by omega)) (fun r4 h4 hr => ?_)
  obtain ⟨x2, rfl, ho2, hn2, hf4⟩ := hr
  have hf04 := hf03.trans' hf4
  generalize changeS l cs = D at *
  obtain ⟨e, L⟩ := D
  have ho14 := ho1.keep hf4 fun _ _ => id
  have hcl1 : L.length < 1048576 := Nat.lt_of_le_of_lt hcl (by omega)
  refine stp ?_
  refine O.call' (SameVals_same ho14.rd ho2.rd hcl1) (fun r5 h5 hr => ?_)
  obtain ⟨rfl, rfl⟩ := hr
  refine stp ?_
  simp only [eq_self, decide_true]
  refine stp ?_
  refine O.call' (OverVals_ok ho14 hcl1) (fun r6 h6 hr => ?_)
  have hf6 := hr
  have hfa6 : Fr (fun _ => False) ha h6 := ((hfb.trans' hf3).trans' hf4).trans hf6 fun i hi e => by have := hn1 i e; have := hfb.n; omega
  have hfb6 : Fr (fun _ => False) hb h6 := (hf3.trans' hf4).trans hf6 fun i hi e => by have := hn1 i e; omega
  have hf06 := hfa.trans' hfa6
  refine stp ?_
  refine O.callT (SameVals_same (hoa.keep hfa6 fun _ _ => id).rd (hv0.keep hf06 fun _ _ => id) (by omega)) (fun r7 h7 hr => ?_)
  obtain ⟨rfl, rfl⟩ := hr
  refine stp ?_
  refine O.callT (SameVals_same (hob.keep hfb6 fun _ _ => id).rd (hw0.keep hf06 fun _ _ => id) (by omega)) (fun r7 h7 hr => ?_)
  obtain ⟨rfl, rfl⟩ := hr
  refine stp ?_
  refine O.callT ziQ_known (fun r8 h8 hr => ?_)
  obtain ⟨rfl, rfl⟩ := hr
  refine stp ?_
  rfl
end Go.Proofs.Ytmfaepkmiceoeaa.A

namespace Go.Proofs.Ytmfaepkmiceoeaa.A
open Go Go.Vm
set_option maxRecDepth 10000
set_option linter.unusedVariables false
theorem u8nat {n : Nat} (h : n < 256) : (UInt8.ofNat n).toNat = n := by
  rw [UInt8.toNat_ofNat']
  exact Nat.mod_eq_of_lt h
end Go.Proofs.Ytmfaepkmiceoeaa.A

namespace Go.Proofs.Ytmfaepkmiceoeaa.A
open Go Go.Vm
set_option maxRecDepth 10000
set_option linter.unusedVariables false
theorem fits_bytes {h : Heap} {m : Nat} {te : TypeId} {c : List Value} {len : Nat} (hu : Try.prog.underlying te = some (.int .u8)) (hs : Try.prog.cellsOf te = 1) (hl : c.length = len * Try.prog.cellsOf te) (hall : ∀ i, i < len → Fits Try.prog h (m + 1) te ((c.drop (i * Try.prog.cellsOf te)).take (Try.prog.cellsOf te))) : ∃ bs : List UInt8, c = bcells bs ∧ bs.length = len := by
  rw [hs, Nat.mul_one] at hl
  induction c generalizing len with
  | nil => exact ⟨[], rfl, by simpa using hl⟩
  | cons v c ih =>
    cases len with
    | zero => simp at hl
    | succ len =>
      have h0 := hall 0 (by omega)
      rw [hs] at h0
      unfold Fits at h0
      rw [hu] at h0
      simp only [Nat.zero_mul, List.drop_zero, List.take_succ_cons, List.take_zero] at h0
      obtain ⟨x, hx, hwf⟩ := h0
      injection hx with hx _
      obtain ⟨bs, rfl, hb⟩ := ih (len := len) (by simpa using hl) fun i hi => by
        have := hall (i + 1) (by omega)
        rw [hs] at this ⊢
        simpa using this
      have hr : 0 ≤ x ∧ x ≤ 255 := by
        simp [Lit.wf, IntKind.min, IntKind.max, IntKind.signed, IntKind.bits] at hwf
        omega
      refine ⟨UInt8.ofNat x.toNat :: bs, ?_, by simp [hb]⟩
      rw [hx]
      show Value.int .u8 x :: bcells bs = Value.int .u8 ((UInt8.ofNat x.toNat).toNat : Nat) :: bcells bs
      rw [u8nat (by omega)]
      congr 2
      omega
end Go.Proofs.Ytmfaepkmiceoeaa.A

namespace Go.Proofs.Ytmfaepkmiceoeaa.A
open Go Go.Vm
set_option maxRecDepth 100000
set_option linter.unusedVariables false
theorem vals_cells_fit {h : Heap} {m : Nat} {te tk tb ti : TypeId} (f0 : fieldAt Try.prog te 0 = some (0, tk)) (f1 : fieldAt Try.prog te 1 = some (4, ti)) (uk : Try.prog.underlying tk = some (.array 4 tb)) (ub : Try.prog.underlying tb = some (.int .u8)) (ui : Try.prog.underlying ti = some (.int .i64))
    (ce : Try.prog.cellsOf te = 5) (ck : Try.prog.cellsOf tk = 4) (cb : Try.prog.cellsOf tb = 1) (ci : Try.prog.cellsOf ti = 1) : ∀ (len : Nat) (c : List Value), c.length = len * 5 → (∀ i, i < len → Fits Try.prog h (m + 3) te ((c.drop (i * 5)).take 5)) →
    ∃ l : List Val, c = vcells l ∧ l.length = len ∧ ∀ v ∈ l, -9223372036854775808 ≤ v.p ∧ v.p ≤ 9223372036854775807
  | 0, c, hl, _ => ⟨[], by rw [vcells_nil]; simpa using hl, rfl, fun v hv => by cases hv⟩
  | len + 1, c, hl, hall => by
    have h0 := hall 0 (by omega)
    rw [Nat.zero_mul, List.drop_zero] at h0
    have hk := h0.field f0
    obtain ⟨p, g1, w1⟩ := (h0.field f1).int ui
    rw [ck] at hk
    rw [ci] at g1
    rw [List.drop_zero] at hk
    have h4 : (c.take 5).take 4 = c.take 4 := by rw [List.take_take]; rfl
    rw [h4] at hk
    have hb : ∃ bs : List UInt8, c.take 4 = bcells bs ∧ bs.length = 4 := by
      unfold Fits at hk
      rw [uk] at hk
      exact fits_bytes ub cb (by rw [hk.1, ck, cb]) hk.2
    obtain ⟨bs, hb1, hb2⟩ := hb
    obtain ⟨a0, a1, a2, a3, rfl⟩ := four hb2
    obtain ⟨l, e1, e2, e3⟩ := vals_cells_fit f0 f1 uk ub ui ce ck cb ci len (c.drop 5) (by rw [List.length_drop]; omega) fun i hi => by
      have := hall (i + 1) (by omega)
      rw [List.drop_drop]
      rw [show (i + 1) * 5 = 5 + i * 5 from by omega] at this
      exact this
    refine ⟨⟨a0, a1, a2, a3, p⟩ :: l, ?_, by simp [e2], fun v hv => ?_⟩
    · rw [vcells_cons, ← e1]
      have e5 : c = c.take 5 ++ c.drop 5 := (List.take_append_drop 5 c).symm
      have e6 : c.take 5 = c.take 4 ++ ((c.take 5).drop 4).take 1 := by
        have h1 : ((c.take 5).drop 4).take 1 = (c.take 5).drop 4 := List.take_of_length_le (by rw [List.length_drop, List.length_take]; omega)
        rw [h1, ← h4, List.take_append_drop]
      conv => lhs; rw [e5, e6, hb1, g1]
      rfl
    · rcases List.mem_cons.1 hv with rfl | hv
      · exact wf_i64 w1
      · exact e3 v hv
theorem fits_vlist {h : Heap} {m : Nat} {t te tk tb ti : TypeId} {v : Value} (ht : Try.prog.underlying t = some (.slice te)) (f0 : fieldAt Try.prog te 0 = some (0, tk)) (f1 : fieldAt Try.prog te 1 = some (4, ti)) (uk : Try.prog.underlying tk = some (.array 4 tb)) (ub : Try.prog.underlying tb = some (.int .u8)) (ui : Try.prog.underlying ti = some (.int .i64))
    (ce : Try.prog.cellsOf te = 5) (ck : Try.prog.cellsOf tk = 4) (cb : Try.prog.cellsOf tb = 1) (ci : Try.prog.cellsOf ti = 1) (hv : FitsV Try.prog h (m + 4) t v) : ∃ l : List Val, Rd h 5 v (vcells l) l.length ∧ ∀ v ∈ l, -9223372036854775808 ≤ v.p ∧ v.p ≤ 9223372036854775807 := by
  unfold FitsV at hv
  rw [ht] at hv
  unfold Fits at hv
  rw [ht] at hv
  rcases hv with hv | ⟨b, len, cap, c, hv, hb, hlc, hcap, hro, hl, hall⟩
  · injection hv with hv
    subst hv
    exact ⟨[], Rd.nil, fun v hv => by cases hv⟩
  · injection hv with hv
    subst hv
    rw [ce] at hl hall
    obtain ⟨l, rfl, e2, e3⟩ := vals_cells_fit f0 f1 uk ub ui ce ck cb ci len c hl hall
    refine ⟨l, ⟨_, _, by rw [e2], vcells_len l, fun hn => ⟨b, 0, none, rfl, hb, ?_⟩⟩, e3⟩
    rw [cellsAt_of (c := vcells l) (by rw [hro (by omega)]; rfl) (by rw [vcells_len]; omega), List.drop_zero, List.take_of_length_le (by rw [vcells_len]; omega)]
end Go.Proofs.Ytmfaepkmiceoeaa.A

namespace Go.Proofs.Ytmfaepkmiceoeaa.A
open Go Go.Vm
set_option maxRecDepth 100000
set_option linter.unusedVariables false
theorem ValsChanges_run (h : Heap) (vs : List Value) (hf : FitsAll Try.prog h 8 [25, 25] vs) : Runs Try.prog T0 (.fn fn_zfQ) vs h (fun r _ => r = .bool true) (fun _ _ => False) := by
  obtain ⟨v1, _, rfl, h1, hf⟩ := hf.cons
  obtain ⟨v2, _, rfl, h2, hf⟩ := hf.cons
  obtain rfl := hf.nil
  obtain ⟨l, hl, _⟩ := fits_vlist (m := 4) (te := 54) (tk := 42) (tb := 5) (ti := 3) (by kernel_rfl) (by kernel_rfl) (by kernel_rfl) (by kernel_rfl) (by kernel_rfl) (by kernel_rfl) (by kernel_rfl) (by kernel_rfl) (by kernel_rfl) (by kernel_rfl) h1
  obtain ⟨m, hm, _⟩ := fits_vlist (m := 4) (te := 54) (tk := 42) (tb := 5) (ti := 3) (by kernel_rfl) (by kernel_rfl) (by kernel_rfl) (by kernel_rfl) (by kernel_rfl) (by kernel_rfl) (by kernel_rfl) (by kernel_rfl) (by kernel_rfl) (by kernel_rfl) h2
  exact ValsChanges_true hl hm
end Go.Proofs.Ytmfaepkmiceoeaa.A

namespace Go.Proofs.Ytmfaepkmiceoeaa.A
open Go Go.Vm
set_option maxRecDepth 100000
theorem ran_5 : allTrue (xcall Try.prog (tableOf Try.prog) 1000 60 (.fn 5) [] Heap.init) = true := by kernel_rfl
theorem has_5 : (tableOf Try.prog 5).isSome = true := by kernel_rfl
theorem ran_9 : allTrue (xcall Try.prog (tableOf Try.prog) 1000 60 (.fn 9) [] Heap.init) = true := by kernel_rfl
theorem has_9 : (tableOf Try.prog 9).isSome = true := by kernel_rfl
theorem known : KnownAll Try.prog prims := ⟨⟨Option.isSome_iff_exists.1 has_5, fun w => known_calls (Checked.mixed Try.checked) tableOf_ok ran_5 w⟩, ⟨⟨Option.isSome_iff_exists.1 has_9, fun w => known_calls (Checked.mixed Try.checked) tableOf_ok ran_9 w⟩, trivial⟩⟩
theorem T0_ok : TableOK Try.prog T0 := withKept_ok (withTrue_ok known) fun k hk => by simp at hk
end Go.Proofs.Ytmfaepkmiceoeaa.A
