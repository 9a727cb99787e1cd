/- Contracts of functions, over the machine. -/
import Derived.Test.YtmfaepkmiceoeaaQValsMade1
import Derived.Test.YtmfaepkmiceoeaaVK
import Derived.Test.YtmfaepkmiceoeaaVJ
noncomputable section
namespace Go.Proofs.Ytmfaepkmiceoeaa.A
open Go Go.Vm
set_option maxRecDepth 10000
set_option linter.unusedVariables false
end Go.Proofs.Ytmfaepkmiceoeaa.A

namespace Go.Proofs.Ytmfaepkmiceoeaa.A
open Go Go.Vm
set_option maxRecDepth 10000
set_option linter.unusedVariables false
theorem mergeS_cons (l : List Val) (c : Val) (cs : List Val) : mergeS l (c :: cs) = l.takeWhile (belowS c) ++ c :: mergeS (skipS c (l.dropWhile (belowS c))) cs := by
  rw [mergeS]
theorem vcells_drop1 (v : Val) (l : List Val) : ((vcells (v :: l)).drop (1 * 5)).take (((v :: l).length - 1) * 5) = vcells l := by
  rw [vcells_cons]
  show ((v.cells ++ vcells l).drop 5).take _ = _
  rw [List.drop_left' (by rfl), List.take_of_length_le]
  rw [vcells_len, List.length_cons]
  omega
theorem head_cells {h : Heap} {b o n : Nat} {v : Val} {l : List Val} (hc : cellsAt h b o (n * 5) = some (vcells (v :: l))) (hn : (v :: l).length = n) : Cells h b o 5 v.cells := by
  have := val_cells (k := 0) hc hn (by rw [← hn]; simp)
  simpa using this
theorem head_key {h : Heap} {b o n : Nat} {v : Val} {l : List Val} (hc : cellsAt h b o (n * 5) = some (vcells (v :: l))) (hn : (v :: l).length = n) : Cells h b o 4 v.kcells := by
  have := val_key (k := 0) hc hn (by rw [← hn]; simp)
  simpa using this
theorem low_ends {c : Val} {l : List Val} (h : ∀ x t, l = x :: t → ¬ kn x < kn c) : l.takeWhile (belowS c) = [] ∧ l.dropWhile (belowS c) = l := by
  cases l with
  | nil => exact ⟨rfl, rfl⟩
  | cons x t =>
    have hb : ¬ belowS c x = true := fun h9 => h x t rfl (of_decide_eq_true h9)
    rw [List.takeWhile_cons, List.dropWhile_cons, if_neg hb, if_neg hb]
    exact ⟨rfl, rfl⟩
structure Gets (J : List Val → (Nat → Prop) → Heap → Prop) (pl lp N : Nat) : Prop where
  lt : ∀ d o h, J d o h → ∀ i, o i → i < h.n
  keep : ∀ d o h1 h2, J d o h1 → Fr (fun i => i = pl) h1 h2 → J d o h2
  go : ∀ d o h1 x, J d o h1 → d.length < N → Runs Try.prog T0 (.yield lp) [.agg ⟨x.cells⟩] h1 (fun r h2 => r = .bool true ∧ ∃ o', J (d ++ [x]) o' h2 ∧ Fr o h1 h2 ∧ ∀ i, o' i → o i ∨ h1.n ≤ i) (fun _ _ => False)
structure MSt (J : List Val → (Nat → Prop) → Heap → Prop) (pl : Nat) (Bk : Nat → Prop) (w : Value) (cs : List Val) (d : List Val) (o : Nat → Prop) (v' : Value) (l' : List Val) (h' : Heap) : Prop where
  j : J d o h'
  lt : pl < h'.n
  g : h'.get pl = .cells [v'] 0
  sd : Sd h' 5 v' (vcells l') l'.length
  sub : ∀ i, blockOf v' i → Bk i
  own : ∀ i, o i → i ≠ pl ∧ ¬ Bk i
  blt : ∀ i, Bk i → i < h'.n ∧ i ≠ pl
  rd : Rd h' 5 w (vcells cs) cs.length
  subw : ∀ i, blockOf w i → Bk i
theorem MSt.push {J : List Val → (Nat → Prop) → Heap → Prop} {pl lp N : Nat} {Bk : Nat → Prop} {w : Value} {cs d : List Val} {o : Nat → Prop} {v' : Value} {l' : List Val} {h' h2 : Heap} (G : Gets J pl lp N) (m : MSt J pl Bk w cs d o v' l' h') (hf : Fr (fun _ => False) h' h2) : MSt J pl Bk w cs d o v' l' h2 :=
  ⟨G.keep _ _ _ _ m.j (hf.mono fun _ _ h => h.elim), hf.lt m.lt, by rw [hf.get _ m.lt id]; exact m.g, m.sd.keep hf fun _ _ => id, m.sub, m.own, fun i hi => ⟨hf.lt (m.blt i hi).1, (m.blt i hi).2⟩, m.rd.keep hf fun _ _ => id, m.subw⟩
theorem MSt.got {J : List Val → (Nat → Prop) → Heap → Prop} {pl : Nat} {Bk : Nat → Prop} {w : Value} {cs d d' : List Val} {o o' : Nat → Prop} {v' : Value} {l' : List Val} {h' h2 : Heap} (m : MSt J pl Bk w cs d o v' l' h') (hj : J d' o' h2) (hf : Fr o h' h2) (ho : ∀ i, o' i → o i ∨ h'.n ≤ i) : MSt J pl Bk w cs d' o' v' l' h2 :=
  ⟨hj, hf.lt m.lt, by rw [hf.get _ m.lt fun h => (m.own _ h).1 rfl]; exact m.g, m.sd.keep hf fun b hb h => (m.own _ h).2 (m.sub _ hb), m.sub, fun i hi => by
    rcases ho i hi with h | h
    · exact m.own i h
    · exact ⟨by have := m.lt; omega, fun hB => by have := (m.blt i hB).1; omega⟩, fun i hi => ⟨hf.lt (m.blt i hi).1, (m.blt i hi).2⟩, m.rd.keep hf fun b hb h => (m.own _ h).2 (m.subw _ hb), m.subw⟩
theorem MSt.put {J : List Val → (Nat → Prop) → Heap → Prop} {pl lp N : Nat} {Bk : Nat → Prop} {w : Value} {cs d : List Val} {o : Nat → Prop} {v' v2 : Value} {l' l2 : List Val} {h' : Heap} (G : Gets J pl lp N) (m : MSt J pl Bk w cs d o v' l' h') (hs : ∀ i, blockOf v2 i → blockOf v' i) (hv : Sd h' 5 v2 (vcells l2) l2.length) : MSt J pl Bk w cs d o v2 l2 (h'.set pl (.cells [v2] 0)) :=
  have hf : Fr (fun i => i = pl) h' (h'.set pl (.cells [v2] 0)) := Fr.refl.set fun _ => rfl
  ⟨G.keep _ _ _ _ m.j hf, by simpa using m.lt, by rw [Heap.get_set, if_pos rfl], hv.keep hf fun b hb e => (m.blt b (m.sub _ (hs _ hb))).2 e, fun i hi => m.sub _ (hs _ hi), m.own, fun i hi => ⟨by simpa using (m.blt i hi).1, (m.blt i hi).2⟩, m.rd.keep hf fun b hb e => (m.blt b (m.subw _ hb)).2 e, m.subw⟩
set_option maxHeartbeats 8000000 in
theorem merged1_ok {J : List Val → (Nat → Prop) → Heap → Prop} {h : Heap} {pc pl lp : Nat} {Bk : Nat → Prop} {v w : Value} {l cs : List Val} {o0 : Nat → Prop} (G : Gets J pl lp (mergeS l cs).length) (m0 : MSt J pl Bk w cs [] o0 v l h) (hgc : h.get pc = .cells [w] 0)
    (hl : l.length < 500000) (hcs : cs.length < 500000) :
    Runs Try.prog T0 (.fn fn_zzQ) [.func (.yield lp) #[] #[], .pointer (some ⟨pc, 0, none⟩), .pointer (some ⟨pl, 0, none⟩)] h
      (fun _ h' => ∃ o, J (mergeS l cs) o h') (fun _ _ => False) := by
  obtain ⟨aw, capw, rfl, hlen, hc⟩ := m0.rd
  haveI : HGet h pc _ := ⟨hgc⟩
  refine zzQ_runs ?_
  refine stp ?_
  refine zzQ_l1_rule (fun m v10 h' => ∃ (k : Nat) (d : List Val) (o : Nat → Prop) (v' : Value) (l' : List Val), k ≤ cs.length ∧ m = cs.length - k ∧ v10 = .int .i64 k ∧ MSt J pl Bk (.slice aw cs.length capw) cs d o v' l' h' ∧ d ++ mergeS l' (cs.drop k) = mergeS l cs ∧ l'.length ≤ l.length) ?_ cs.length ⟨0, [], o0, v, l, by omega, rfl, rfl, m0, rfl, by omega⟩
  rintro m v10 h' x5 x11 x12 x13 x14 x15 x16 x17 x18 x19 x20 x21 x22 x23 x24 x25 x26 x27 x28 x29 x30 x31 x32 x33 x34 x35 x36 x37 x38 x39 x40 x41 x42 x43 x44 x45 x46 x47 x48 x49 x50 x51 x52 ⟨k, d, o, v', l', hk, rfl, rfl, ms, heq, hll⟩
  refine stp ?_
  refine C.if (fun hlt => ?_) (fun hge => ?_)
  · have hlt : k < cs.length := by omega
    obtain ⟨a2, cap2, e2, hlen2, hc2⟩ := ms.rd
    cases e2
    obtain ⟨b, oo, sp, rfl, hb, hcc⟩ := hc2 (by omega)
    haveI := val_cells hcc rfl hlt
    refine stp ?_
    have hneq : h'.n ≠ pl := by have := ms.lt; omega
    refine zzQ_l0_rule (v := undef) (fun m h2 => ∃ (d : List Val) (o : Nat → Prop) (v' : Value) (l' : List Val), m = l'.length ∧ MSt J pl Bk (.slice (some ⟨b, oo, sp⟩) cs.length capw) cs d o v' l' h2 ∧ h2.get h'.n = .cells (cs.getD k zVal).cells 0 ∧ h'.n < h2.n ∧ ¬ o h'.n ∧ d ++ mergeS l' (cs.getD k zVal :: cs.drop (k + 1)) = mergeS l cs ∧ l'.length ≤ l.length) ?_ l'.length ⟨d, o, v', l', rfl, ms.push G Fr.refl.push, by rw [Heap.get_push, if_pos rfl], by simp, fun ho => by have := G.lt _ _ _ ms.j _ ho; omega, by rw [← drop_getD hlt]; exact heq, hll⟩
    clear ms heq hll hcc hc2 hb
    rintro m h2 x14 x15 x16 x17 x18 x19 x20 x21 x22 x23 x24 x25 x26 x27 x28 x29 x30 x31 x32 x33 ⟨d, o, v', l', rfl, ms, gq, hq, hoq, heq, hll⟩
    have hsd := ms.sd
    obtain ⟨a3, cap3, rfl, hcap3, hlen3, hc3⟩ := ms.sd
    haveI : HGet h2 pl _ := ⟨ms.g⟩
    haveI : HGet h2 h'.n _ := ⟨gq⟩
    refine stp ?_
    refine D.dec (fun h0 => ?_) (fun h0 => ?_)
    · cases l' with
      | nil => simp at h0
      | cons x t =>
      obtain ⟨b3, o3, sp3, rfl, hb3, hcc3, _⟩ := hc3 (by simp)
      haveI := head_cells hcc3 rfl
      refine stp ?_
      refine D.howT (XOp.mkIndexSl (by simp only [List.length_cons]; omega)) rfl ?_
      rw [show o3 + Int.toNat 0 * 5 = o3 from rfl]
      refine stp ?_
      refine D.callT (compare_ok (v := x) (w := cs.getD k zVal)) (fun _ _ _ => rfl) (fun r h4 hr => ?_)
      obtain ⟨rfl, hf4⟩ := hr
      have hq4 : h'.n < h4.n := hf4.lt hq
      have gq4 : h4.get h'.n = .cells (cs.getD k zVal).cells 0 := by rw [hf4.get _ hq id]; exact gq
      replace ms := ms.push G hf4
      have hsd4 := ms.sd
      haveI : HGet h4 pl _ := ⟨ms.g⟩
      haveI : HGet h4 h'.n _ := ⟨gq4⟩
      haveI : BLt pl h4 := ⟨ms.lt⟩
      refine stp ?_
      have hcmp : (cmpB x.key (cs.getD k zVal).key < 0) ↔ kn x < kn (cs.getD k zVal) := by
        have := keyLt_kn x (cs.getD k zVal)
        have h9 : keyLt x.key (cs.getD k zVal).key = decide (cmpB x.key (cs.getD k zVal).key < 0) := rfl
        rw [h9] at this
        exact decide_eq_decide.1 this
      refine C.if (fun hlow => ?_) (fun hnlow => ?_)
      · have hlow := hcmp.1 hlow
        have hbel : belowS (cs.getD k zVal) x = true := decide_eq_true hlow
        have hcc4 : cellsAt h4 b3 o3 ((x :: t).length * 5) = some (vcells (x :: t)) := by rw [cellsAt_keep hf4 hb3 id]; exact hcc3
        haveI := head_cells hcc4 rfl
        refine stp ?_
        rw [show o3 + Int.toNat 0 * 5 = o3 from rfl]
        refine stp ?_
        refine O.yield (G.go _ _ _ x ms.j (by rw [← heq, mergeS_cons, List.takeWhile_cons, if_pos hbel]; simp only [List.length_append, List.length_cons]; omega)) (fun r h5 hr => ?_)
        obtain ⟨rfl, o', hj5, hf5, ho5⟩ := hr
        have ms5 := ms.got hj5 hf5 ho5
        haveI : HGet h5 pl _ := ⟨ms5.g⟩
        refine stp ?_
        refine O.cut 1 (x :: t).length ms5.sd (fun _ _ => bnd_none) (bnd_at' (i := 1) (by simp)) (by simp) (Nat.le_refl _) (fun v2 hv2 hs2 => ?_)
        rw [vcells_drop1] at hs2
        obtain ⟨a5, cap5, rfl, _⟩ := id hs2
        refine stp ?_
        have ms6 := ms5.put (l2 := t) G hv2 (by simpa using hs2)
        have hoq6 : ¬ o' h'.n := fun hh => by
          rcases ho5 _ hh with h9 | h9
          · exact hoq h9
          · omega
        have hxt : (x :: t).length = t.length + 1 := rfl
        refine zzQ_l0_again (v := undef) t.length (by omega) ⟨d ++ [x], o', _, t, rfl, ms6, ?_, ?_, hoq6, ?_, ?_⟩
        · rw [Heap.get_set, if_neg hneq, hf5.get _ hq4 hoq]
          exact gq4
        · have := hf5.n
          simp; omega
        · rw [← heq, mergeS_cons, mergeS_cons, List.takeWhile_cons, List.dropWhile_cons, if_pos hbel, if_pos hbel, List.append_assoc]
          rfl
        · rw [List.length_cons] at hll; omega
      · have hnl : ¬ kn x < kn (cs.getD k zVal) := fun h9 => hnlow (hcmp.2 h9)
        obtain ⟨e1, e2⟩ := low_ends (c := cs.getD k zVal) (l := x :: t) (fun x' t' e => by cases e; exact hnl)
        rw [mergeS_cons, e1, e2, List.nil_append] at heq
        have hcc4 : cellsAt h4 b3 o3 ((x :: t).length * 5) = some (vcells (x :: t)) := by rw [cellsAt_keep hf4 hb3 id]; exact hcc3
        haveI := head_key hcc4 rfl
        refine stp ?_
        refine D.dec (fun h0' => ?_) (fun h0' => absurd h0 h0')
        refine stp ?_
        refine D.howT (XOp.mkIndexSl (by simp only [List.length_cons]; omega)) rfl ?_
        rw [show o3 + Int.toNat 0 * 5 = o3 from rfl]
        refine stp ?_
        rw [same_key]
        refine C.if (fun hsame => ?same) (fun hsame => ?other)
        case' same =>
          have e3 : skipS (cs.getD k zVal) (x :: t) = t := if_pos hsame
          rw [e3] at heq
          refine stp ?_
          refine O.cut 1 (x :: t).length ms.sd (fun _ _ => bnd_none) (bnd_at' (i := 1) (by simp)) (by simp) (Nat.le_refl _) (fun v2 hv2 hs2 => ?_)
          rw [vcells_drop1] at hs2
          obtain ⟨a5, cap5, rfl, _⟩ := id hs2
          have ms6 := ms.put (l2 := t) G hv2 (by simpa using hs2)
          have gq6 : (h4.set pl (.cells [.slice a5 ((x :: t).length - 1) cap5] 0)).get h'.n = .cells (cs.getD k zVal).cells 0 := by rw [Heap.get_set, if_neg hneq]; exact gq4
          have hq6 : h'.n < (h4.set pl (.cells [.slice a5 ((x :: t).length - 1) cap5] 0)).n := hq4
          have hl6 : t.length ≤ l.length := by rw [List.length_cons] at hll; omega
          refine stp ?_
        case' other =>
          have e3 : skipS (cs.getD k zVal) (x :: t) = x :: t := if_neg hsame
          rw [e3] at heq
          have ms6 := ms
          have gq6 := gq4
          have hq6 := hq4
          have hl6 := hll
          refine stp ?_
        case' same =>
          haveI : HGet (h4.set pl (.cells [.slice a5 ((x :: t).length - 1) cap5] 0)) h'.n _ := ⟨gq6⟩
          refine stp ?_
          generalize h4.set pl (.cells [.slice a5 ((x :: t).length - 1) cap5] 0) = h6 at *
        all_goals
          refine O.yield (G.go _ _ _ (cs.getD k zVal) ms6.j (by rw [← heq]; simp only [List.length_append, List.length_cons]; omega)) (fun r h7 hr => ?_)
          obtain ⟨rfl, o', hj7, hf7, ho7⟩ := hr
          refine stp ?_
          exact zzQ_l1_again (cs.length - (k + 1)) (by omega) ⟨k + 1, d ++ [cs.getD k zVal], o', _, _, by omega, rfl, rfl, ms6.got hj7 hf7 ho7, by rw [← heq, List.append_assoc]; rfl, hl6⟩
    · refine stp ?_
      refine D.dec (fun h0' => absurd h0' h0) (fun h0' => ?_)
      have e0 : l' = [] := List.length_eq_zero_iff.1 (by omega)
      subst e0
      rw [mergeS_cons] at heq
      have heq : d ++ (cs.getD k zVal :: mergeS [] (cs.drop (k + 1))) = mergeS l cs := heq
      refine stp ?_
      refine O.yield (G.go _ _ _ (cs.getD k zVal) ms.j (by rw [← heq]; simp only [List.length_append, List.length_cons]; omega)) (fun r h7 hr => ?_)
      obtain ⟨rfl, o', hj7, hf7, ho7⟩ := hr
      refine stp ?_
      exact zzQ_l1_again (cs.length - (k + 1)) (by omega) ⟨k + 1, d ++ [cs.getD k zVal], o', _, _, by omega, rfl, rfl, ms.got hj7 hf7 ho7, by rw [← heq, List.append_assoc]; rfl, hll⟩
  · obtain rfl : k = cs.length := by omega
    rw [List.drop_length] at heq
    have hsd := ms.sd
    obtain ⟨a3, cap3, rfl, hcap3, hlen3, hc3⟩ := ms.sd
    haveI : HGet h' pl _ := ⟨ms.g⟩
    refine stp ?_
    have hnil : mergeS l' [] = l' := by rw [mergeS]
    rw [hnil] at heq
    refine zzQ_l2_rule (fun m v55 h2 => ∃ (k2 : Nat) (d : List Val) (o : Nat → Prop), k2 ≤ l'.length ∧ m = l'.length - k2 ∧ v55 = .int .i64 k2 ∧ MSt J pl Bk (.slice aw cs.length capw) cs d o (.slice a3 l'.length cap3) l' h2 ∧ d ++ l'.drop k2 = mergeS l cs) ?_ l'.length ⟨0, d, o, by omega, rfl, rfl, ms, heq⟩
    clear ms heq hlen3 hc3
    rintro m v55 h' x7 x56 x57 x58 x59 x60 x61 x62 x63 ⟨k2, d, o, hk2, rfl, rfl, ms, heq⟩
    refine stp ?_
    refine C.if (fun hlt => ?_) (fun hge => ?_)
    · have hlt : k2 < l'.length := by omega
      obtain ⟨a4, cap4, e4, hcap4, hlen4, hc4⟩ := ms.sd
      cases e4
      obtain ⟨b4, o4, sp4, rfl, hb4, hcc4, _⟩ := hc4 (by omega)
      haveI := val_cells hcc4 rfl hlt
      refine stp ?_
      refine O.yield (G.go _ _ _ (l'.getD k2 zVal) (ms.push G (Fr.refl.push)).j (by rw [← heq, drop_getD hlt]; simp only [List.length_append, List.length_cons]; omega)) (fun r h7 hr => ?_)
      obtain ⟨rfl, o', hj7, hf7, ho7⟩ := hr
      refine stp ?_
      exact zzQ_l2_again (l'.length - (k2 + 1)) (by omega) ⟨k2 + 1, d ++ [l'.getD k2 zVal], o', by omega, rfl, rfl, (ms.push G (Fr.refl.push)).got hj7 hf7 ho7, by rw [← heq, drop_getD hlt, List.append_assoc]; rfl⟩
    · obtain rfl : k2 = l'.length := by omega
      rw [List.drop_length, List.append_nil] at heq
      refine stp ?_
      exact ⟨o, heq ▸ ms.j⟩
end Go.Proofs.Ytmfaepkmiceoeaa.A

namespace Go.Proofs.Ytmfaepkmiceoeaa.A
open Go Go.Vm
set_option maxRecDepth 10000
set_option linter.unusedVariables false
structure OutJ (pl lp po : Nat) (rec : AObj) (h0 : Heap) (d : List Val) (o : Nat → Prop) (h : Heap) : Prop where
  ln : lp < h.n
  lg : h.get lp = rec
  pn : po < h.n
  qn : pl < h.n
  fr : Fr (fun i => i = po ∨ i = pl) h0 h
  out : ∃ w, h.get po = .cells [w] 0 ∧ Own h 5 w (vcells (d.filter powS)) (d.filter powS).length ∧ (∀ i, ownedBy w i → h0.n ≤ i ∧ i ≠ lp ∧ i ≠ po ∧ i ≠ pl) ∧ o = fun i => i = lp ∨ i = po ∨ ownedBy w i
theorem merged_ok {h : Heap} {a1 a2 : Option Addr} {n1 c1 n2 c2 : Nat} : Runs Try.prog T0 (.fn fn_zyQ) [.slice a1 n1 c1, .slice a2 n2 c2] h
    (fun r h' => r = .func (.func fn_zzQ) ⟨[]⟩ ⟨[.pointer (some ⟨h.n + 1, 0, none⟩), .pointer (some ⟨h.n, 0, none⟩)]⟩ ∧ h' = (h.push (.cells [.slice a1 n1 c1] 0)).push (.cells [.slice a2 n2 c2] 0)) (fun _ _ => False) := by
  refine zyQ_runs ?_
  refine stp ?_
  exact ⟨rfl, rfl⟩
set_option maxHeartbeats 8000000 in
theorem Change_go {f0 f1 f2 f3 f5 f6 f7 f8 f9 f10 f11 f12 f13 f14 f15 f16 f17 f18 f19 f20 f21 f22 f23 f24 f25 f26 f27 f28 f29 f30 f31 f32 f33 f34 f35 f36 f37 f38 f39 f40 f41 f42 f43 f44 f45 f46 f47 f48 f49 f50 f51 f52 f53 f54 f55 f56 f57 f58 f59 f60 f61 f62 f63 f64 f65 : Value} {pl lp po N : Nat} {h0 : Heap} (h1 : lp ≠ pl) (h2 : po ≠ pl) (h3 : po ≠ lp) (hN : N < 1000000) (hl : h0.n ≤ lp) :
    Gets (OutJ pl lp po (.loop .ready none (f0 :: f1 :: f2 :: f3 :: .pointer (some ⟨po, 0, none⟩) :: f5 :: f6 :: f7 :: f8 :: f9 :: f10 :: f11 :: f12 :: f13 :: f14 :: f15 :: f16 :: f17 :: f18 :: f19 :: f20 :: f21 :: f22 :: f23 :: f24 :: f25 :: f26 :: f27 :: f28 :: f29 :: f30 :: f31 :: f32 :: f33 :: f34 :: f35 :: f36 :: f37 :: f38 :: f39 :: f40 :: f41 :: f42 :: f43 :: f44 :: f45 :: f46 :: f47 :: f48 :: f49 :: f50 :: f51 :: f52 :: f53 :: f54 :: f55 :: f56 :: f57 :: f58 :: f59 :: f60 :: f61 :: f62 :: f63 :: f64 :: f65 :: []) [49] zsQ_ra0 zsQ_rb0) h0) pl lp N := by
  refine ⟨fun d o h hj i hi => ?_, fun d o ha hb hj hf => ?_, fun d o ha x hj hd => ?_⟩
  · obtain ⟨w, hg, ho, hw, rfl⟩ := hj.out
    rcases hi with rfl | rfl | hi
    · exact hj.ln
    · exact hj.pn
    · exact ho.lt hi
  · obtain ⟨w, hg, ho, hw, rfl⟩ := hj.out
    refine ⟨hf.lt hj.ln, by rw [hf.get _ hj.ln h1]; exact hj.lg, hf.lt hj.pn, hf.lt hj.qn, hj.fr.trans hf fun i hi e => .inr e, w, by rw [hf.get _ hj.pn h2]; exact hg, ho.keep hf fun b hb e => (hw b hb).2.2.2 e, hw, rfl⟩
  · obtain ⟨w, hg, ho, hw, rfl⟩ := hj.out
    haveI : HGet ha lp _ := ⟨hj.lg⟩
    haveI : HGet ha po _ := ⟨hg⟩
    haveI : BLt lp ha := ⟨hj.ln⟩
    haveI : BLt po ha := ⟨hj.pn⟩
    haveI : BNe po lp := ⟨h3⟩
    haveI : BNe lp po := ⟨fun e => h3 e.symm⟩
    have hfl : (d.filter powS).length ≤ d.length := List.length_filter_le _ _
    refine Runs.round hj.lg put_one rfl zsQ_na0 zsQ_nb0 zsQ_ca0 zsQ_cb0 ?_
    refine stp ?_
    refine A.go ?_
    refine stp ?_
    refine C.if (fun hpow => ?_) (fun hpow => ?_)
    · refine stp ?_
      have e1 : (d ++ [x]).filter powS = d.filter powS ++ [x] := by
        rw [List.filter_append, List.filter_cons, if_pos (show powS x = true from decide_eq_true hpow), List.filter_nil]
      have hF := (((Fr.refl (S := fun i => i = lp) (h := ha)).push (o := .cells x.cells 0)).set (b := lp) (o := .loop .busy none (f0 :: f1 :: f2 :: f3 :: .pointer (some ⟨po, 0, none⟩) :: f5 :: f6 :: f7 :: f8 :: f9 :: f10 :: f11 :: f12 :: f13 :: f14 :: f15 :: f16 :: f17 :: f18 :: f19 :: f20 :: f21 :: f22 :: f23 :: f24 :: f25 :: f26 :: f27 :: f28 :: f29 :: f30 :: f31 :: f32 :: f33 :: f34 :: f35 :: f36 :: f37 :: f38 :: f39 :: f40 :: f41 :: f42 :: f43 :: f44 :: f45 :: f46 :: f47 :: f48 :: f49 :: f50 :: f51 :: f52 :: f53 :: f54 :: f55 :: f56 :: f57 :: f58 :: f59 :: f60 :: f61 :: f62 :: f63 :: f64 :: f65 :: []) [49] zsQ_ra0 zsQ_rb0) fun _ => rfl).push (o := .cells x.cells 0)
      refine O.append (ho.keep hF fun b hb => (hw b hb).2.1) (one_val (c := x.cells) rfl) rfl rfl (by omega) (by omega) (by omega) (fun w2 h5 ho5 hf5 hn5 => ?_)
      have hF5 : Fr (fun i => i = lp ∨ ownedBy w i) ha h5 := (hF.mono fun _ _ => .inl).trans hf5 fun i _ => .inr
      have n5 := hF5.n
      have gp5 : h5.get po = .cells [w] 0 := by rw [hF5.get _ hj.pn (fun e => by rcases e with e | e; exact h3 e; exact (hw _ e).2.2.1 rfl)]; exact hg
      have gl5 : h5.get lp = .loop .busy none (f0 :: f1 :: f2 :: f3 :: .pointer (some ⟨po, 0, none⟩) :: f5 :: f6 :: f7 :: f8 :: f9 :: f10 :: f11 :: f12 :: f13 :: f14 :: f15 :: f16 :: f17 :: f18 :: f19 :: f20 :: f21 :: f22 :: f23 :: f24 :: f25 :: f26 :: f27 :: f28 :: f29 :: f30 :: f31 :: f32 :: f33 :: f34 :: f35 :: f36 :: f37 :: f38 :: f39 :: f40 :: f41 :: f42 :: f43 :: f44 :: f45 :: f46 :: f47 :: f48 :: f49 :: f50 :: f51 :: f52 :: f53 :: f54 :: f55 :: f56 :: f57 :: f58 :: f59 :: f60 :: f61 :: f62 :: f63 :: f64 :: f65 :: []) [49] zsQ_ra0 zsQ_rb0 := by
        rw [hf5.get _ (by have := hj.ln; simp; omega) (fun e => (hw _ e).2.1 rfl), Heap.get_push, if_neg (by have := hj.ln; simp; omega), Heap.get_set, if_pos rfl]
      haveI : HGet h5 po _ := ⟨gp5⟩
      haveI : HGet h5 lp _ := ⟨gl5⟩
      obtain ⟨aw, cw, rfl, _⟩ := ho5.rd
      refine stp ?_
      refine A.on ?_
      have hw5 : ∀ i, ownedBy (.slice aw ((d.filter powS).length + 1) cw) i → h0.n ≤ i ∧ i ≠ lp ∧ i ≠ po ∧ i ≠ pl := fun i hi => by
        rcases hn5 i hi with e | e
        · exact hw i e
        · have := hj.ln; have := hj.pn; have := hj.qn; have := hj.fr.n
          simp at e
          exact ⟨by omega, by omega, by omega, by omega⟩
      have hF6 : Fr (fun i => i = po ∨ i = lp) h5 ((h5.set po (.cells [.slice aw ((d.filter powS).length + 1) cw] 0)).set lp (.loop .ready none (f0 :: f1 :: f2 :: f3 :: .pointer (some ⟨po, 0, none⟩) :: f5 :: f6 :: f7 :: f8 :: f9 :: f10 :: f11 :: f12 :: f13 :: f14 :: f15 :: f16 :: f17 :: f18 :: f19 :: f20 :: f21 :: f22 :: f23 :: f24 :: f25 :: f26 :: f27 :: f28 :: f29 :: f30 :: f31 :: f32 :: f33 :: f34 :: f35 :: f36 :: f37 :: f38 :: f39 :: f40 :: f41 :: f42 :: f43 :: f44 :: f45 :: f46 :: f47 :: f48 :: f49 :: f50 :: f51 :: f52 :: f53 :: f54 :: f55 :: f56 :: f57 :: f58 :: f59 :: f60 :: f61 :: f62 :: f63 :: f64 :: f65 :: []) [49] zsQ_ra0 zsQ_rb0)) := (Fr.refl.set fun _ => .inl rfl).set fun _ => .inr rfl
      have hFa := (hF5.mono (S' := fun i => i = lp ∨ i = po ∨ ownedBy w i) fun i _ e => by rcases e with e | e; exact .inl e; exact .inr (.inr e)).trans hF6 fun i _ e => by rcases e with e | e; exact .inr (.inl e); exact .inl e
      refine ⟨rfl, _, ⟨by simp; have := hj.ln; omega, by rw [Heap.get_set, if_pos rfl], by simp; have := hj.pn; omega, by simp; have := hj.qn; omega, ?_, _, by rw [Heap.get_set, if_neg h3, Heap.get_set, if_pos rfl], ?_, hw5, rfl⟩, ?_, fun i hi => ?_⟩
      · exact hj.fr.trans hFa fun i hi e => by
          rcases e with e | e | e
          · omega
          · exact .inl e
          · have := (hw i e).1; omega
      · rw [e1, vcells_append, List.length_append]
        exact ho5.keep hF6 fun b hb e => by rcases e with e | e; exact (hw5 b hb).2.2.1 e; exact (hw5 b hb).2.1 e
      · exact hFa
      · rcases hi with hi | hi | hi
        · exact .inl (.inl hi)
        · exact .inl (.inr (.inl hi))
        · rcases hn5 i hi with e | e
          · exact .inl (.inr (.inr e))
          · exact .inr (by simp at e; omega)
    · have e1 : (d ++ [x]).filter powS = d.filter powS := by
        rw [List.filter_append, List.filter_cons, if_neg (show ¬ powS x = true from fun h9 => hpow (of_decide_eq_true h9)), List.filter_nil, List.append_nil]
      have hF := (((Fr.refl (S := fun i => i = lp) (h := ha)).push (o := .cells x.cells 0)).set (b := lp) (o := .loop .busy none (f0 :: f1 :: f2 :: f3 :: .pointer (some ⟨po, 0, none⟩) :: f5 :: f6 :: f7 :: f8 :: f9 :: f10 :: f11 :: f12 :: f13 :: f14 :: f15 :: f16 :: f17 :: f18 :: f19 :: f20 :: f21 :: f22 :: f23 :: f24 :: f25 :: f26 :: f27 :: f28 :: f29 :: f30 :: f31 :: f32 :: f33 :: f34 :: f35 :: f36 :: f37 :: f38 :: f39 :: f40 :: f41 :: f42 :: f43 :: f44 :: f45 :: f46 :: f47 :: f48 :: f49 :: f50 :: f51 :: f52 :: f53 :: f54 :: f55 :: f56 :: f57 :: f58 :: f59 :: f60 :: f61 :: f62 :: f63 :: f64 :: f65 :: []) [49] zsQ_ra0 zsQ_rb0) fun _ => rfl).set (b := lp) (o := .loop .ready none (f0 :: f1 :: f2 :: f3 :: .pointer (some ⟨po, 0, none⟩) :: f5 :: f6 :: f7 :: f8 :: f9 :: f10 :: f11 :: f12 :: f13 :: f14 :: f15 :: f16 :: f17 :: f18 :: f19 :: f20 :: f21 :: f22 :: f23 :: f24 :: f25 :: f26 :: f27 :: f28 :: f29 :: f30 :: f31 :: f32 :: f33 :: f34 :: f35 :: f36 :: f37 :: f38 :: f39 :: f40 :: f41 :: f42 :: f43 :: f44 :: f45 :: f46 :: f47 :: f48 :: f49 :: f50 :: f51 :: f52 :: f53 :: f54 :: f55 :: f56 :: f57 :: f58 :: f59 :: f60 :: f61 :: f62 :: f63 :: f64 :: f65 :: []) [49] zsQ_ra0 zsQ_rb0) fun _ => rfl
      refine stp ?_
      refine A.on ?_
      refine ⟨rfl, _, ⟨by simp; have := hj.ln; omega, by rw [Heap.get_set, if_pos rfl], by simp; have := hj.pn; omega, by simp; have := hj.qn; omega, hj.fr.trans hF fun i hi e => by omega, w, by rw [hF.get _ hj.pn h3]; exact hg, ?_, hw, rfl⟩, hF.mono fun i _ => .inl, fun i hi => .inl hi⟩
      rw [e1]
      exact ho.keep hF fun b hb => (hw b hb).2.1
end Go.Proofs.Ytmfaepkmiceoeaa.A

namespace Go.Proofs.Ytmfaepkmiceoeaa.A
open Go Go.Vm
set_option maxRecDepth 10000
set_option linter.unusedVariables false
theorem chkC_steps {l : List Val} : ∀ {cs : List Val} {o : Option Val}, chkC l o cs = 0 → stepsV 0 o cs = 0
  | [], _, _ => rfl
  | c :: cs, o, h => by
    have key : ∀ b : Bool, (if b = true then (9 : Int) else if c.p < 0 ∨ 4611686018427387904 < c.p then 3 else if c.p = 0 ∧ (findN l c).isSome = false then 10 else chkC l (some c) cs) = 0 → (if b = true then (9 : Int) else if c.p < 0 ∨ 4611686018427387904 < c.p then 3 else stepsV 0 (some c) cs) = 0 := by
      intro b h
      by_cases hA : b = true
      · rw [if_pos hA] at h; cases h
      · rw [if_neg hA] at h ⊢
        by_cases hB : c.p < 0 ∨ 4611686018427387904 < c.p
        · rw [if_pos hB] at h; cases h
        · rw [if_neg hB] at h ⊢
          by_cases hC : c.p = 0 ∧ (findN l c).isSome = false
          · rw [if_pos hC] at h; cases h
          · rw [if_neg hC] at h
            exact chkC_steps h
    exact key _ h
theorem merge_all {l cs : List Val} (h1 : checkV l = 0) (h2 : chkC l none cs = 0) : allS l cs = (mergeS l cs).filter powS := by
  obtain ⟨_, _, c3, c4⟩ := checkV_ok h1
  have h3 := chkC_steps h2
  exact allS_merge (steps_rise c3).2 (steps_rise h3).2 (fun v hv => (c4 v hv).1) (fun v hv => (stepsV_range h3 v hv).1)
theorem mergeS_len : ∀ (cs l : List Val), (mergeS l cs).length ≤ l.length + cs.length
  | [], l => by rw [mergeS]; simp
  | c :: cs, l => by
    have h1 := mergeS_len cs (skipS c (l.dropWhile (belowS c)))
    have h2 := (skipS_sub c (l.dropWhile (belowS c))).length_le
    have h3 : (l.takeWhile (belowS c)).length + (l.dropWhile (belowS c)).length = l.length := by
      conv => rhs; rw [← List.takeWhile_append_dropWhile (p := belowS c) (l := l)]
      rw [List.length_append]
    rw [mergeS, List.length_append, List.length_cons, List.length_cons]
    omega
set_option maxHeartbeats 16000000 in
theorem VChange_ok {h : Heap} {v w : Value} {l cs : List Val} (hv : Sd h 5 v (vcells l) l.length) (hw : Rd h 5 w (vcells cs) cs.length) (hl : l.length < 400000) (hcs : cs.length < 50000) :
    Runs Try.prog T0 (.fn fn_zsQ) [v, w] h
      (fun r h' => ∃ x, r = .tuple ⟨[x, .int .i64 (changeS l cs).1]⟩ ∧ Own h' 5 x (vcells (changeS l cs).2) (changeS l cs).2.length ∧ (∀ i, ownedBy x i → h.n ≤ i) ∧ Fr (fun _ => False) h h') (fun _ _ => False) := by
  have hw0 := hw
  obtain ⟨a, cap, rfl, hlen, hc⟩ := hw
  refine zsQ_runs ?_
  refine stp ?_
  refine O.call' (VCheck_ok (hv.rd.keep (S := fun _ => False) Fr.refl.push fun _ _ => id)) (fun r h1 hr => ?_)
  obtain ⟨rfl, hf1⟩ := hr
  have n1 := hf1.n
  simp only [Heap.n_push] at n1
  have g1 : HGet h1 h.n (.cells [.slice none 0 0] 0) := hf1.keep (b := h.n) HGet.new (by simp) id
  have hF1 : Fr (fun _ => False) h h1 := Fr.trans (S := fun _ => False) Fr.refl.push hf1 fun _ _ => id
  haveI := g1
  haveI : BLt h.n h1 := ⟨by omega⟩
  refine stp ?_
  unfold changeS
  refine C.ifN (fun hz => ?_) (fun hz => ?_)
  · refine stp ?_
    rw [if_pos hz]
    exact ⟨_, rfl, .none, fun i hi => hi.elim, hF1.set fun e => absurd e (by omega)⟩
  rw [if_neg (by omega)]
  refine stp ?_
  refine zsQ_l0_rule (fun m v5 v22 h' => ∃ k : Nat, k ≤ cs.length ∧ m = cs.length - k ∧ v22 = .int .i64 k ∧ (∃ x : Val, h'.get h1.n = .cells (lookC x (decide (0 < k)) 0 4611686018427387904) 0 ∧ (0 < k → lastV cs k = some x)) ∧ h1.n < h'.n ∧ h'.get h.n = .cells [.slice none 0 0] 0 ∧ Fr (fun _ => False) h h' ∧ chkC l none cs = chkC l (lastV cs k) (cs.drop k)) ?_ cs.length ⟨0, by omega, rfl, rfl, ⟨zVal, ?_, by omega⟩, ?_, ?_, ?_, rfl⟩
  · rintro m v5 v22 h' x9 x10 x11 x12 x23 x24 x25 x26 x27 x28 x29 x30 x31 x32 x33 x34 x35 x36 x37 x38 x39 x40 x41 x42 x43 x44 x45 ⟨k, hk, rfl, rfl, ⟨x, hg, hx⟩, hn, hgo, hf, hst⟩
    refine stp ?_
    refine C.if (fun hlt => ?_) (fun hge => ?_)
    · have hlt : k < cs.length := by omega
      obtain ⟨b, o, sp, rfl, hb, hcc⟩ := hc (by omega)
      have hcc' : cellsAt h' b o (cs.length * 5) = some (vcells cs) := by rw [cellsAt_keep hf hb id]; exact hcc
      haveI := val_cells hcc' rfl hlt
      refine stp ?_
      have hgP : (h'.push (.cells (cs.getD k zVal).cells 0)).get h1.n = .cells (lookC x (decide (0 < k)) 0 4611686018427387904) 0 := by rw [Heap.get_push, if_neg (by omega), hg]
      refine O.call' (at_ok (x := x) (v := cs.getD k zVal) hgP (by simp; omega)) (fun r h2 hr => ?_)
      obtain ⟨rfl, hg2, hf2⟩ := hr
      have n2 := hf2.n
      simp only [Heap.n_push] at n2
      have hfh : Fr (fun _ => False) h h2 := Fr.trans (S := fun _ => False) hf.push hf2 fun i hi ho => by omega
      have gc2 : h2.get h'.n = .cells (cs.getD k zVal).cells 0 := by rw [hf2.get _ (by simp) (by omega), Heap.get_push, if_pos rfl]
      have go2 : h2.get h.n = .cells [.slice none 0 0] 0 := by rw [hf2.get _ (by simp; omega) (by omega), Heap.get_push, if_neg (by omega)]; exact hgo
      haveI : HGet h2 h'.n _ := ⟨gc2⟩
      haveI : HGet h2 h.n _ := ⟨go2⟩
      haveI : BLt h'.n h2 := ⟨by omega⟩
      haveI : BLt h.n h2 := ⟨by omega⟩
      rw [chkC_atS hlt hx] at hst
      refine stp ?_
      refine C.ifN (fun he => ?_) (fun he => ?_)
      · refine stp ?_
        rw [if_neg he] at hst
        rw [if_pos (by rw [hst]; exact he), hst]
        exact ⟨_, rfl, .none, fun i hi => hi.elim, hfh.set fun e => absurd e (by omega)⟩
      rw [if_pos he] at hst
      refine stp ?_
      refine O.call' (Find_ok (w := cs.getD k zVal) (hv.rd.keep hfh fun _ _ => id) (by omega)) (fun r h3 hr => ?_)
      obtain ⟨rfl, hf3⟩ := hr
      have n3 := hf3.n
      have hf03 := hfh.trans' hf3
      have gc3 : h3.get h'.n = .cells (cs.getD k zVal).cells 0 := by rw [hf3.get _ (by omega) id]; exact gc2
      have go3 : h3.get h.n = .cells [.slice none 0 0] 0 := by rw [hf3.get _ (by omega) id]; exact go2
      have gx3 : h3.get h1.n = .cells (lookC (cs.getD k zVal) (decide (0 < k + 1)) 0 4611686018427387904) 0 := by rw [hf3.get _ (by omega) id, hg2, decide_eq_true (show 0 < k + 1 by omega)]
      haveI : HGet h3 h'.n _ := ⟨gc3⟩
      haveI : HGet h3 h.n _ := ⟨go3⟩
      refine stp ?_
      refine O.dec (fun h5 => ?_) (fun h5 => ?_)
      · refine stp ?_
        refine C.ifB (fun h6 => ?_) (fun h6 => ?_)
        · refine stp ?_
          rw [if_pos ⟨h5, by simpa using h6⟩] at hst
          rw [if_pos (by rw [hst]; decide), hst]
          exact ⟨_, rfl, .none, fun i hi => hi.elim, hf03.set fun e => absurd e (by omega)⟩
        · rw [if_neg (fun hh => by rw [hh.2] at h6; simp at h6)] at hst
          refine stp ?_
          exact zsQ_l0_again (cs.length - (k + 1)) (by omega) ⟨k + 1, by omega, rfl, rfl, ⟨cs.getD k zVal, gx3, fun _ => rfl⟩, by omega, go3, hf03, hst⟩
      · rw [if_neg (fun hh => h5 hh.1)] at hst
        refine stp ?_
        exact zsQ_l0_again (cs.length - (k + 1)) (by omega) ⟨k + 1, by omega, rfl, rfl, ⟨cs.getD k zVal, gx3, fun _ => rfl⟩, by omega, go3, hf03, hst⟩
    · obtain rfl : k = cs.length := by omega
      rw [List.drop_length] at hst
      have hst : chkC l none cs = 0 := hst
      rw [if_neg (by rw [hst]; decide)]
      haveI : HGet h' h.n _ := ⟨hgo⟩
      haveI : BLt h.n h' := ⟨by omega⟩
      obtain ⟨av, capv, rfl, _⟩ := id hv
      refine stp ?_
      refine O.call' merged_ok (fun r ha hr => ?_)
      obtain ⟨rfl, rfl⟩ := hr
      refine stp ?_
      have hvB : ∀ i, blockOf (.slice av l.length capv) i → i < h.n := fun i hi => Rd.block_lt hv.rd hi
      have hwB : ∀ i, blockOf (.slice a cs.length cap) i → i < h.n := fun i hi => Rd.block_lt hw0 hi
      have na : ((h'.push (.cells [.slice av l.length capv] 0)).push (.cells [.slice a cs.length cap] 0)).n = h'.n + 2 := rfl
      have gpl : ((h'.push (.cells [.slice av l.length capv] 0)).push (.cells [.slice a cs.length cap] 0)).get h'.n = .cells [.slice av l.length capv] 0 := by rw [Heap.get_push, if_neg (by simp), Heap.get_push, if_pos rfl]
      have gpc : ((h'.push (.cells [.slice av l.length capv] 0)).push (.cells [.slice a cs.length cap] 0)).get (h'.n + 1) = .cells [.slice a cs.length cap] 0 := HGet.new.eq
      have gpo : ((h'.push (.cells [.slice av l.length capv] 0)).push (.cells [.slice a cs.length cap] 0)).get h.n = .cells [.slice none 0 0] 0 := by rw [Heap.get_push, if_neg (by simp; omega), Heap.get_push, if_neg (by omega)]; exact hgo
      have hfa : Fr (fun _ => False) h ((h'.push (.cells [.slice av l.length capv] 0)).push (.cells [.slice a cs.length cap] 0)) := hf.push.push
      generalize (h'.push (.cells [.slice av l.length capv] 0)).push (.cells [.slice a cs.length cap] 0) = ha at *
      have hml := mergeS_len cs l
      have hfP : ∀ {o1 o2 : AObj}, Fr (fun _ => False) h ((ha.push o1).push o2) := fun {o1 o2} => hfa.push.push
      refine range_on (J := fun hx => ∃ o rec, OutJ h'.n (ha.n + 1) h.n rec (ha.push (.defs false)) (mergeS l cs) o hx) ?_ (fun hx hJ => ?_)
      · refine Runs.mono (merged1_ok (l := l) (cs := cs) (v := .slice av l.length capv) (w := .slice a cs.length cap) (pl := h'.n) (pc := h'.n + 1) (Bk := fun i => i < h.n) (Change_go (lp := ha.n + 1) (pl := h'.n) (po := h.n) (h0 := ha.push (.defs false)) (by omega) (by omega) (by omega) (by omega) (by simp)) ⟨⟨by simp, HGet.new.eq, by simp; omega, by simp; omega, Fr.refl.push, .slice none 0 0, ?_, .none, fun i hi => hi.elim, rfl⟩, by simp; omega, ?_, hv.keep hfP fun _ _ => id, hvB, ?_, ?_, hw0.keep hfP fun _ _ => id, hwB⟩ ?_ (by omega) (by omega)) (fun v hx hh => ?_) (fun _ _ hx => hx)
        · rw [Heap.get_push, if_neg (by simp; omega), Heap.get_push, if_neg (by omega)]; exact gpo
        · rw [Heap.get_push, if_neg (by simp; omega), Heap.get_push, if_neg (by omega)]; exact gpl
        · rintro i (rfl | rfl | hi)
          · exact ⟨by omega, by omega⟩
          · exact ⟨by omega, by omega⟩
          · exact hi.elim
        · exact fun i hi => ⟨by have := hfa.n; simp; omega, by omega⟩
        · rw [Heap.get_push, if_neg (by simp; omega), Heap.get_push, if_neg (by omega)]; exact gpc
        · obtain ⟨o, hj⟩ := hh
          exact ⟨hj.lg, o, _, hj⟩
      · obtain ⟨o, rec, hj⟩ := hJ
        obtain ⟨w, hgw, how, hw2, _⟩ := hj.out
        have gdf : hx.get ha.n = .defs false := by rw [hj.fr.get _ (by simp) (fun e => by omega), Heap.get_push, if_pos rfl]
        have hfx : Fr (fun _ => False) h hx := hfa.push.trans hj.fr fun i hi e => by omega
        rw [← merge_all hz hst] at how
        have hlx := hj.ln
        have hpx := hj.pn
        clear gpl gpc gpo hgo hg hj
        obtain ⟨aw, cw, rfl, _⟩ := id how.rd
        haveI : HGet hx h.n _ := ⟨hgw⟩
        haveI : HGet hx ha.n _ := ⟨gdf⟩
        haveI : BNe h.n (ha.n + 1) := ⟨by omega⟩
        haveI : BNe ha.n (ha.n + 1) := ⟨by omega⟩
        haveI : BNe ha.n h.n := ⟨by omega⟩
        haveI : BNe h.n ha.n := ⟨by omega⟩
        have hend : ∀ {o1 o2 o3 : AObj}, Fr (fun _ => False) h ((((hx.set (ha.n + 1) o1).set (ha.n + 1) o2).set ha.n o3)) := fun {o1 o2 o3} => ((hfx.set fun e => by have := hfa.n; omega).set fun e => by have := hfa.n; omega).set fun e => by have := hfa.n; omega
        have hend2 : ∀ {o1 o2 o3 o4 : AObj}, Fr (fun _ => False) h (((((hx.set (ha.n + 1) o1).set (ha.n + 1) o2).set h.n o4).set ha.n o3)) := fun {o1 o2 o3 o4} => (((hfx.set fun e => by have := hfa.n; omega).set fun e => by have := hfa.n; omega).set fun e => by omega).set fun e => by have := hfa.n; omega
        refine stp ?_
        refine C.if (fun h5 => ?_) (fun h5 => ?_)
        · refine stp ?_
          refine B.retC ?_
          rw [if_pos (by omega)]
          exact ⟨_, rfl, .none, fun i hi => hi.elim, hend2⟩
        rw [if_neg (by omega)]
        refine stp ?_
        refine C.if (fun h6 => ?_) (fun h6 => ?_)
        · refine stp ?_
          refine B.retC ?_
          rw [if_pos (by omega)]
          exact ⟨_, rfl, .none, fun i hi => hi.elim, hend2⟩
        rw [if_neg (by omega)]
        refine stp ?_
        refine B.retC ?_
        refine ⟨_, rfl, ?_, fun i hi => ?_, hend2⟩
        · refine how.keep (S := fun i => i = ha.n + 1 ∨ i = h.n ∨ i = ha.n) ((((Fr.refl.set fun _ => .inl rfl).set fun _ => .inl rfl).set fun _ => .inr (.inl rfl)).set fun _ => .inr (.inr rfl)) fun b hb e => ?_
          have := hw2 b hb
          simp at this
          omega
        · have h7 := (hw2 i hi).1
          have h8 := hfa.n
          simp at h7
          omega
  · rw [Heap.get_push, if_pos rfl]
    rfl
  · simp
  · rw [Heap.get_push, if_neg (by omega)]
    exact g1.eq
  · exact hF1.push
end Go.Proofs.Ytmfaepkmiceoeaa.A

namespace Go.Proofs.Ytmfaepkmiceoeaa.A
open Go Go.Vm
set_option maxRecDepth 10000
set_option linter.unusedVariables false
end Go.Proofs.Ytmfaepkmiceoeaa.A

namespace Go.Proofs.Ytmfaepkmiceoeaa.A
open Go Go.Vm
set_option maxRecDepth 10000
set_option linter.unusedVariables false
def pickS (x n : Int) : Int := if n ≤ 0 then 0 else x % n
theorem Pick_ok {h : Heap} {x n : Int} (hn : n ≤ 9223372036854775807) : Runs Try.prog T0 (.fn fn_zdQ) [.int .i64 x, .int .i64 n] h (fun r h' => r = .int .i64 (pickS x n) ∧ h' = h) (fun _ _ => False) := by
  refine zdQ_runs ?_
  refine stp ?_
  unfold pickS
  refine C.if (fun h0 => ?_) (fun h0 => ?_)
  · refine stp ?_
    rw [if_pos h0]
    exact ⟨rfl, rfl⟩
  · refine stp ?_
    refine O.how (XOp.remI (by omega)) ?_
    have h1 := Int.tmod_lt_of_pos x (show 0 < n by omega)
    have h2 : -n < x.tmod n := by
      have := Int.lt_tmod_of_pos x (show 0 < n by omega)
      omega
    have e := Int.tmod_eq_emod (a := x) (b := n)
    have p1 := Int.emod_nonneg x (show n ≠ 0 by omega)
    have p2 := Int.emod_lt_of_pos x (show 0 < n by omega)
    have p3 : (n.natAbs : Int) = n := Int.natAbs_of_nonneg (by omega)
    refine stp ?_
    rw [if_neg h0]
    refine C.if (fun h3 => ?_) (fun h3 => ?_)
    · refine stp ?_
      refine ⟨?_, rfl⟩
      congr 1
      split at e <;> omega
    · refine stp ?_
      refine ⟨?_, rfl⟩
      congr 1
      split at e <;> omega
end Go.Proofs.Ytmfaepkmiceoeaa.A

namespace Go.Proofs.Ytmfaepkmiceoeaa.A
open Go Go.Vm
set_option maxRecDepth 10000
set_option linter.unusedVariables false
abbrev RiseL (l : List Val) : Prop := l.Pairwise (fun a b => kn a < kn b)
def look (l : List Val) (n : Nat) : Option Val := l.find? fun v => decide (kn v = n)
theorem look_cons (v : Val) (l : List Val) (n : Nat) : look (v :: l) n = if kn v = n then some v else look l n := by
  unfold look
  rw [List.find?_cons]
  by_cases h : kn v = n
  · rw [decide_eq_true h, if_pos h]
  · rw [decide_eq_false h, if_neg h]
theorem look_none {l : List Val} {n : Nat} (h : ∀ v ∈ l, kn v ≠ n) : look l n = none := by
  induction l with
  | nil => rfl
  | cons v l ih => rw [look_cons, if_neg (h v (by simp)), ih fun w hw => h w (by simp [hw])]
theorem look_append (l m : List Val) (n : Nat) : look (l ++ m) n = (look l n).or (look m n) := by
  unfold look
  exact List.find?_append
theorem look_mem {l : List Val} {n : Nat} {v : Val} (h : look l n = some v) : v ∈ l ∧ kn v = n :=
  ⟨List.mem_of_find?_eq_some h, of_decide_eq_true (p := kn v = n) (List.find?_some (p := fun v => decide (kn v = n)) h)⟩
theorem look_of {l : List Val} (hl : RiseL l) {v : Val} (hv : v ∈ l) : look l (kn v) = some v := by
  induction l with
  | nil => cases hv
  | cons w l ih =>
    rw [look_cons]
    rcases List.mem_cons.1 hv with rfl | hv
    · rw [if_pos rfl]
    · have := (List.pairwise_cons.1 hl).1 v hv
      rw [if_neg (by omega)]
      exact ih hl.of_cons hv
theorem look_ext : ∀ {l m : List Val}, RiseL l → RiseL m → (∀ n, look l n = look m n) → l = m
  | [], [], _, _, _ => rfl
  | [], w :: m, _, _, h => by
    have := h (kn w)
    rw [look_cons, if_pos rfl] at this
    cases this
  | v :: l, [], _, _, h => by
    have := h (kn v)
    rw [look_cons, if_pos rfl] at this
    cases this
  | v :: l, w :: m, hl, hm, h => by
    have h1 := (List.pairwise_cons.1 hl).1
    have h2 := (List.pairwise_cons.1 hm).1
    rcases Nat.lt_trichotomy (kn v) (kn w) with hc | hc | hc
    · have := h (kn v)
      rw [look_cons, if_pos rfl, look_none fun x hx => ?_] at this
      · cases this
      · rcases List.mem_cons.1 hx with rfl | hx
        · omega
        · have := h2 x hx; omega
    · have hvw : v = w := by
        have := h (kn v)
        rw [look_cons, if_pos rfl, look_cons, if_pos hc.symm] at this
        exact Option.some.inj this
      subst hvw
      rw [look_ext hl.of_cons hm.of_cons fun n => ?_]
      by_cases hn : kn v = n
      · subst hn
        rw [look_none fun x hx => ?_, look_none fun x hx => ?_]
        · have := h2 x hx; omega
        · have := h1 x hx; omega
      · have := h n
        rw [look_cons, look_cons, if_neg hn, if_neg hn] at this
        exact this
    · have := h (kn w)
      rw [look_cons w, if_pos rfl, look_none fun x hx => ?_] at this
      · cases this
      · rcases List.mem_cons.1 hx with rfl | hx
        · omega
        · have := h1 x hx; omega
theorem chgS_parts {c : Val} {put : Bool} {l : List Val} (hl : RiseL l) : chgS c put l = l.takeWhile (belowS c) ++ ((if put then [] else [c]) ++ skipS c (l.dropWhile (belowS c))) := by
  conv => lhs; rw [← List.takeWhile_append_dropWhile (p := belowS c) (l := l)]
  rw [chgS_low take_below, chgS_from (hl.sublist (List.dropWhile_sublist _)) (drop_above hl)]
theorem skip_above {c : Val} {l : List Val} (hl : RiseL l) : ∀ v ∈ skipS c (l.dropWhile (belowS c)), kn c < kn v := by
  have h1 := drop_above (c := c) hl
  have h2 : RiseL (l.dropWhile (belowS c)) := hl.sublist (List.dropWhile_sublist _)
  intro v hv
  generalize l.dropWhile (belowS c) = B at *
  cases B with
  | nil => cases hv
  | cons w B =>
    have h3 := (List.pairwise_cons.1 h2).1
    have h4 := h1 w (by simp)
    rw [skipS] at hv
    split at hv
    · rename_i e
      have := h3 v hv
      omega
    · rcases List.mem_cons.1 hv with rfl | hv
      · omega
      · have := h3 v hv; omega
theorem rise_chg {c : Val} {put : Bool} {l : List Val} (hl : RiseL l) : RiseL (chgS c put l) := by
  have h1 := skip_above (c := c) hl
  have h2 : RiseL (skipS c (l.dropWhile (belowS c))) := hl.sublist ((skipS_sub c _).trans (List.dropWhile_sublist _))
  have h3 : RiseL (l.takeWhile (belowS c)) := hl.sublist (List.takeWhile_sublist _)
  rw [chgS_parts hl]
  refine List.pairwise_append.2 ⟨h3, ?_, fun a ha b hb => ?_⟩
  · cases put with
    | true => exact h2
    | false => exact List.pairwise_cons.2 ⟨h1, h2⟩
  · have ha := take_below a ha
    rcases List.mem_append.1 hb with hb | hb
    · cases put with
      | true => cases hb
      | false =>
        obtain rfl := List.mem_singleton.1 hb
        exact ha
    · have := h1 b hb; omega
theorem look_skip {c : Val} {l : List Val} {n : Nat} (h : n ≠ kn c) : look (skipS c l) n = look l n := by
  cases l with
  | nil => rfl
  | cons v l =>
    rw [skipS]
    split
    · rename_i e
      rw [look_cons, if_neg (by omega)]
    · rfl
theorem look_chg {c : Val} {put : Bool} {l : List Val} (hl : RiseL l) (n : Nat) : look (chgS c put l) n = if n = kn c then (if put then none else some c) else look l n := by
  rw [chgS_parts hl, look_append, look_append]
  by_cases h : n = kn c
  · subst h
    rw [if_pos rfl, look_none fun v hv => ?_, look_none (l := skipS c _) fun v hv => ?_]
    · cases put with
      | true => rfl
      | false => rw [if_neg Bool.false_ne_true, if_neg Bool.false_ne_true, look_cons, if_pos rfl]; rfl
    · have := skip_above hl v hv; omega
    · have := take_below v hv; omega
  · rw [if_neg h, look_skip h]
    have e : look (if put then [] else [c]) n = none := by
      cases put with
      | true => rfl
      | false => exact look_none fun v hv => by obtain rfl := List.mem_singleton.1 hv; exact fun e => h e.symm
    rw [e]
    conv => rhs; rw [← List.takeWhile_append_dropWhile (p := belowS c) (l := l), look_append]
    rfl
theorem rise_all : ∀ {cs l : List Val}, RiseL l → RiseL (allS l cs)
  | [], _, hl => hl
  | c :: cs, l, hl => by
    have h3 : allS l (c :: cs) = allS (chgS c (decide (c.p = 0)) l) cs := rfl
    rw [h3]
    exact rise_all (rise_chg hl)
def afterS (o : Option Val) (d : Option Val) : Option Val := match o with
  | some c => if c.p = 0 then none else some c
  | none => d
theorem look_all : ∀ {cs l : List Val}, RiseL l → RiseL cs → ∀ n, look (allS l cs) n = afterS (look cs n) (look l n)
  | [], _, _, _, _ => rfl
  | c :: cs, l, hl, hc, n => by
    have h3 : allS l (c :: cs) = allS (chgS c (decide (c.p = 0)) l) cs := rfl
    rw [h3, look_all (rise_chg hl) hc.of_cons n, look_chg hl, look_cons]
    by_cases h : kn c = n
    · subst h
      rw [if_pos rfl, if_pos rfl, look_none fun v hv => ?_]
      · by_cases hp : c.p = 0
        · simp only [afterS, hp, decide_true, if_true]
        · simp only [afterS, hp, decide_false, if_false, Bool.false_eq_true]
      · have := (List.pairwise_cons.1 hc).1 v hv; omega
    · rw [if_neg h, if_neg (fun e => h e.symm)]
def zeroV (v : Val) : Val := ⟨v.k0, v.k1, v.k2, v.k3, 0⟩
theorem kn_zero (v : Val) : kn (zeroV v) = kn v := by rw [kn_eq, kn_eq]; rfl
def difS (v w : Val) : List Val := if v = w then [] else [w]
def madeS : List Val → List Val → List Val
  | [], [] => []
  | v :: l, [] => zeroV v :: madeS l []
  | [], w :: m => w :: madeS [] m
  | v :: l, w :: m => if kn v < kn w then zeroV v :: madeS l (w :: m) else if kn w < kn v then w :: madeS (v :: l) m else difS v w ++ madeS l m
termination_by l m => l.length + m.length
end Go.Proofs.Ytmfaepkmiceoeaa.A

namespace Go.Proofs.Ytmfaepkmiceoeaa.A
open Go Go.Vm
set_option maxRecDepth 10000
set_option linter.unusedVariables false
theorem made_mem (l m : List Val) : ∀ x ∈ madeS l m, (∃ v ∈ l, x = zeroV v) ∨ x ∈ m := by
  fun_induction madeS l m with
  | case1 => intro x hx; cases hx
  | case2 v l ih =>
    intro x hx
    rcases List.mem_cons.1 hx with rfl | hx
    · exact .inl ⟨v, by simp, rfl⟩
    · rcases ih x hx with ⟨u, hu, e⟩ | h
      · exact .inl ⟨u, by simp [hu], e⟩
      · cases h
  | case3 w m ih =>
    intro x hx
    rcases List.mem_cons.1 hx with rfl | hx
    · exact .inr (by simp)
    · rcases ih x hx with ⟨u, hu, e⟩ | h
      · cases hu
      · exact .inr (by simp [h])
  | case4 v l w m hlt ih =>
    intro x hx
    rcases List.mem_cons.1 hx with rfl | hx
    · exact .inl ⟨v, by simp, rfl⟩
    · rcases ih x hx with ⟨u, hu, e⟩ | h
      · exact .inl ⟨u, by simp [hu], e⟩
      · exact .inr h
  | case5 v l w m hlt hgt ih =>
    intro x hx
    rcases List.mem_cons.1 hx with rfl | hx
    · exact .inr (by simp)
    · rcases ih x hx with h | h
      · exact .inl h
      · exact .inr (by simp [h])
  | case6 v l w m hlt hgt ih =>
    intro x hx
    rcases List.mem_append.1 hx with hx | hx
    · unfold difS at hx
      split at hx
      · cases hx
      · exact .inr (by obtain rfl := List.mem_singleton.1 hx; simp)
    · rcases ih x hx with ⟨u, hu, e⟩ | h
      · exact .inl ⟨u, by simp [hu], e⟩
      · exact .inr (by simp [h])
theorem made_high {l m : List Val} {n : Nat} (hl : ∀ v ∈ l, n < kn v) (hm : ∀ v ∈ m, n < kn v) : ∀ x ∈ madeS l m, n < kn x := by
  intro x hx
  rcases made_mem l m x hx with ⟨v, hv, rfl⟩ | h
  · rw [kn_zero]; exact hl v hv
  · exact hm x h
theorem tops {v : Val} {l : List Val} {n : Nat} (hl : RiseL (v :: l)) (h : n < kn v) : ∀ w ∈ v :: l, n < kn w := by
  intro w hw
  rcases List.mem_cons.1 hw with rfl | hw
  · exact h
  · have := (List.pairwise_cons.1 hl).1 w hw; omega
theorem rise_made (l m : List Val) : RiseL l → RiseL m → RiseL (madeS l m) := by
  fun_induction madeS l m with
  | case1 => exact fun _ _ => List.Pairwise.nil
  | case2 v l ih => exact fun hl hm => List.pairwise_cons.2 ⟨by rw [kn_zero]; exact made_high (n := kn v) (List.pairwise_cons.1 hl).1 (fun _ h => (by cases h)), ih hl.of_cons hm⟩
  | case3 w m ih => exact fun hl hm => List.pairwise_cons.2 ⟨made_high (n := kn w) (fun _ h => (by cases h)) (List.pairwise_cons.1 hm).1, ih hl hm.of_cons⟩
  | case4 v l w m hlt ih => exact fun hl hm => List.pairwise_cons.2 ⟨by rw [kn_zero]; exact made_high (n := kn v) (List.pairwise_cons.1 hl).1 (tops hm hlt), ih hl.of_cons hm⟩
  | case5 v l w m hlt hgt ih => exact fun hl hm => List.pairwise_cons.2 ⟨made_high (n := kn w) (tops hl hgt) (List.pairwise_cons.1 hm).1, ih hl hm.of_cons⟩
  | case6 v l w m hlt hgt ih =>
    intro hl hm
    have h1 := ih hl.of_cons hm.of_cons
    unfold difS
    split
    · exact h1
    · exact List.pairwise_cons.2 ⟨made_high (n := kn w) (fun x hx => by have := (List.pairwise_cons.1 hl).1 x hx; omega) (List.pairwise_cons.1 hm).1, h1⟩
def mkO : Option Val → Option Val → Option Val
  | some v, none => some (zeroV v)
  | none, some w => some w
  | some v, some w => if v = w then none else some w
  | none, none => none
theorem look_low {l : List Val} {n : Nat} (h : ∀ v ∈ l, n < kn v) : look l n = none := look_none fun v hv => by have := h v hv; omega
theorem look_made (l m : List Val) : RiseL l → RiseL m → ∀ n, look (madeS l m) n = mkO (look l n) (look m n) := by
  fun_induction madeS l m with
  | case1 => exact fun _ _ _ => rfl
  | case2 v l ih =>
    intro hl hm n
    rw [look_cons, look_cons, ih hl.of_cons hm n, kn_zero]
    by_cases h : kn v = n
    · rw [if_pos h, if_pos h]; rfl
    · rw [if_neg h, if_neg h]
  | case3 w m ih =>
    intro hl hm n
    rw [look_cons, look_cons, ih hl hm.of_cons n]
    by_cases h : kn w = n
    · rw [if_pos h, if_pos h]; rfl
    · rw [if_neg h, if_neg h]
  | case4 v l w m hlt ih =>
    intro hl hm n
    rw [look_cons, look_cons v, ih hl.of_cons hm n, kn_zero]
    by_cases h : kn v = n
    · subst h
      rw [if_pos rfl, if_pos rfl, look_low (tops hm hlt)]; rfl
    · rw [if_neg h, if_neg h]
  | case5 v l w m hlt hgt ih =>
    intro hl hm n
    rw [look_cons, look_cons w, ih hl hm.of_cons n]
    by_cases h : kn w = n
    · subst h
      rw [if_pos rfl, if_pos rfl, look_low (tops hl hgt)]; rfl
    · rw [if_neg h, if_neg h]
  | case6 v l w m hlt hgt ih =>
    intro hl hm n
    have he : kn v = kn w := by omega
    rw [look_append, look_cons v, look_cons w, ih hl.of_cons hm.of_cons n]
    by_cases h : kn v = n
    · subst h
      rw [if_pos rfl, if_pos he.symm, look_low (List.pairwise_cons.1 hl).1, look_low (l := m) (fun x hx => by have := (List.pairwise_cons.1 hm).1 x hx; omega)]
      by_cases hvw : v = w
      · unfold difS
        rw [if_pos hvw]
        simp only [mkO, hvw, if_true]; rfl
      · unfold difS
        rw [if_neg hvw, look_cons, if_pos he.symm]
        simp only [mkO, hvw, if_false]; rfl
    · rw [if_neg h, if_neg (by omega)]
      have e0 : look (difS v w) n = none := by
        unfold difS
        split
        · rfl
        · rw [look_cons, if_neg (by omega)]; rfl
      rw [e0]; rfl
theorem made_pow (l m : List Val) : ((madeS l m).filter fun c => decide (c.p ≠ 0)).length ≤ m.length := by
  fun_induction madeS l m with
  | case1 => simp
  | case2 v l ih => rw [List.filter_cons, if_neg (by simp [zeroV])]; exact ih
  | case3 w m ih =>
    rw [List.filter_cons, List.length_cons]
    split
    · rw [List.length_cons]; omega
    · omega
  | case4 v l w m hlt ih => rw [List.filter_cons, if_neg (by simp [zeroV])]; exact ih
  | case5 v l w m hlt hgt ih =>
    rw [List.filter_cons, List.length_cons]
    split
    · rw [List.length_cons]; omega
    · omega
  | case6 v l w m hlt hgt ih =>
    rw [List.filter_append, List.length_append, List.length_cons]
    have : ((difS v w).filter fun c => decide (c.p ≠ 0)).length ≤ 1 := by
      refine Nat.le_trans (List.length_filter_le _ _) ?_
      unfold difS
      split <;> simp
    omega
theorem allS_pow : ∀ (cs l : List Val), (allS l cs).length ≤ l.length + (cs.filter fun c => decide (c.p ≠ 0)).length
  | [], l => by simp [allS]
  | c :: cs, l => by
    have h1 := allS_pow cs (chgS c (decide (c.p = 0)) l)
    have h2 := chgS_len c (decide (c.p = 0)) l
    have h3 : allS l (c :: cs) = allS (chgS c (decide (c.p = 0)) l) cs := rfl
    rw [h3, List.filter_cons]
    by_cases hp : c.p = 0
    · rw [if_neg (by simp [hp])]
      simp only [hp, decide_true, if_true] at h1 h2 ⊢
      omega
    · rw [if_pos (by simp [hp]), List.length_cons]
      simp only [hp, decide_false, if_false, Bool.false_eq_true] at h1 h2 ⊢
      omega
theorem steps_zero {least : Int} : ∀ {l : List Val} {o : Option Val}, (∀ x, o = some x → ∀ v ∈ l, kn x < kn v) → RiseL l → (∀ v ∈ l, least ≤ v.p ∧ v.p ≤ 4611686018427387904) → stepsV least o l = 0
  | [], _, _, _, _ => rfl
  | v :: l, o, h1, h2, h3 => by
    have hv := h3 v (by simp)
    have ih : stepsV least (some v) l = 0 := steps_zero (fun x hx w hw => by cases hx; exact (List.pairwise_cons.1 h2).1 w hw) h2.of_cons fun w hw => h3 w (by simp [hw])
    have key : ∀ b : Bool, b = false → (if b = true then (9 : Int) else if v.p < least ∨ 4611686018427387904 < v.p then 3 else stepsV least (some v) l) = 0 := fun b hb => by
      rw [hb, if_neg Bool.false_ne_true, if_neg (by omega)]
      exact ih
    cases o with
    | none => exact key false rfl
    | some x =>
      refine key (!keyLt x.key v.key) ?_
      have := h1 x rfl v (by simp)
      rw [keyLt_kn, decide_eq_true this]; rfl
theorem chkC_zero {l : List Val} : ∀ {cs : List Val} {o : Option Val}, (∀ x, o = some x → ∀ v ∈ cs, kn x < kn v) → RiseL cs → (∀ v ∈ cs, 0 ≤ v.p ∧ v.p ≤ 4611686018427387904 ∧ (v.p = 0 → (findN l v).isSome = true)) → chkC l o cs = 0
  | [], _, _, _, _ => rfl
  | v :: cs, o, h1, h2, h3 => by
    have hv := h3 v (by simp)
    have ih : chkC l (some v) cs = 0 := chkC_zero (fun x hx w hw => by cases hx; exact (List.pairwise_cons.1 h2).1 w hw) h2.of_cons fun w hw => h3 w (by simp [hw])
    have key : ∀ b : Bool, b = false → (if b = true then (9 : Int) else if v.p < 0 ∨ 4611686018427387904 < v.p then 3 else if v.p = 0 ∧ (findN l v).isSome = false then 10 else chkC l (some v) cs) = 0 := fun b hb => by
      rw [hb, if_neg Bool.false_ne_true, if_neg (by omega), if_neg (fun h => by have := hv.2.2 h.1; rw [h.2] at this; cases this)]
      exact ih
    cases o with
    | none => exact key false rfl
    | some x =>
      refine key (!keyLt x.key v.key) ?_
      have := h1 x rfl v (by simp)
      rw [keyLt_kn, decide_eq_true this]; rfl
theorem findN_look {l : List Val} {w : Val} : (findN l w).isSome = true ↔ ∃ v ∈ l, kn v = kn w := by
  unfold findN
  rw [List.findIdx?_isSome, List.any_eq_true]
  constructor
  · rintro ⟨v, hv, h⟩; exact ⟨v, hv, of_decide_eq_true h⟩
  · rintro ⟨v, hv, h⟩; exact ⟨v, hv, decide_eq_true h⟩
end Go.Proofs.Ytmfaepkmiceoeaa.A

namespace Go.Proofs.Ytmfaepkmiceoeaa.A
open Go Go.Vm
set_option maxRecDepth 10000
set_option linter.unusedVariables false
theorem changeS_ok {l cs : List Val} (h1 : checkV l = 0) (h2 : chkC l none cs = 0) (h3 : 0 < (allS l cs).length) (h4 : (allS l cs).length ≤ 64) : changeS l cs = (0, allS l cs) := by
  unfold changeS
  rw [if_neg (fun h => h h1), if_neg (fun h => h h2), if_neg (by omega), if_neg (by omega)]
theorem changeS_none {l cs : List Val} (h1 : checkV l = 0) (h2 : chkC l none cs = 0) (h3 : (allS l cs).length = 0) : changeS l cs = (6, []) := by
  unfold changeS
  rw [if_neg (fun h => h h1), if_neg (fun h => h h2), if_pos h3]
theorem checkV_rise {l : List Val} (h : checkV l = 0) : RiseL l := (steps_rise (checkV_ok h).2.2.1).2
theorem checkV_zero {l : List Val} (h0 : 0 < l.length) (h1 : l.length ≤ 64) (h2 : RiseL l) (h3 : ∀ v ∈ l, 1 ≤ v.p ∧ v.p ≤ 4611686018427387904) : checkV l = 0 := by
  unfold checkV
  rw [if_neg (by omega), if_neg (by omega)]
  exact steps_zero (fun x hx => by cases hx) h2 h3
structure Two (l m : List Val) : Prop where
  hl : checkV l = 0
  hm : checkV m = 0
  ll : l.length ≤ 30
  lm : m.length ≤ 30
theorem Two.by_facts {l m : List Val} (T : Two l m) : ∀ c ∈ madeS l m, 0 ≤ c.p ∧ c.p ≤ 4611686018427387904 ∧ (c.p = 0 → ∃ v ∈ l, kn v = kn c) := by
  intro c hc
  rcases made_mem l m c hc with ⟨v, hv, rfl⟩ | h
  · exact ⟨Int.le_refl _, by show (0 : Int) ≤ _; omega, fun _ => ⟨v, hv, (kn_zero v).symm⟩⟩
  · have := (checkV_ok T.hm).2.2.2 c h
    exact ⟨by omega, by omega, fun h => by omega⟩
theorem Two.rise {l m : List Val} (T : Two l m) : RiseL (madeS l m) := rise_made l m (checkV_rise T.hl) (checkV_rise T.hm)
theorem Two.all {l m : List Val} (T : Two l m) : allS l (madeS l m) = m := by
  have h1 := checkV_rise T.hl
  have h2 := checkV_rise T.hm
  refine look_ext (rise_all h1) h2 fun n => ?_
  rw [look_all h1 T.rise, look_made l m h1 h2]
  cases e1 : look l n with
  | none =>
    cases e2 : look m n with
    | none => rfl
    | some w =>
      have := (checkV_ok T.hm).2.2.2 w (look_mem e2).1
      show afterS (some w) none = some w
      simp only [afterS]
      rw [if_neg (by omega)]
  | some v =>
    cases e2 : look m n with
    | none => rfl
    | some w =>
      have := (checkV_ok T.hm).2.2.2 w (look_mem e2).1
      by_cases h : v = w
      · simp only [mkO, h, if_true, afterS]
      · simp only [mkO, h, if_false, afterS]
        rw [if_neg (by omega)]
theorem Two.len {l m : List Val} (T : Two l m) {a : List Val} (ha : a.Sublist (madeS l m)) : (allS l a).length ≤ 60 := by
  have h1 := allS_pow a l
  have h2 := (ha.filter fun c => decide (c.p ≠ 0)).length_le
  have h3 := made_pow l m
  have := T.ll; have := T.lm
  omega
theorem Two.chk {l m : List Val} (T : Two l m) {a : List Val} (ha : a.Sublist (madeS l m)) : chkC l none a = 0 :=
  chkC_zero (fun x hx => by cases hx) (T.rise.sublist ha) fun v hv => by
    have h := T.by_facts v (ha.subset hv)
    exact ⟨h.1, h.2.1, fun h0 => findN_look.2 (h.2.2 h0)⟩
theorem Two.part {l m : List Val} (T : Two l m) {a : List Val} (ha : a.Sublist (madeS l m)) : changeS l a = (6, []) ∨ (changeS l a = (0, allS l a) ∧ checkV (allS l a) = 0) := by
  have h1 := T.chk ha
  have h2 := T.len ha
  have hr := checkV_rise T.hl
  by_cases h0 : (allS l a).length = 0
  · exact .inl (changeS_none T.hl h1 h0)
  · refine .inr ⟨changeS_ok T.hl h1 (by omega) (by omega), checkV_zero (by omega) (by omega) (rise_all hr) fun v hv => ?_⟩
    have e := look_of (rise_all hr) hv
    rw [look_all hr (T.rise.sublist ha)] at e
    cases ea : look a (kn v) with
    | none =>
      rw [ea] at e
      exact (checkV_ok T.hl).2.2.2 v (look_mem e).1
    | some c =>
      rw [ea] at e
      simp only [afterS] at e
      split at e
      · cases e
      · cases e
        have := T.by_facts v (ha.subset (look_mem ea).1)
        omega
theorem Two.other {l m : List Val} (T : Two l m) {a b : List Val} (ha : a.Sublist (madeS l m)) (hb : b.Sublist (madeS l m)) (hab : ∀ n, look (madeS l m) n = (look a n).or (look b n)) (hd : ∀ x ∈ a, ∀ y ∈ b, kn x ≠ kn y) (hx : checkV (allS l a) = 0) :
    changeS (allS l a) b = (0, m) := by
  have hr := checkV_rise T.hl
  have hra := T.rise.sublist ha
  have hrb := T.rise.sublist hb
  have hall : allS (allS l a) b = m := by
    conv => rhs; rw [← T.all]
    refine look_ext (rise_all (rise_all hr)) (rise_all hr) fun n => ?_
    rw [look_all (rise_all hr) hrb, look_all hr hra, look_all hr T.rise, hab n]
    cases ea : look a n with
    | none => rfl
    | some c =>
      cases eb : look b n with
      | none => rfl
      | some d =>
        have h1 := look_mem ea
        have h2 := look_mem eb
        exact absurd (h1.2.trans h2.2.symm) (hd c h1.1 d h2.1)
  have hck : chkC (allS l a) none b = 0 := chkC_zero (fun x hx => by cases hx) hrb fun c hc => by
    have h := T.by_facts c (hb.subset hc)
    refine ⟨h.1, h.2.1, fun h0 => ?_⟩
    obtain ⟨v, hv, hk⟩ := h.2.2 h0
    have ea : look a (kn c) = none := look_none fun x hx => hd x hx c hc
    have e := look_all (n := kn c) hr hra
    rw [ea, ← hk, look_of hr hv] at e
    rw [findN_look]
    have e2 := look_mem e
    exact ⟨v, e2.1, hk⟩
  have hm := checkV_ok T.hm
  rw [changeS_ok hx hck (by rw [hall]; exact hm.1) (by rw [hall]; exact hm.2.1), hall]
theorem Two.made {l m : List Val} (T : Two l m) : changeS l (madeS l m) = (0, m) := by
  have hm := checkV_ok T.hm
  rw [changeS_ok T.hl (T.chk (List.Sublist.refl _)) (by rw [T.all]; exact hm.1) (by rw [T.all]; exact hm.2.1), T.all]
theorem Two.swap {l m : List Val} (T : Two l m) : Two m l := ⟨T.hm, T.hl, T.lm, T.ll⟩
theorem changeS_nil {l : List Val} (h : checkV l = 0) : changeS l [] = (0, l) := by
  have hl := checkV_ok h
  have e : allS l [] = l := rfl
  rw [changeS_ok h rfl (by rw [e]; exact hl.1) (by rw [e]; exact hl.2.1), e]
theorem Two.first {l m : List Val} (T : Two l m) (k : Nat) (hx : checkV (allS l ((madeS l m).take k)) = 0) : changeS (allS l ((madeS l m).take k)) ((madeS l m).drop k) = (0, m) := by
  have hs : RiseL ((madeS l m).take k ++ (madeS l m).drop k) := by rw [List.take_append_drop]; exact T.rise
  refine T.other (List.take_sublist _ _) (List.drop_sublist _ _) (fun n => ?_) (fun x hx y hy => ?_) hx
  · conv => lhs; rw [← List.take_append_drop k (madeS l m)]
    exact look_append _ _ n
  · have := (List.pairwise_append.1 hs).2.2 x hx y hy; omega
theorem Two.second {l m : List Val} (T : Two l m) (k : Nat) (hx : checkV (allS l ((madeS l m).drop k)) = 0) : changeS (allS l ((madeS l m).drop k)) ((madeS l m).take k) = (0, m) := by
  have hs : RiseL ((madeS l m).take k ++ (madeS l m).drop k) := by rw [List.take_append_drop]; exact T.rise
  have hd : ∀ x ∈ (madeS l m).drop k, ∀ y ∈ (madeS l m).take k, kn x ≠ kn y := fun x hx y hy => by
    have := (List.pairwise_append.1 hs).2.2 y hy x hx; omega
  refine T.other (List.drop_sublist _ _) (List.take_sublist _ _) (fun n => ?_) hd hx
  have e : look (madeS l m) n = (look ((madeS l m).take k) n).or (look ((madeS l m).drop k) n) := by
    conv => lhs; rw [← List.take_append_drop k (madeS l m)]
    exact look_append _ _ n
  rw [e]
  cases ea : look ((madeS l m).take k) n with
  | none => cases look ((madeS l m).drop k) n <;> rfl
  | some c =>
    cases eb : look ((madeS l m).drop k) n with
    | none => rfl
    | some d =>
      have h1 := look_mem ea
      have h2 := look_mem eb
      exact absurd (h2.2.trans h1.2.symm) (hd d h2.1 c h1.1)
end Go.Proofs.Ytmfaepkmiceoeaa.A

namespace Go.Proofs.Ytmfaepkmiceoeaa.A
open Go Go.Vm
set_option maxRecDepth 10000
set_option linter.unusedVariables false
theorem less_kn (v w : Val) : Op.bytesLess (⟨⟨v.key⟩⟩ : ByteArray).toList (⟨⟨w.key⟩⟩ : ByteArray).toList = decide (kn v < kn w) := by
  rw [ByteArray.toList_eq, ByteArray.toList_eq]
  obtain ⟨a0, a1, a2, a3, p⟩ := v
  obtain ⟨b0, b1, b2, b3, q⟩ := w
  show (decide (a0 < b0) || (a0 == b0 && (decide (a1 < b1) || (a1 == b1 && (decide (a2 < b2) || (a2 == b2 && (decide (a3 < b3) || (a3 == b3 && false)))))))) = _
  rw [kn_eq, kn_eq]
  have e : ∀ a b : UInt8, (a == b) = decide (a.toNat = b.toNat) := fun a b => by
    by_cases h : a = b
    · subst h; simp
    · rw [decide_eq_false (u8ne.1 h)]; simp [h]
  simp only [e, u8lt', Bool.and_false, Bool.or_false]
  have h0 := a0.toNat_lt; have h1 := a1.toNat_lt; have h2 := a2.toNat_lt; have h3 := a3.toNat_lt
  have g0 := b0.toNat_lt; have g1 := b1.toNat_lt; have g2 := b2.toNat_lt; have g3 := b3.toNat_lt
  generalize a0.toNat = a0 at *; generalize a1.toNat = a1 at *; generalize a2.toNat = a2 at *; generalize a3.toNat = a3 at *
  generalize b0.toNat = b0 at *; generalize b1.toNat = b1 at *; generalize b2.toNat = b2 at *; generalize b3.toNat = b3 at *
  rw [Bool.eq_iff_iff]
  simp only [Bool.or_eq_true, Bool.and_eq_true, decide_eq_true_eq]
  omega
theorem less_raw (v w : Val) : Op.bytesLess (⟨⟨[UInt8.ofNat ((v.k0.toNat : Int)).toNat, UInt8.ofNat ((v.k1.toNat : Int)).toNat, UInt8.ofNat ((v.k2.toNat : Int)).toNat, UInt8.ofNat ((v.k3.toNat : Int)).toNat]⟩⟩ : ByteArray).toList (⟨⟨[UInt8.ofNat ((w.k0.toNat : Int)).toNat, UInt8.ofNat ((w.k1.toNat : Int)).toNat, UInt8.ofNat ((w.k2.toNat : Int)).toNat, UInt8.ofNat ((w.k3.toNat : Int)).toNat]⟩⟩ : ByteArray).toList = decide (kn v < kn w) := by
  have e : ∀ a : UInt8, UInt8.ofNat ((a.toNat : Int)).toNat = a := fun a => by rw [Int.toNat_natCast]; simp
  rw [e, e, e, e, e, e, e, e]
  exact less_kn v w
theorem same_val (v w : Val) : same v.cells w.cells = decide (v = w) := by
  by_cases h : v = w
  · subst h
    rw [same_self]; simp
  · rw [decide_eq_false h]
    refine same_ne.2 fun h2 => h ?_
    obtain ⟨a0, a1, a2, a3, p⟩ := v
    obtain ⟨b0, b1, b2, b3, q⟩ := w
    injection h2 with h0 h2
    injection h2 with h1 h2
    injection h2 with h3 h2
    injection h2 with h4 h2
    injection h2 with h5 _
    injection h0 with _ h0
    injection h1 with _ h1
    injection h3 with _ h3
    injection h4 with _ h4
    injection h5 with _ h5
    have e : ∀ {a b : UInt8}, (a.toNat : Int) = b.toNat → a = b := fun h => UInt8.toNat_inj.1 (by exact_mod_cast h)
    have e0 : a0 = b0 := e h0
    have e1 : a1 = b1 := e h1
    have e2 : a2 = b2 := e h3
    have e3 : a3 = b3 := e h4
    have e4 : p = q := h5
    subst e0 e1 e2 e3 e4
    rfl
theorem key_str {h : Heap} {b o k n : Nat} {l : List Val} (hc : cellsAt h b o (n * 5) = some (vcells l)) (hn : l.length = n) (hk : k < n) (hb : b < h.n) : Rd h 1 (.slice (some ⟨b, o + k * 5, none⟩) 4 4) (bcells (l.getD k zVal).key) 4 :=
  Rd.mk hb (val_key hc hn hk).eq
theorem madeS_end : madeS [] [] = [] := by rw [madeS]
theorem madeS_l (v : Val) (l : List Val) : madeS (v :: l) [] = zeroV v :: madeS l [] := by rw [madeS]
theorem madeS_r (w : Val) (m : List Val) : madeS [] (w :: m) = w :: madeS [] m := by rw [madeS]
theorem madeS_lt {v w : Val} {l m : List Val} (h : kn v < kn w) : madeS (v :: l) (w :: m) = zeroV v :: madeS l (w :: m) := by rw [madeS, if_pos h]
theorem madeS_gt {v w : Val} {l m : List Val} (h : ¬ kn v < kn w) (h2 : kn w < kn v) : madeS (v :: l) (w :: m) = w :: madeS (v :: l) m := by rw [madeS, if_neg h, if_pos h2]
theorem madeS_eq {v w : Val} {l m : List Val} (h : ¬ kn v < kn w) (h2 : ¬ kn w < kn v) : madeS (v :: l) (w :: m) = difS v w ++ madeS l m := by rw [madeS, if_neg h, if_neg h2]
theorem app_one {P : Program} {T : Table} {ts : List Value} {ds : List Deferred} {h h' : Heap} {rd : Option Nat} {dst el : Nat} {x y : Operand} {chk : List (Option Nat × AOp × Option (Nat × Bool))} {pan : Bool} {rest : List AOper} {Q : QP} {F : Value → List Value} {v5 : Value} {out : List Val} {zero : List Value} {u : Val}
    [e1 : Ev ts x v5] [e2 : Ev ts y (.slice (some ⟨h'.n, 0, none⟩) 1 1)] [s : LSetF ts dst F] (ho : Own h' 5 v5 (vcells out) out.length) (hs : out.length < 1000000) (hnew : ∀ j, ownedBy v5 j → h.n ≤ j) (hf : Fr (fun _ => False) h h')
    (hk : ∀ v3 h3, Own h3 5 v3 (vcells (out ++ [u])) (out ++ [u]).length → (∀ j, ownedBy v3 j → h.n ≤ j) → Fr (fun _ => False) h h3 → RunO P T rest ⟨F v3, ds, h3, rd⟩ Q) :
    RunO P T (⟨some dst, .append el 5 16 zero false x y, none, chk, pan⟩ :: rest) ⟨ts, ds, h'.push (.cells u.cells 0), rd⟩ Q := by
  refine O.append (ho.keep (S := fun _ => False) Fr.refl.push fun _ _ => id) (one_val (c := u.cells) rfl) rfl rfl (by omega) (by omega) (by omega) (fun v3 h3 ho3 hf3 hn3 => ?_)
  have n3 := hf3.n
  have n0 := hf.n
  simp only [Heap.n_push] at n3
  refine hk v3 h3 ?_ (fun j hj => ?_) (hf.push.trans hf3 fun j hj e => by have := hnew j e; omega)
  · rw [vcells_append, List.length_append]; exact ho3
  · rcases hn3 j hj with e | e
    · exact hnew j e
    · simp at e; omega
set_option maxHeartbeats 8000000 in
theorem made_ok {h : Heap} {v w : Value} {l m : List Val} (hv : Rd h 5 v (vcells l) l.length) (hw : Rd h 5 w (vcells m) m.length) (hl : l.length < 400000) (hm : m.length < 400000) :
    Runs Try.prog T0 (.fn fn_zkQ) [v, w] h
      (fun r h' => Own h' 5 r (vcells (madeS l m)) (madeS l m).length ∧ (∀ i, ownedBy r i → h.n ≤ i) ∧ Fr (fun _ => False) h h') (fun _ _ => False) := by
  obtain ⟨a1, c1, rfl, _, hc1⟩ := hv
  obtain ⟨a2, c2, rfl, _, hc2⟩ := hw
  refine zkQ_runs ?_
  refine stp ?_
  refine zkQ_l0_rule (fun M v5 v6 v7 h' => ∃ (i k : Nat) (out : List Val), i ≤ l.length ∧ k ≤ m.length ∧ M = (l.length - i) + (m.length - k) ∧ v6 = .int .i64 i ∧ v7 = .int .i64 k ∧ Own h' 5 v5 (vcells out) out.length ∧ (∀ j, ownedBy v5 j → h.n ≤ j) ∧ out ++ madeS (l.drop i) (m.drop k) = madeS l m ∧ out.length ≤ i + k ∧ Fr (fun _ => False) h h') ?_ (l.length + m.length) ⟨0, 0, [], by omega, by omega, by omega, rfl, rfl, .none, fun j hj => hj.elim, rfl, by simp, Fr.refl⟩
  rintro m v5 v6 v7 h' x8 x9 x10 x11 x12 x13 x14 x15 x16 x17 x18 x19 x20 x21 x22 x23 x24 x25 x26 x27 x28 x29 x30 x31 x32 x33 x34 x35 x36 x37 x38 x39 x40 x41 x42 x43 x44 x45 x46 x47 x48 x49 x50 x51 x52 x53 x54 x55 x56 x57 x58 x59 x60 x61 x62 x63 x64 x65 x66 x67 x68 x69 x70 x71 x72 x73 x74 x75 x76 x77 x78 x79 x80 x81 x82 x83 x84 x85 x86 x87 x88 x89 x90 x91 x92 x93 x94 x95 x96 x97 x98 x99 x100 x101 x102 x103 ⟨i, k, out, hi, hk, rfl, rfl, rfl, ho, hnew, heq, hol, hf⟩
  refine stp ?_
  refine O.dec (fun h1 => ?_) (fun h1 => ?_)
  · have h1 : i < l.length := by omega
    obtain ⟨b1, o1, s1, rfl, hb1, hcc1⟩ := hc1 (by omega)
    have hcc1' : cellsAt h' b1 o1 (l.length * 5) = some (vcells l) := by rw [cellsAt_keep hf hb1 id]; exact hcc1
    haveI := val_cells hcc1' rfl h1
    haveI := val_key hcc1' rfl h1
    refine stp ?_
    refine D.dec (fun h2 => ?_) (fun h2 => ?_)
    · have h2 : k = m.length := by omega
      subst h2
      refine stp ?_
      refine app_one (u := zeroV (l.getD i zVal)) ho (by omega) hnew hf (fun v3 h3 ho3 hn3 hf3 => ?_)
      refine stp ?_
      refine zkQ_l0_again (l.length - (i + 1) + (m.length - m.length)) (by omega) ⟨i + 1, m.length, out ++ [zeroV (l.getD i zVal)], by omega, by omega, rfl, rfl, rfl, ho3, hn3, ?_, by simp; omega, hf3⟩
      rw [← heq, List.append_assoc, drop_getD h1, List.drop_length, madeS_l]
      rfl
    · have h2 : k < m.length := by omega
      obtain ⟨b2, o2, s2, rfl, hb2, hcc2⟩ := hc2 (by omega)
      have hcc2' : cellsAt h' b2 o2 (m.length * 5) = some (vcells m) := by rw [cellsAt_keep hf hb2 id]; exact hcc2
      haveI := val_cells hcc2' rfl h2
      haveI := val_key hcc2' rfl h2
      rw [drop_getD h1, drop_getD h2] at heq
      have R1 := key_str hcc1' rfl h1 (hf.lt hb1)
      have R2 := key_str hcc2' rfl h2 (hf.lt hb2)
      refine stp ?_
      refine D.dec (fun h3 => ?_) (fun h3 => absurd (by omega) h3)
      refine stp ?_
      refine D.howT (XOp.mkIndexSl (by omega)) rfl ?_
      refine stp ?_
      refine D.howT (XOp.mkIndexSl (by omega)) rfl ?_
      refine stp ?_
      rw [less_raw]
      refine C.if (fun h4 => ?_) (fun h4 => ?_)
      · rw [madeS_lt h4] at heq
        refine stp ?_
        refine app_one (u := zeroV (l.getD i zVal)) ho (by omega) hnew hf (fun v3 h3 ho3 hn3 hf3 => ?_)
        refine stp ?_
        refine zkQ_l0_again (l.length - (i + 1) + (m.length - k)) (by omega) ⟨i + 1, k, out ++ [zeroV (l.getD i zVal)], by omega, by omega, rfl, rfl, rfl, ho3, hn3, ?_, by simp; omega, hf3⟩
        rw [← heq, List.append_assoc, drop_getD h2]
        rfl
      refine stp ?_
      refine D.dec (fun h5 => absurd h5 (by omega)) (fun h5 => ?_)
      refine stp ?_
      refine D.howT (XOp.mkIndexSl (by omega)) rfl ?_
      refine stp ?_
      refine D.howT (XOp.mkIndexSl (by omega)) rfl ?_
      refine stp ?_
      rw [less_raw]
      refine C.if (fun h6 => ?_) (fun h6 => ?_)
      · rw [madeS_gt h4 h6] at heq
        refine stp ?_
        refine app_one (u := m.getD k zVal) ho (by omega) hnew hf (fun v3 h3 ho3 hn3 hf3 => ?_)
        refine stp ?_
        refine zkQ_l0_again (l.length - i + (m.length - (k + 1))) (by omega) ⟨i, k + 1, out ++ [m.getD k zVal], by omega, by omega, rfl, rfl, rfl, ho3, hn3, ?_, by simp; omega, hf3⟩
        rw [← heq, List.append_assoc, drop_getD h1]
        rfl
      rw [madeS_eq h4 h6] at heq
      refine stp ?_
      rw [same_val]
      refine C.ifN (fun h7 => ?_) (fun h7 => ?_)
      · have e9 : difS (l.getD i zVal) (m.getD k zVal) = [m.getD k zVal] := if_neg h7
        rw [e9] at heq
        refine stp ?_
        refine app_one (u := m.getD k zVal) ho (by omega) hnew hf (fun v3 h3 ho3 hn3 hf3 => ?_)
        refine stp ?_
        refine zkQ_l0_again (l.length - (i + 1) + (m.length - (k + 1))) (by omega) ⟨i + 1, k + 1, out ++ [m.getD k zVal], by omega, by omega, rfl, rfl, rfl, ho3, hn3, ?_, by simp; omega, hf3⟩
        rw [← heq, List.append_assoc]
      · have e9 : difS (l.getD i zVal) (m.getD k zVal) = [] := if_pos h7
        rw [e9] at heq
        refine stp ?_
        exact zkQ_l0_again (l.length - (i + 1) + (m.length - (k + 1))) (by omega) ⟨i + 1, k + 1, out, by omega, by omega, rfl, rfl, rfl, ho, hnew, heq, by omega, hf⟩
  · have h1 : i = l.length := by omega
    subst h1
    refine stp ?_
    refine C.if (fun h2 => ?_) (fun h2 => ?_)
    · have h2 : k < m.length := by omega
      obtain ⟨b2, o2, s2, rfl, hb2, hcc2⟩ := hc2 (by omega)
      have hcc2' : cellsAt h' b2 o2 (m.length * 5) = some (vcells m) := by rw [cellsAt_keep hf hb2 id]; exact hcc2
      haveI := val_cells hcc2' rfl h2
      refine stp ?_
      refine D.dec (fun h3 => absurd h3 (by omega)) (fun h3 => ?_)
      refine stp ?_
      refine D.dec (fun h4 => absurd h4 (by omega)) (fun h4 => ?_)
      refine stp ?_
      rw [List.drop_length, drop_getD h2, madeS_r] at heq
      refine D.dec (fun h5 => ?_) (fun h5 => absurd rfl h5)
      refine stp ?_
      refine app_one (u := m.getD k zVal) ho (by omega) hnew hf (fun v3 h3 ho3 hn3 hf3 => ?_)
      refine stp ?_
      refine zkQ_l0_again (l.length - l.length + (m.length - (k + 1))) (by omega) ⟨l.length, k + 1, out ++ [m.getD k zVal], by omega, by omega, rfl, rfl, rfl, ho3, hn3, ?_, by simp; omega, hf3⟩
      rw [← heq, List.append_assoc, List.drop_length]
      rfl
    · obtain rfl : k = m.length := by omega
      rw [List.drop_length, List.drop_length, madeS_end, List.append_nil] at heq
      subst heq
      refine stp ?_
      exact ⟨ho, hnew, hf⟩
end Go.Proofs.Ytmfaepkmiceoeaa.A

namespace Go.Proofs.Ytmfaepkmiceoeaa.A
open Go Go.Vm
set_option maxRecDepth 10000
set_option linter.unusedVariables false
theorem vcells_part (l : List Val) (i j : Nat) : ((vcells l).drop (i * 5)).take ((j - i) * 5) = vcells ((l.drop i).take (j - i)) := by
  have hd : ∀ (l : List Val) (i : Nat), (vcells l).drop (i * 5) = vcells (l.drop i) := by
    intro l
    induction l with
    | nil => intro i; simp [vcells]
    | cons v l ih =>
      intro i
      cases i with
      | zero => rfl
      | succ i =>
        rw [vcells_cons, List.drop_succ_cons, ← ih i, show (i + 1) * 5 = v.cells.length + i * 5 from by simp; omega, ← List.drop_drop, List.drop_left]
  have ht : ∀ (l : List Val) (i : Nat), (vcells l).take (i * 5) = vcells (l.take i) := by
    intro l
    induction l with
    | nil => intro i; simp [vcells]
    | cons v l ih =>
      intro i
      cases i with
      | zero => simp [vcells]
      | succ i =>
        rw [vcells_cons, List.take_succ_cons, vcells_cons, ← ih i, show (i + 1) * 5 = v.cells.length + i * 5 from by simp; omega, List.take_length_add_append]
  rw [hd, ht]
theorem made_len (l m : List Val) : (madeS l m).length ≤ l.length + m.length := by
  fun_induction madeS l m with
  | case1 => simp
  | case2 v l ih => simp only [List.length_cons]; simp only [List.length_nil] at ih ⊢; omega
  | case3 w m ih => simp only [List.length_cons]; simp only [List.length_nil] at ih ⊢; omega
  | case4 v l w m hlt ih => simp only [List.length_cons] at ih ⊢; omega
  | case5 v l w m hlt hgt ih => simp only [List.length_cons] at ih ⊢; omega
  | case6 v l w m hlt hgt ih =>
    have : (difS v w).length ≤ 1 := by unfold difS; split <;> simp
    simp only [List.length_cons, List.length_append]; omega
theorem cut_take {h : Heap} {v : Value} {l : List Val} {k : Nat} (hk : k ≤ l.length) (hs : Sd h 5 v (((vcells l).drop (0 * 5)).take ((k - 0) * 5)) (k - 0)) : Sd h 5 v (vcells (l.take k)) (l.take k).length := by
  rw [vcells_part, List.drop_zero, Nat.sub_zero] at hs
  rw [List.length_take, Nat.min_eq_left hk]
  exact hs
theorem cut_drop {h : Heap} {v : Value} {l : List Val} {k : Nat} (hs : Sd h 5 v (((vcells l).drop (k * 5)).take ((l.length - k) * 5)) (l.length - k)) : Sd h 5 v (vcells (l.drop k)) (l.drop k).length := by
  rw [vcells_part, List.take_of_length_le (by rw [List.length_drop]; omega)] at hs
  rw [List.length_drop]
  exact hs
set_option maxHeartbeats 4000000 in
theorem changes_ok {h : Heap} {v w u : Value} {l cs m : List Val} (hv : Sd h 5 v (vcells l) l.length) (hw : Rd h 5 w (vcells cs) cs.length) (hu : Rd h 5 u (vcells m) m.length) (hl : l.length < 400000) (hcs : cs.length < 50000) (hm : m.length < 400000) (he : changeS l cs = (0, m)) :
    Runs Try.prog T0 (.fn fn_zjQ) [v, w, u, .int .i64 0] h (fun r h' => r = .bool true ∧ Fr (fun _ => False) h h') (fun _ _ => False) := by
  refine zjQ_runs ?_
  refine stp ?_
  refine O.call' (VChange_ok hv hw hl hcs) (fun r h1 hr => ?_)
  obtain ⟨x1, rfl, ho1, hn1, hf1⟩ := hr
  rw [he] at ho1 ⊢
  refine stp ?_
  refine O.callT (SameVals_same ho1.rd (hu.keep hf1 fun _ _ => id) (Nat.lt_trans hm (by omega))) (fun r5 h5 hr => ?_)
  obtain ⟨rfl, rfl⟩ := hr
  refine stp ?_
  exact ⟨rfl, hf1⟩
set_option maxHeartbeats 8000000 in
theorem ValsMade_true {h : Heap} {v w : Value} {l m : List Val} {cut : Int} (hv : Sd h 5 v (vcells l) l.length) (hw : Sd h 5 w (vcells m) m.length) : Runs Try.prog T0 (.fn fn_zhQ) [v, w, .int .i64 cut] h (fun r h' => r = .bool true) (fun _ _ => False) := by
  have hv0 := hv
  have hw0 := hw
  obtain ⟨a1, c1, rfl, _, _, _⟩ := hv
  obtain ⟨a2, c2, rfl, _, _, _⟩ := hw
  refine zhQ_runs ?_
  refine stp ?_
  refine O.call' zgQ_known (fun r h1 hr => ?_)
  obtain ⟨rfl, rfl⟩ := hr
  refine stp ?_
  refine O.dec (fun h0 => ?_) (fun h0 => ?_)
  · refine stp ?_
    rfl
  refine stp ?_
  refine O.dec (fun h1 => ?_) (fun h1 => ?_)
  · refine stp ?_
    rfl
  refine stp ?_
  refine O.callT (VCheck_ok hv0.rd) (fun r h2 hr => ?_)
  obtain ⟨rfl, hf2⟩ := hr
  refine stp ?_
  refine O.decN (fun h3 => ?_) (fun h3 => ?_)
  · refine stp ?_
    rfl
  refine stp ?_
  refine O.callT (VCheck_ok (hw0.rd.keep hf2 fun _ _ => id)) (fun r h4 hr => ?_)
  obtain ⟨rfl, hf4⟩ := hr
  refine stp ?_
  refine C.ifN (fun h5 => ?_) (fun h5 => ?_)
  · refine stp ?_
    rfl
  have T : Two l m := ⟨h3, h5, by omega, by omega⟩
  have hbl := T.len (List.Sublist.refl _)
  have F1 := hf2.trans' hf4
  refine stp ?_
  refine O.call' (made_ok (hv0.rd.keep F1 fun _ _ => id) (hw0.rd.keep F1 fun _ _ => id) (by omega) (by omega)) (fun r h6 hr => ?_)
  obtain ⟨hb, hnb, hf6⟩ := hr
  have F2 := F1.trans' hf6
  refine stp ?_
  have hml := made_len l m
  have hml2 := made_len m l
  have hll := T.ll
  have hlm := T.lm
  refine O.call' (changes_ok (hv0.keep F2 fun _ _ => id) hb.rd (hw0.rd.keep F2 fun _ _ => id) (by omega) (by omega) (by omega) T.made) (fun r h7 hr => ?_)
  obtain ⟨rfl, hf7⟩ := hr
  have F3 := F2.trans' hf7
  refine stp ?_
  refine O.callT (made_ok (hw0.rd.keep F3 fun _ _ => id) (hv0.rd.keep F3 fun _ _ => id) (by omega) (by omega)) (fun r2 h8 hr => ?_)
  obtain ⟨hb2, hnb2, hf8⟩ := hr
  have F4 := F3.trans' hf8
  refine stp ?_
  refine O.callT (changes_ok (hw0.keep F4 fun _ _ => id) hb2.rd (hv0.rd.keep F4 fun _ _ => id) (by omega) (by omega) (by omega) T.swap.made) (fun r h9 hr => ?_)
  obtain ⟨rfl, hf9⟩ := hr
  have F5 := F4.trans' hf9
  refine stp ?_
  refine O.callT (changes_ok (cs := []) (hv0.keep F5 fun _ _ => id) Rd.nil (hv0.rd.keep F5 fun _ _ => id) (by omega) (by simp) (by omega) (changeS_nil h3)) (fun r h10 hr => ?_)
  obtain ⟨rfl, hf10⟩ := hr
  have F6 := F5.trans' hf10
  have hb6 := (((hb.keep hf7 fun _ _ => id).keep hf8 fun _ _ => id).keep hf9 fun _ _ => id).keep hf10 fun _ _ => id
  obtain ⟨ab, cb, rfl, hlb, _⟩ := id hb6.sd
  refine stp ?_
  simp only [Bool.not_true, Bool.false_eq_true, if_false]
  refine stp ?_
  refine O.call' (Pick_ok (x := cut) (n := ((madeS l m).length : Int) + 1) (by omega)) (fun r h11 hr => ?_)
  obtain ⟨rfl, rfl⟩ := hr
  obtain ⟨k, hk, hkl⟩ : ∃ k : Nat, pickS cut (((madeS l m).length : Int) + 1) = k ∧ k ≤ (madeS l m).length := by
    unfold pickS
    rw [if_neg (by omega)]
    have p1 := Int.emod_nonneg cut (show ((madeS l m).length : Int) + 1 ≠ 0 by omega)
    have p2 := Int.emod_lt_of_pos cut (show 0 < ((madeS l m).length : Int) + 1 by omega)
    exact ⟨(cut % (((madeS l m).length : Int) + 1)).toNat, by omega, by omega⟩
  rw [hk]
  refine stp ?_
  refine O.cut 0 k hb6.sd (fun c hc => bnd_at' (i := k) (by omega)) bnd_none (by omega) hkl (fun w1 hw1 hs1 => ?_)
  have hs1 := cut_take hkl hs1
  refine stp ?_
  have hA := List.take_sublist k (madeS l m)
  have hB := List.drop_sublist k (madeS l m)
  have hAl := hA.length_le
  have hBl := hB.length_le
  refine O.call' (VChange_ok (hv0.keep F6 fun _ _ => id) hs1.rd (by omega) (by omega)) (fun r h12 hr => ?_)
  obtain ⟨x1, rfl, ho1, hn1, hf12⟩ := hr
  have F7 := F6.trans' hf12
  rcases T.part hA with e1 | ⟨e1, hx1⟩
  · rw [e1] at ho1 ⊢
    refine stp ?_
    simp only [decide_true]
  rw [e1] at ho1 ⊢
  have ho1 : Own h12 5 x1 (vcells (allS l ((madeS l m).take k))) (allS l ((madeS l m).take k)).length := ho1
  have hb7 := hb6.keep hf12 fun _ _ => id
  have hxl := T.len hA
  refine stp ?_
  refine O.cut k (madeS l m).length hb7.sd (fun _ _ => bnd_none) (bnd_at' (i := k) hkl) hkl (Nat.le_refl _) (fun w2 hw2 hs2 => ?_)
  have hs2 := cut_drop hs2
  refine stp ?_
  refine O.call' (VChange_ok (hv0.keep F7 fun _ _ => id) hs2.rd (by omega) (by omega)) (fun r h13 hr => ?_)
  obtain ⟨x2, rfl, ho2, hn2, hf13⟩ := hr
  have F8 := F7.trans' hf13
  have hb8 := hb7.keep hf13 fun _ _ => id
  have ho18 := ho1.keep hf13 fun _ _ => id
  refine stp ?_
  refine O.cut k (madeS l m).length hb8.sd (fun _ _ => bnd_none) (bnd_at' (i := k) hkl) hkl (Nat.le_refl _) (fun w3 hw3 hs3 => ?_)
  have hs3 := cut_drop hs3
  refine stp ?_
  refine O.call' (changes_ok ho18.sd hs3.rd (hw0.rd.keep F8 fun _ _ => id) (by omega) (by omega) (by omega) (T.first k hx1)) (fun r h14 hr => ?_)
  obtain ⟨rfl, hf14⟩ := hr
  have F9 := F8.trans' hf14
  have hb9 := hb8.keep hf14 fun _ _ => id
  rcases T.part hB with e2 | ⟨e2, hx2⟩
  · rw [e2] at ho2 ⊢
    refine stp ?_
    simp only [decide_true]
    refine stp ?_
    rfl
  rw [e2] at ho2 ⊢
  have ho2 : Own h13 5 x2 (vcells (allS l ((madeS l m).drop k))) (allS l ((madeS l m).drop k)).length := ho2
  have ho29 := ho2.keep hf14 fun _ _ => id
  have hyl := T.len hB
  refine stp ?_
  refine O.cutT 0 k hb9.sd (fun c hc => bnd_at' (i := k) (by omega)) bnd_none (by omega) hkl (fun w4 hw4 hs4 => ?_)
  have hs4 := cut_take hkl hs4
  refine stp ?_
  refine O.callT (changes_ok ho29.sd hs4.rd (hw0.rd.keep F9 fun _ _ => id) (by omega) (by omega) (by omega) (T.second k hx2)) (fun r h15 hr => ?_)
  obtain ⟨rfl, hf15⟩ := hr
  refine stp ?_
  rfl
end Go.Proofs.Ytmfaepkmiceoeaa.A

namespace Go.Proofs.Ytmfaepkmiceoeaa.A
open Go Go.Vm
set_option maxRecDepth 10000
set_option linter.unusedVariables false
theorem u8nat {n : Nat} (h : n < 256) : (UInt8.ofNat n).toNat = n := by
  rw [UInt8.toNat_ofNat']
  exact Nat.mod_eq_of_lt h
end Go.Proofs.Ytmfaepkmiceoeaa.A

namespace Go.Proofs.Ytmfaepkmiceoeaa.A
open Go Go.Vm
set_option maxRecDepth 10000
set_option linter.unusedVariables false
theorem fits_bytes {h : Heap} {m : Nat} {te : TypeId} {c : List Value} {len : Nat} (hu : Try.prog.underlying te = some (.int .u8)) (hs : Try.prog.cellsOf te = 1) (hl : c.length = len * Try.prog.cellsOf te) (hall : ∀ i, i < len → Fits Try.prog h (m + 1) te ((c.drop (i * Try.prog.cellsOf te)).take (Try.prog.cellsOf te))) : ∃ bs : List UInt8, c = bcells bs ∧ bs.length = len := by
  rw [hs, Nat.mul_one] at hl
  induction c generalizing len with
  | nil => exact ⟨[], rfl, by simpa using hl⟩
  | cons v c ih =>
    cases len with
    | zero => simp at hl
    | succ len =>
      have h0 := hall 0 (by omega)
      rw [hs] at h0
      unfold Fits at h0
      rw [hu] at h0
      simp only [Nat.zero_mul, List.drop_zero, List.take_succ_cons, List.take_zero] at h0
      obtain ⟨x, hx, hwf⟩ := h0
      injection hx with hx _
      obtain ⟨bs, rfl, hb⟩ := ih (len := len) (by simpa using hl) fun i hi => by
        have := hall (i + 1) (by omega)
        rw [hs] at this ⊢
        simpa using this
      have hr : 0 ≤ x ∧ x ≤ 255 := by
        simp [Lit.wf, IntKind.min, IntKind.max, IntKind.signed, IntKind.bits] at hwf
        omega
      refine ⟨UInt8.ofNat x.toNat :: bs, ?_, by simp [hb]⟩
      rw [hx]
      show Value.int .u8 x :: bcells bs = Value.int .u8 ((UInt8.ofNat x.toNat).toNat : Nat) :: bcells bs
      rw [u8nat (by omega)]
      congr 2
      omega
end Go.Proofs.Ytmfaepkmiceoeaa.A

namespace Go.Proofs.Ytmfaepkmiceoeaa.A
open Go Go.Vm
set_option maxRecDepth 100000
set_option linter.unusedVariables false
theorem i64_fits {h : Heap} {v : Value} (hv : FitsV Try.prog h 8 3 v) : ∃ x : Int, v = .int .i64 x ∧ (-9223372036854775808 ≤ x ∧ x ≤ 9223372036854775807) := by
  have u2 : Try.prog.underlying 3 = some (.int .i64) := by kernel_rfl
  obtain ⟨x, h1, h2⟩ := hv.int u2
  exact ⟨x, h1, wf_i64 h2⟩
end Go.Proofs.Ytmfaepkmiceoeaa.A

namespace Go.Proofs.Ytmfaepkmiceoeaa.A
open Go Go.Vm
set_option maxRecDepth 100000
set_option linter.unusedVariables false
theorem vals_cells_fit {h : Heap} {m : Nat} {te tk tb ti : TypeId} (f0 : fieldAt Try.prog te 0 = some (0, tk)) (f1 : fieldAt Try.prog te 1 = some (4, ti)) (uk : Try.prog.underlying tk = some (.array 4 tb)) (ub : Try.prog.underlying tb = some (.int .u8)) (ui : Try.prog.underlying ti = some (.int .i64))
    (ce : Try.prog.cellsOf te = 5) (ck : Try.prog.cellsOf tk = 4) (cb : Try.prog.cellsOf tb = 1) (ci : Try.prog.cellsOf ti = 1) : ∀ (len : Nat) (c : List Value), c.length = len * 5 → (∀ i, i < len → Fits Try.prog h (m + 3) te ((c.drop (i * 5)).take 5)) →
    ∃ l : List Val, c = vcells l ∧ l.length = len ∧ ∀ v ∈ l, -9223372036854775808 ≤ v.p ∧ v.p ≤ 9223372036854775807
  | 0, c, hl, _ => ⟨[], by rw [vcells_nil]; simpa using hl, rfl, fun v hv => by cases hv⟩
  | len + 1, c, hl, hall => by
    have h0 := hall 0 (by omega)
    rw [Nat.zero_mul, List.drop_zero] at h0
    have hk := h0.field f0
    obtain ⟨p, g1, w1⟩ := (h0.field f1).int ui
    rw [ck] at hk
    rw [ci] at g1
    rw [List.drop_zero] at hk
    have h4 : (c.take 5).take 4 = c.take 4 := by rw [List.take_take]; rfl
    rw [h4] at hk
    have hb : ∃ bs : List UInt8, c.take 4 = bcells bs ∧ bs.length = 4 := by
      unfold Fits at hk
      rw [uk] at hk
      exact fits_bytes ub cb (by rw [hk.1, ck, cb]) hk.2
    obtain ⟨bs, hb1, hb2⟩ := hb
    obtain ⟨a0, a1, a2, a3, rfl⟩ := four hb2
    obtain ⟨l, e1, e2, e3⟩ := vals_cells_fit f0 f1 uk ub ui ce ck cb ci len (c.drop 5) (by rw [List.length_drop]; omega) fun i hi => by
      have := hall (i + 1) (by omega)
      rw [List.drop_drop]
      rw [show (i + 1) * 5 = 5 + i * 5 from by omega] at this
      exact this
    refine ⟨⟨a0, a1, a2, a3, p⟩ :: l, ?_, by simp [e2], fun v hv => ?_⟩
    · rw [vcells_cons, ← e1]
      have e5 : c = c.take 5 ++ c.drop 5 := (List.take_append_drop 5 c).symm
      have e6 : c.take 5 = c.take 4 ++ ((c.take 5).drop 4).take 1 := by
        have h1 : ((c.take 5).drop 4).take 1 = (c.take 5).drop 4 := List.take_of_length_le (by rw [List.length_drop, List.length_take]; omega)
        rw [h1, ← h4, List.take_append_drop]
      conv => lhs; rw [e5, e6, hb1, g1]
      rfl
    · rcases List.mem_cons.1 hv with rfl | hv
      · exact wf_i64 w1
      · exact e3 v hv
end Go.Proofs.Ytmfaepkmiceoeaa.A

namespace Go.Proofs.Ytmfaepkmiceoeaa.A
open Go Go.Vm
set_option maxRecDepth 100000
set_option linter.unusedVariables false
end Go.Proofs.Ytmfaepkmiceoeaa.A

namespace Go.Proofs.Ytmfaepkmiceoeaa.A
open Go Go.Vm
set_option maxRecDepth 100000
set_option linter.unusedVariables false
theorem fits_vsd {h : Heap} {m : Nat} {t te tk tb ti : TypeId} {v : Value} (ht : Try.prog.underlying t = some (.slice te)) (f0 : fieldAt Try.prog te 0 = some (0, tk)) (f1 : fieldAt Try.prog te 1 = some (4, ti)) (uk : Try.prog.underlying tk = some (.array 4 tb)) (ub : Try.prog.underlying tb = some (.int .u8)) (ui : Try.prog.underlying ti = some (.int .i64))
    (ce : Try.prog.cellsOf te = 5) (ck : Try.prog.cellsOf tk = 4) (cb : Try.prog.cellsOf tb = 1) (ci : Try.prog.cellsOf ti = 1) (hv : FitsV Try.prog h (m + 4) t v) : ∃ l : List Val, Sd h 5 v (vcells l) l.length := by
  unfold FitsV at hv
  rw [ht] at hv
  unfold Fits at hv
  rw [ht] at hv
  rcases hv with hv | ⟨b, len, cap, c, hv, hb, hlc, hcap, hro, hl, hall⟩
  · injection hv with hv
    subst hv
    exact ⟨[], Sd.nil⟩
  · injection hv with hv
    subst hv
    rw [ce] at hl hall
    obtain ⟨l, rfl, e2, e3⟩ := vals_cells_fit f0 f1 uk ub ui ce ck cb ci len c hl hall
    refine ⟨l, ⟨_, _, by rw [e2], by omega, vcells_len l, fun hn => ⟨b, 0, none, rfl, hb, ?_, fun h => absurd rfl h⟩⟩⟩
    rw [cellsAt_of (c := vcells l) (by rw [hro (by omega)]; rfl) (by rw [vcells_len]; omega), List.drop_zero, List.take_of_length_le (by rw [vcells_len]; omega)]
theorem ValsMade_run (h : Heap) (vs : List Value) (hf : FitsAll Try.prog h 8 [25, 25, 3] vs) : Runs Try.prog T0 (.fn fn_zhQ) vs h (fun r _ => r = .bool true) (fun _ _ => False) := by
  obtain ⟨v1, _, rfl, h1, hf⟩ := hf.cons
  obtain ⟨v2, _, rfl, h2, hf⟩ := hf.cons
  obtain ⟨v3, _, rfl, h3, hf⟩ := hf.cons
  obtain rfl := hf.nil
  obtain ⟨l, hl⟩ := fits_vsd (m := 4) (te := 54) (tk := 42) (tb := 5) (ti := 3) (by kernel_rfl) (by kernel_rfl) (by kernel_rfl) (by kernel_rfl) (by kernel_rfl) (by kernel_rfl) (by kernel_rfl) (by kernel_rfl) (by kernel_rfl) (by kernel_rfl) h1
  obtain ⟨m, hm⟩ := fits_vsd (m := 4) (te := 54) (tk := 42) (tb := 5) (ti := 3) (by kernel_rfl) (by kernel_rfl) (by kernel_rfl) (by kernel_rfl) (by kernel_rfl) (by kernel_rfl) (by kernel_rfl) (by kernel_rfl) (by kernel_rfl) (by kernel_rfl) h2
  obtain ⟨cut, rfl, _⟩ := i64_fits h3
  exact ValsMade_true hl hm
end Go.Proofs.Ytmfaepkmiceoeaa.A
