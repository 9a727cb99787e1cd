/- Contracts of functions, over the machine. -/
import Derived.Test.YtoadcfjkkoemdaaQMailActs3
import Derived.Test.YtoadcfjkkoemdaaVK
set_option linter.unusedSimpArgs false
set_option linter.unusedSectionVars false
noncomputable section
namespace Go.Proofs.Ytoadcfjkkoemdaa.A
open Go Go.Vm
set_option maxRecDepth 10000
set_option linter.unusedVariables false
section
variable {h h' : Heap} {p : Nat} {most : Int} {s : MS} {Dp : Nat → Prop}
set_option maxHeartbeats 16000000 in
theorem DPost_ok {f t d : Int} {v : Value} {bs : List UInt8} (hv : DV h p most s Dp) (hm : most ≤ 4096) (hlast : s.last < 1000000) (hr : Rd h 1 v (bcells bs) bs.length) (hb : bs.length < 1000000) (hvp : ∀ i, blockOf v i → i ≠ p) :
    Runs Try.prog T0 (.fn fn_zvQ) [.pointer (some ⟨p, 0, none⟩), .int .i64 f, .int .i64 t, .int .i64 d, v] h (fun r h' => r = .tuple ⟨[.int .i64 (postS most s f t d bs).2.1, .int .i64 (postS most s f t d bs).2.2]⟩ ∧ DAfter h p most Dp (postS most s f t d bs).1 h') (fun _ _ => False) := by
  obtain ⟨u, Ls, hs, ho, hD⟩ := hv.kp
  have hlen := hv.len hm
  have hOl : Ls.length = s.L.length := by rw [← ho, List.length_map]
  have hl0 := hv.iv.l0
  have hp := hs.pl
  obtain ⟨a, cap, rfl, hlv, _⟩ := id hr
  obtain ⟨au, cu, eu, _, _⟩ := id hs.ou.rd
  subst eu
  haveI : HGet h p _ := ⟨hs.gp⟩
  haveI : BLt p h := ⟨hs.pl⟩
  unfold postS
  refine zvQ_runs ?_
  by_cases c1 : f < 0
  · haveI q1 : ∀ {ts : List Value} {h : Heap} {Q : Oper} {x z : Operand} [Ev ts x (.int .i64 f)] [Ev ts z (.int .i64 0)], XOp Try.prog ts h (.bin .lss Q x z) (.bool true) h := xlss1 c1
    rw [show isEnd f = false from decide_eq_false (by omega)]
    refine stp ?_
    exact ⟨rfl, DAfter.same hv Fr.refl⟩
  haveI q1 : ∀ {ts : List Value} {h : Heap} {Q : Oper} {x z : Operand} [Ev ts x (.int .i64 f)] [Ev ts z (.int .i64 0)], XOp Try.prog ts h (.bin .lss Q x z) (.bool false) h := xlss0 c1
  by_cases c2 : 16 < f
  · haveI q2 : ∀ {ts : List Value} {h : Heap} {Q : Oper} {x z : Operand} [Ev ts x (.int .i64 f)] [Ev ts z (.int .i64 16)], XOp Try.prog ts h (.bin .gtr Q x z) (.bool true) h := xgtr1 c2
    rw [show isEnd f = false from decide_eq_false (by omega)]
    refine stp ?_
    exact ⟨rfl, DAfter.same hv Fr.refl⟩
  haveI q2 : ∀ {ts : List Value} {h : Heap} {Q : Oper} {x z : Operand} [Ev ts x (.int .i64 f)] [Ev ts z (.int .i64 16)], XOp Try.prog ts h (.bin .gtr Q x z) (.bool false) h := xgtr0 c2
  by_cases c3 : t < 0
  · haveI q3 : ∀ {ts : List Value} {h : Heap} {Q : Oper} {x z : Operand} [Ev ts x (.int .i64 t)] [Ev ts z (.int .i64 0)], XOp Try.prog ts h (.bin .lss Q x z) (.bool true) h := xlss1 c3
    rw [show isEnd t = false from decide_eq_false (by omega), Bool.and_false]
    refine stp ?_
    exact ⟨rfl, DAfter.same hv Fr.refl⟩
  haveI q3 : ∀ {ts : List Value} {h : Heap} {Q : Oper} {x z : Operand} [Ev ts x (.int .i64 t)] [Ev ts z (.int .i64 0)], XOp Try.prog ts h (.bin .lss Q x z) (.bool false) h := xlss0 c3
  by_cases c4 : 16 < t
  · haveI q4 : ∀ {ts : List Value} {h : Heap} {Q : Oper} {x z : Operand} [Ev ts x (.int .i64 t)] [Ev ts z (.int .i64 16)], XOp Try.prog ts h (.bin .gtr Q x z) (.bool true) h := xgtr1 c4
    rw [show isEnd t = false from decide_eq_false (by omega), Bool.and_false]
    refine stp ?_
    exact ⟨rfl, DAfter.same hv Fr.refl⟩
  haveI q4 : ∀ {ts : List Value} {h : Heap} {Q : Oper} {x z : Operand} [Ev ts x (.int .i64 t)] [Ev ts z (.int .i64 16)], XOp Try.prog ts h (.bin .gtr Q x z) (.bool false) h := xgtr0 c4
  rw [show isEnd t = true from decide_eq_true (by omega), show isEnd f = true from decide_eq_true (by omega)]
  refine stp ?_
  refine O.callT dwithin_ok (fun r h1 hr1 => ?_)
  obtain ⟨rfl, rfl⟩ := hr1
  cases hd : isDue d with
  | false =>
    refine stp ?_
    exact ⟨rfl, DAfter.same hv Fr.refl⟩
  | true =>
  simp only [Bool.and_true, Bool.true_eq_false, if_false]
  refine stp ?_
  refine C.if (fun hlong => ?_) (fun hshort => ?_)
  · refine stp ?_
    rw [if_pos (by omega)]
    exact ⟨rfl, DAfter.same hv Fr.refl⟩
  rw [if_neg (by omega)]
  refine stp ?_
  refine C.if (fun hfull => ?_) (fun hfree => ?_)
  · refine stp ?_
    rw [if_pos (by omega)]
    exact ⟨rfl, DAfter.same hv Fr.refl⟩
  rw [if_neg (by omega)]
  refine stp ?_
  have f1 : Fr (fun i => i = p) h1 (h1.set p (.cells (rcells most (s.last + 1) s.lost (.slice au Ls.length cu)) 0)) := Fr.refl.set fun _ => rfl
  have g1 : (h1.set p (.cells (rcells most (s.last + 1) s.lost (.slice au Ls.length cu)) 0)).get p = .cells (rcells most (s.last + 1) s.lost (.slice au Ls.length cu)) 0 := by rw [Heap.get_set, if_pos rfl]
  have n1 : (h1.set p (.cells (rcells most (s.last + 1) s.lost (.slice au Ls.length cu)) 0)).n = h1.n := rfl
  generalize h1.set p (.cells (rcells most (s.last + 1) s.lost (.slice au Ls.length cu)) 0) = h2 at *
  have hs2 : DMt h2 p most (s.last + 1) s.lost (.slice au Ls.length cu) Ls := ⟨by omega, g1, hs.ou.keep f1 hs.up, fun e he => (hs.rd e he).keep f1 (hs.wp e he), hs.up, hs.wp⟩
  refine D.callX (CopyBytes_ok (hr.keep f1 hvp) (by omega)) (fun r h3 hr => ?_) (fun r h3 hr => ?_) (fun _ _ hx => hx.elim)
  · obtain ⟨_, _, hf⟩ := hr
    haveI : HGet h3 p _ := hf.keep ⟨g1⟩ (by omega) id
    repeat refine stab_cons inferInstance ?_
    rfl
  obtain ⟨o3, m3, f3⟩ := hr
  have hs3 := hs2.keep f3 fun _ _ => id
  have n3 := f3.n
  haveI : HGet h3 p _ := ⟨hs3.gp⟩
  obtain ⟨a3, c3, rfl, _, _⟩ := id o3.rd
  refine stp ?_
  refine D.callX (dlay_ok (x := ⟨0, 0, s.last + 1, f, t, d, bs, .slice a3 bs.length c3⟩) hs3 (by omega) (by rw [ho]; exact hv.iv.so) o3.rd (fun i hi => by have := m3 i (block_own hi); omega)) (fun r h4 hr => rfl) (fun r h4 hr => ?_) (fun _ _ hx => hx.elim)
  obtain ⟨u4, O4, hs4, ho4, hin, f4, hu4⟩ := hr
  haveI : HGet h4 p _ := ⟨hs4.gp⟩
  refine stp ?_
  refine ⟨rfl, dafter_of hD hs4 (by rw [ho4, ho]; rfl) (hv.iv.add (by omega) ⟨by omega, by omega⟩ ⟨by omega, by omega⟩ (isDue_iff.1 hd) (by omega)) (fun j hj => by have := hu4 j hj; exact .inr (by omega)) (fun e he j hj => ?_) ((f1.trans' (f3.mono fun _ _ e => e.elim)).trans' f4)⟩
  rcases hin e he with q | q
  · exact .inl ⟨e, q, hj⟩
  · rw [q] at hj
    have := m3 j (block_own hj)
    exact .inr (by omega)
theorem twice_post {k d : Int} {x : LT} (hv : MOK most s) (hf : findT k s.L = some x) : twiceS most s k d = postS most s x.fr x.to d x.bs := by
  have h1 := hv.rg x (find_some hf).1
  unfold twiceS postS
  rw [hf, isEnd_iff.2 h1.1, isEnd_iff.2 h1.2.1, if_neg (show ¬ 65536 < x.bs.length by omega)]
  simp only [Bool.and_self, Bool.true_and]
set_option maxHeartbeats 8000000 in
theorem DTwice_ok {k d : Int} (hv : DV h p most s Dp) (hm : most ≤ 4096) (hlast : s.last < 1000000) :
    Runs Try.prog T0 (.fn fn_zxQ) [.pointer (some ⟨p, 0, none⟩), .int .i64 k, .int .i64 d] h (fun r h' => r = .tuple ⟨[.int .i64 (twiceS most s k d).2.1, .int .i64 (twiceS most s k d).2.2]⟩ ∧ DAfter h p most Dp (twiceS most s k d).1 h') (fun _ _ => False) := by
  obtain ⟨u, Ls, hs, ho, hD⟩ := hv.kp
  have hlen := hv.len hm
  have hOl : Ls.length = s.L.length := by rw [← ho, List.length_map]
  refine zxQ_runs ?_
  refine stp ?_
  refine O.call' (dat_ok hs (k := k) (by omega)) (fun r h1 hr => ?_)
  obtain ⟨rfl, ⟨i, hi, rfl, hk⟩ | ⟨rfl, hno⟩⟩ := hr
  · haveI q1 : ∀ {ts : List Value} {h : Heap} {Q : Oper} {x z : Operand} [Ev ts x (.int .i64 (i : Nat))] [Ev ts z (.int .i64 0)], XOp Try.prog ts h (.bin .lss Q x z) (.bool false) h := xlss0 (by omega)
    rw [twice_post hv.iv (dl_find ho hv.iv.nd hi hk)]
    have hem := at_mem hi
    have hbl : (at' Ls i).bs.length ≤ 65536 := (hv.iv.rg (at' Ls i).tr (by rw [← ho]; exact List.mem_map.2 ⟨_, hem, rfl⟩)).2.2.2
    obtain ⟨aq, cq, eu, _, hc⟩ := id hs.ou.rd
    subst eu
    obtain ⟨q, o, sp, rfl, hq, hcc⟩ := hc (by omega)
    haveI := let_cell (v := .int .i64 (at' Ls i).fr) hcc rfl hi (show 1 < 5 by omega) rfl
    haveI := let_cell (v := .int .i64 (at' Ls i).to) hcc rfl hi (show 2 < 5 by omega) rfl
    have c4 := let_cell (v := (at' Ls i).w) hcc rfl hi (show 4 < 5 by omega) rfl
    have hrd := hs.rd _ hem
    have hwp := hs.wp _ hem
    generalize at' Ls i = e at *
    obtain ⟨eb, et, i', fr, to, d', bs, w⟩ := e
    have hrd : Rd h1 1 w (bcells bs) bs.length := hrd
    obtain ⟨aw, cw, ew, _, _⟩ := id hrd
    subst ew
    haveI := c4
    haveI : HGet h1 p _ := ⟨hs.gp⟩
    refine stp ?_
    refine D.callX (DPost_ok hv hm hlast hrd (by have hbl : bs.length ≤ 65536 := hbl; show bs.length < _; omega) hwp) (fun r h4 hr => rfl) (fun r h4 hr => ?_) (fun _ _ hx => hx.elim)
    obtain ⟨rfl, hr⟩ := hr
    refine stp ?_
    exact ⟨rfl, hr⟩
  · haveI q1 : ∀ {ts : List Value} {h : Heap} {Q : Oper} {x z : Operand} [Ev ts x (.int .i64 (-1))] [Ev ts z (.int .i64 0)], XOp Try.prog ts h (.bin .lss Q x z) (.bool true) h := xlss1 (by omega)
    unfold twiceS
    rw [dl_none ho hno]
    refine stp ?_
    exact ⟨rfl, DAfter.same hv Fr.refl⟩
set_option maxHeartbeats 16000000 in
theorem DCome_ok {now : Int} (hv : DV h p most s Dp) (hm : most ≤ 4096) :
    Runs Try.prog T0 (.fn fn_zsQ) [.pointer (some ⟨p, 0, none⟩), .int .i64 now] h (fun r h' => ∃ Z, Z.map LE.tr = cameS s now ∧ LetRd h' r Z ∧ DAfter h p most Dp (comeS s now) h') (fun _ _ => False) := by
  obtain ⟨u, O0, hs, ho, hD⟩ := hv.kp
  have hlen := hv.len hm
  have hOl : O0.length = s.L.length := by rw [← ho, List.length_map]
  have hso := hv.iv.so
  have done : ∀ {hx : Heap} {v : Value} {Z : List LE} {u' : Value} {Ls : List LE}, O0 = Z ++ Ls → DMt hx p most s.last s.lost u' Ls → (∀ e ∈ Z, e.due ≤ now) → Own hx 5 v (ocells Z) Z.length → (∀ i, ownedBy u' i → Dp i ∨ h.n ≤ i) → Fr (fun i => i = p) h hx → (∀ e ∈ Ls, now < e.due) → ∃ Z, Z.map LE.tr = cameS s now ∧ LetRd hx v Z ∧ DAfter h p most Dp (comeS s now) hx := fun {hx v Z u' Ls} e hd hz ho' hu hF hK => by
    have h1 : ∀ t ∈ Z.map LE.tr, t.due ≤ now := fun t ht => by
      obtain ⟨x, hx, rfl⟩ := List.mem_map.1 ht
      exact hz x hx
    have h2 : ∀ t ∈ Ls.map LE.tr, now < t.due := fun t ht => by
      obtain ⟨x, hx, rfl⟩ := List.mem_map.1 ht
      exact hK x hx
    have eL : s.L = Z.map LE.tr ++ Ls.map LE.tr := by rw [← ho, e, List.map_append]
    refine ⟨Z, ?_, ⟨ho'.rd, fun x hx => ?_⟩, ?_⟩
    · unfold cameS
      rw [eL, List.filter_append, List.filter_eq_self.2 (fun t ht => by simpa using h1 t ht), List.filter_eq_nil_iff.2 (fun t ht => by have := h2 t ht; simpa using this), List.append_nil]
    · have hm0 : x ∈ O0 := by rw [e]; exact List.mem_append_left _ hx
      exact (hs.rd x hm0).keep hF (hs.wp x hm0)
    · refine dafter_of hD (s' := comeS s now) hd ?_ (hv.iv.less _ _ hv.iv.k0) hu (fun x hx j hj => .inl ⟨x, by rw [e]; exact List.mem_append_right _ hx, hj⟩) hF
      show Ls.map LE.tr = s.L.filter fun t => !decide (t.due ≤ now)
      rw [eL, List.filter_append, List.filter_eq_nil_iff.2 (fun t ht => by simpa using h1 t ht), List.filter_eq_self.2 (fun t ht => by have := h2 t ht; simpa using this), List.nil_append]
  refine zsQ_runs ?_
  refine stp ?_
  refine loop1 zsQ_l0_M 5 (fun q v5 hx => ∃ Z u' Ls, q = Ls.length ∧ O0 = Z ++ Ls ∧ DMt hx p most s.last s.lost u' Ls ∧ (∀ e ∈ Z, e.due ≤ now) ∧ Own hx 5 v5 (ocells Z) Z.length ∧ (∀ i, ownedBy v5 i → h.n ≤ i) ∧ (∀ i, ownedBy u' i → Dp i ∨ h.n ≤ i) ∧ Fr (fun i => i = p) h hx) ?_ O0.length ⟨[], u, O0, rfl, rfl, hs, by simp, .none, fun i hi => hi.elim, fun i hi => .inl ((hD i).2 (.inr (.inl hi))), Fr.refl⟩
  rintro m v5 h' x6 x7 x8 x9 x10 x11 x12 x13 x14 x15 x16 x17 x18 x19 x20 x21 x22 x23 x24 x25 x26 x27 ⟨Z, u', Ls, rfl, eO, hd, hz, hZ, hvn, hu, hF⟩
  have hOO : O0.length = Z.length + Ls.length := by rw [eO, List.length_append]
  have hsO : SrtT (Ls.map LE.tr) := by have := hso; rw [← ho, eO, List.map_append] at this; exact this.sublist (List.sublist_append_right ..)
  have nF := hF.n
  haveI : HGet h' p _ := ⟨hd.gp⟩
  obtain ⟨au, cu, eu, _, hcu⟩ := id hd.ou.rd
  subst eu
  obtain ⟨av, cv, ev, _, _⟩ := id hZ.rd
  subst ev
  rcases Nat.eq_zero_or_pos Ls.length with h0 | h0
  · haveI g1 : ∀ {ts : List Value} {h : Heap} {Q : Oper} {x z : Operand} [Ev ts x (.int .i64 (Ls.length : Nat))] [Ev ts z (.int .i64 0)], XOp Try.prog ts h (.bin .gtr Q x z) (.bool false) h := xgtr0 (by omega)
    have hO0 : Ls = [] := List.length_eq_zero_iff.1 h0
    refine stp ?_
    exact done eO hd hz hZ hu hF (by rw [hO0]; simp)
  haveI g1 : ∀ {ts : List Value} {h : Heap} {Q : Oper} {x z : Operand} [Ev ts x (.int .i64 (Ls.length : Nat))] [Ev ts z (.int .i64 0)], XOp Try.prog ts h (.bin .gtr Q x z) (.bool true) h := xgtr1 (by omega)
  have ht := dtake_ok hd (by omega) h0
  rw [show ((0 : Nat) : Int) = 0 from rfl] at ht
  obtain ⟨q, o, sp, rfl, hq, hcc⟩ := hcu (by omega)
  haveI : Cell h' q (o + 3) (.int .i64 (at' Ls 0).due) := by
    have := let_cell (v := .int .i64 (at' Ls 0).due) hcc rfl h0 (show 3 < 5 by omega) rfl
    rwa [Nat.zero_mul] at this
  haveI iz : ∀ {o : Nat}, IdxOff o 0 5 o := fun {o} => ⟨by simp⟩
  have hem := at_mem h0
  obtain ⟨M, hM⟩ : ∃ M, Ls = at' Ls 0 :: M := by
    cases Ls with
    | nil => simp at h0
    | cons a b => exact ⟨b, rfl⟩
  have hrd := hd.rd _ hem
  have hwp := hd.wp _ hem
  generalize at' Ls 0 = e1 at *
  refine stp ?_
  refine C.if (fun hdue => ?_) (fun hdue => ?_)
  case refine_2 =>
    refine stp ?_
    refine done eO hd hz hZ hu hF (fun x hx => ?_)
    rw [hM] at hx hsO
    unfold SrtT at hsO
    rw [List.map_cons, List.pairwise_cons] at hsO
    rcases List.mem_cons.1 hx with q | q
    · rw [q]; omega
    · have := hsO.1 _ (List.mem_map.2 ⟨x, q, rfl⟩)
      simp only [ltK, decide_eq_true_eq, LE.tr] at this
      omega
  refine stp ?_
  refine O.call' ht (fun r h1 hr => ?_)
  obtain ⟨rfl, u1, hd1, f1, hu1⟩ := hr
  rw [List.take_zero, List.nil_append, hM, show (e1 :: M).drop (0 + 1) = M from rfl] at hd1
  have n1 := f1.n
  have hvp : ∀ i, ownedBy (.slice av Z.length cv) i → i ≠ p := fun i hi e => by have := hvn i hi; have := hs.pl; omega
  have hZ1 := hZ.keep f1 hvp
  have hlv := fun {i : Nat} (hi : ownedBy (.slice av Z.length cv) i) => hZ.lt hi
  obtain ⟨eb, et, i', fr, to, d', bs, w⟩ := e1
  have hrd : Rd h' 1 w (bcells bs) bs.length := hrd
  obtain ⟨aw, cw, ew, _, _⟩ := id hrd
  subst ew
  refine stp ?_
  refine O.append (n := Z.length) (m := 1) (d := lcells i' fr to d' (.slice aw bs.length cw)) (hZ1.keep (Fr.refl.push (S := fun _ => False)) fun _ _ => id) one_let rfl rfl (by decide) (by decide) (by omega) (fun v2 h2 o2 f2 m2 => ?_)
  have ecl : ocells Z ++ lcells i' fr to d' (.slice aw bs.length cw) = ocells (Z ++ [⟨eb, et, i', fr, to, d', bs, .slice aw bs.length cw⟩]) := by rw [ocells_add]
  have eln : Z.length + 1 = (Z ++ [(⟨eb, et, i', fr, to, d', bs, .slice aw bs.length cw⟩ : LE)]).length := by simp
  rw [ecl, eln] at o2
  have F2 : Fr (ownedBy (.slice av Z.length cv)) h1 h2 := (Fr.refl.push (S := ownedBy (.slice av Z.length cv))).trans' f2
  have m2' : ∀ i, ownedBy v2 i → ownedBy (.slice av Z.length cv) i ∨ h1.n ≤ i := fun i hi2 => (m2 i hi2).imp id fun q => by simp at q; omega
  obtain ⟨av2, cv2, ev2, _, _⟩ := id o2.rd
  subst ev2
  refine stp ?_
  have hpl := hs.pl
  refine loop1a 5 M.length (by rw [hM]; simp) ⟨Z ++ [⟨eb, et, i', fr, to, d', bs, .slice aw bs.length cw⟩], u1, M, rfl, by rw [eO, hM]; simp, hd1.keep F2 fun i hi q => ?_, fun x hx => ?_, o2, fun i hi => ?_, fun i hi => ?_, ?_⟩
  · rcases hi with hi | hi | ⟨x, hx, hi⟩
    · exact hvp i q hi
    · have := hu1 i hi; have := hlv q; omega
    · have hx0 : x ∈ O0 := by rw [eO, hM]; simp [hx]
      have := Rd.block_lt (hs.rd x hx0) hi
      have := hvn i q
      omega
  · rcases List.mem_append.1 hx with hx | hx
    · exact hz x hx
    · rw [List.mem_singleton.1 hx]; exact hdue
  · rcases m2' i hi with q | q
    · exact hvn i q
    · omega
  · have := hu1 i hi; exact .inr (by omega)
  · exact (hF.trans' f1).trans F2 fun i hi q => by have := hvn i q; omega
end
end Go.Proofs.Ytoadcfjkkoemdaa.A

namespace Go.Proofs.Ytoadcfjkkoemdaa.A
open Go Go.Vm
set_option maxRecDepth 10000
set_option linter.unusedVariables false
theorem over_zero : ∀ (b c xs : List Value), b.length = xs.length → over (b ++ c) 0 xs = xs ++ c
  | [], c, [], _ => by cases c <;> rfl
  | _ :: b, c, x :: xs, h => by
    show x :: over (b ++ c) 0 xs = x :: (xs ++ c)
    rw [over_zero b c xs (by simpa using h)]
theorem over_mid : ∀ (a b c : List Value) (k : Nat) (xs : List Value), a.length = k → b.length = xs.length → xs ≠ [] → over (a ++ (b ++ c)) k xs = a ++ (xs ++ c)
  | [], b, c, k, xs, ha, hb, _ => by
    subst ha
    exact over_zero b c xs hb
  | y :: a, b, c, 0, xs, ha, _, _ => by simp at ha
  | y :: a, b, c, k + 1, xs, ha, hb, hx => by
    have h1 := over_mid a b c k xs (by simpa using ha) hb hx
    cases xs with
    | nil => exact absurd rfl hx
    | cons x xs =>
      show y :: over (a ++ (b ++ c)) k (x :: xs) = y :: (a ++ (x :: xs ++ c))
      rw [h1]
set_option maxHeartbeats 8000000 in
theorem OverLetters_ok {h : Heap} {r : Value} {Ls : List LE} (ho : LetOut h r Ls) (hl : Ls.length < 1000000) (hb : ∀ e ∈ Ls, e.bs.length < 1000000) :
    Runs Try.prog T0 (.fn fn_zmQ) [r] h (fun _ h' => Fr (OMine r Ls) h h') (fun _ _ => False) := by
  refine zmQ_runs ?_
  have hm0 := hl
  rcases Nat.eq_zero_or_pos Ls.length with h0 | h0
  · obtain ⟨a, c, rfl, _, _⟩ := id ho.ow.rd
    refine stp ?_
    refine loop1 zmQ_l0_M 2 (fun q v2 hx => v2 = .int .i64 0 ∧ hx = h) ?_ 0 ⟨rfl, rfl⟩
    rintro m v2 h' x3 x4 x5 x6 x7 x8 x9 x10 x11 x12 x13 x14 x15 x16 x17 x18 ⟨rfl, rfl⟩
    haveI q1 : ∀ {ts : List Value} {h : Heap} {Q : Oper} {x z : Operand} [Ev ts x (.int .i64 0)] [Ev ts z (.int .i64 (Ls.length : Nat))], XOp Try.prog ts h (.bin .lss Q x z) (.bool false) h := xlss0 (by omega)
    refine stp ?_
    exact Fr.refl
  have how := ho.ow
  have hrw := ho.rw
  have hwt := ho.wt
  have hdj := ho.dj
  generalize hnn : Ls.length = n at *
  generalize hc0 : ocells Ls = c0 at *
  cases how with
  | none => omega
  | lit _ _ => omega
  | grown hq hn hle hlc hl2 hg =>
  rename_i q kk cap j
  subst hc0
  refine stp ?_
  refine loop1 zmQ_l0_M 2 (fun m v2 hx => ∃ k : Nat, k ≤ n ∧ m = n - k ∧ v2 = .int .i64 k ∧ (∃ pre, hx.get q = .cells (pre ++ (ocells (Ls.drop k) ++ j)) 5 ∧ pre.length = k * 5) ∧ (∀ e ∈ Ls.drop k, Own hx 1 e.w (bcells e.bs) e.bs.length) ∧ Fr (OMine (.slice (some ⟨q, 0, some kk⟩) n cap) Ls) h hx) ?_ n ⟨0, by omega, rfl, rfl, ⟨[], hg, rfl⟩, hwt, Fr.refl⟩
  rintro m v2 h' x3 x4 x5 x6 x7 x8 x9 x10 x11 x12 x13 x14 x15 x16 x17 x18 ⟨k, hk, rfl, rfl, ⟨pre, hg', hpre⟩, hown, hF⟩
  rcases Nat.lt_or_ge k n with hlt | hge
  · haveI q1 : ∀ {ts : List Value} {h : Heap} {Q : Oper} {x z : Operand} [Ev ts x (.int .i64 (k : Nat))] [Ev ts z (.int .i64 (n : Nat))], XOp Try.prog ts h (.bin .lss Q x z) (.bool true) h := xlss1 (by omega)
    have hdr : Ls.drop k = Ls[k]'(by omega) :: Ls.drop (k + 1) := List.drop_eq_getElem_cons (by omega)
    have hmem : Ls[k]'(by omega) ∈ Ls := List.getElem_mem _
    have hdjk : ∀ f ∈ Ls.drop (k + 1), ∀ i, ownedBy (Ls[k]'(by omega)).w i → ¬ ownedBy f.w i := by
      have h1 := hdj
      rw [← List.take_append_drop k Ls, List.pairwise_append] at h1
      have h2 := h1.2.1
      rw [hdr, List.pairwise_cons] at h2
      exact h2.1
    have hwl := hb _ hmem
    have hre := hrw _ hmem
    rw [hdr] at hg' hown
    generalize Ls[k]'(by omega) = e at *
    have hoe := hown e (by simp)
    obtain ⟨eb, et, i', fr, to, d', bs, w⟩ := e
    have hoe : Own h' 1 w (bcells bs) bs.length := hoe
    obtain ⟨aw, cw, ew, _, _⟩ := id hoe.rd
    subst ew
    have hcc : ocells ((⟨eb, et, i', fr, to, d', bs, .slice aw bs.length cw⟩ : LE) :: Ls.drop (k + 1)) = lcells i' fr to d' (.slice aw bs.length cw) ++ ocells (Ls.drop (k + 1)) := rfl
    rw [hcc] at hg'
    have hlq : q < h'.n := hF.lt hq
    have hlen0 : (ocells Ls).length = Ls.length * 5 := ocells_len Ls
    have hce : Cell h' q (k * 5 + 4) (.slice aw bs.length cw) := ⟨by
      rw [cellsAt_of (c := pre ++ (lcells i' fr to d' (.slice aw bs.length cw) ++ ocells (Ls.drop (k + 1)) ++ j)) (by rw [hg']; rfl) (by simp [hpre]; omega)]
      rw [show k * 5 + 4 = pre.length + 4 from by omega, ← List.drop_drop, List.drop_left]
      rfl⟩
    haveI := hce
    refine stp ?_
    have hoeL := fun {i : Nat} (hi : ownedBy (.slice aw bs.length cw) i) => hoe.lt hi
    have hreq : ¬ ownedBy (.slice aw bs.length cw) q := fun e => hre q e rfl
    refine O.call' (OverBytes_ok hoe (by have hwl : bs.length < 1000000 := hwl; omega)) (fun r h1 hr => ?_)
    have hg1 : h1.get q = .cells (pre ++ (lcells i' fr to d' (.slice aw bs.length cw) ++ (ocells (Ls.drop (k + 1)) ++ j))) 5 := by have q1 := (hr.get q hlq hreq).trans hg'; rwa [List.append_assoc] at q1
    haveI pt : Put h1 q (k * 5) [.int .i64 (-77), .int .i64 0, .int .i64 0, .int .i64 0, .slice none 0 0] (h1.set q (.cells (pre ++ ([.int .i64 (-77), .int .i64 0, .int .i64 0, .int .i64 0, .slice none 0 0] ++ (ocells (Ls.drop (k + 1)) ++ j))) 5)) := ⟨by
      simp only [putAt, hg1]
      rw [if_pos ⟨by simp [hpre], rfl⟩, over_mid pre (lcells i' fr to d' (.slice aw bs.length cw)) (ocells (Ls.drop (k + 1)) ++ j) (k * 5) [.int .i64 (-77), .int .i64 0, .int .i64 0, .int .i64 0, .slice none 0 0] hpre rfl (by simp)]⟩
    haveI : BLt q h1 := ⟨hr.lt hlq⟩
    refine stp ?_
    have hS : Fr (fun i => i = q) h1 (h1.set q (.cells (pre ++ ([.int .i64 (-77), .int .i64 0, .int .i64 0, .int .i64 0, .slice none 0 0] ++ (ocells (Ls.drop (k + 1)) ++ j))) 5)) := Fr.refl.set fun _ => rfl
    refine loop1a 2 (n - (k + 1)) (by omega) ⟨k + 1, by omega, rfl, rfl, ⟨pre ++ [.int .i64 (-77), .int .i64 0, .int .i64 0, .int .i64 0, .slice none 0 0], by rw [Heap.get_set, if_pos rfl, List.append_assoc], by simp [hpre]; omega⟩, fun f hf => ?_, ?_⟩
    · refine ((hown f (by simp [hf])).keep hr fun i hi q1 => hdjk f hf i q1 hi).keep hS fun i hi q1 => ?_
      exact hrw f (List.mem_of_mem_drop hf) i hi q1.symm
    · refine (hF.trans' (hr.mono fun i _ hi => ?_)).trans' (hS.mono fun i _ hi => .inl hi.symm)
      exact .inr ⟨_, hmem, hi⟩
  · haveI q1 : ∀ {ts : List Value} {h : Heap} {Q : Oper} {x z : Operand} [Ev ts x (.int .i64 (k : Nat))] [Ev ts z (.int .i64 (n : Nat))], XOp Try.prog ts h (.bin .lss Q x z) (.bool false) h := xlss0 (by omega)
    refine stp ?_
    exact hF
structure Bo (n : Nat) (h : Heap) (p d : Nat) (most : Int) (s : MS) (W Dp : Nat → Prop) : Prop where
  pm : MV h p most s W
  dm : DV h d most s Dp
  wn : ∀ i, W i → n ≤ i
  dn : ∀ i, Dp i → n ≤ i
  dj : ∀ i, W i → ¬ Dp i
section
variable {n p d : Nat} {h h' h'' : Heap} {most : Int} {s s' : MS} {W Dp : Nat → Prop}
theorem Bo.keep {T : Nat → Prop} (hb : Bo n h p d most s W Dp) (hf : Fr T h h') (h1 : ∀ i, W i → ¬ T i) (h2 : ∀ i, Dp i → ¬ T i) : Bo n h' p d most s W Dp := ⟨hb.pm.keep hf h1, hb.dm.keep hf h2, hb.wn, hb.dn, hb.dj⟩
theorem Bo.dv (hb : Bo n h p d most s W Dp) (hf : Fr W h h') : DV h' d most s Dp := hb.dm.keep hf fun i hi hw => hb.dj i hw hi
theorem Bo.step (hb : Bo n h p d most s W Dp) (hn : n ≤ h.n) (ha : After h p most W s' h') (hd : DAfter h' d most Dp s' h'') : ∃ W' D', Bo n h'' p d most s' W' D' ∧ (∀ i, W' i → W i ∨ h.n ≤ i) ∧ (∀ i, D' i → Dp i ∨ h.n ≤ i) ∧ Fr (fun i => n ≤ i) h h'' := by
  obtain ⟨W', a1, a2, a3⟩ := ha
  obtain ⟨D', d1, d2, d3⟩ := hd
  have n1 := a3.n
  have hdp := hb.dn d hb.dm.hasP
  have hWd : ∀ i, W' i → i ≠ d := fun i hi e => by
    rcases a2 i hi with q | q
    · exact hb.dj i q (by rw [e]; exact hb.dm.hasP)
    · have := hb.dm.lt hb.dm.hasP; omega
  refine ⟨W', D', ⟨a1.keep d3 hWd, d1, fun i hi => (a2 i hi).elim (hb.wn i) fun q => by omega, fun i hi => (d2 i hi).elim (hb.dn i) fun q => by omega, fun i hi hi2 => ?_⟩, a2, fun i hi => (d2 i hi).imp id fun q => by omega, ?_⟩
  · have hlt := a1.lt hi
    rcases d2 i hi2 with q | q
    · rcases a2 i hi with k | k
      · exact hb.dj i k q
      · have := hb.dm.lt q; omega
    · omega
  · exact (a3.mono fun i _ hi => hb.wn i hi).trans' (d3.mono fun i _ hi => by rw [hi]; exact hdp)
structure Bd (k : Nat) (s : MS) : Prop where
  la : s.last ≤ k
  su : s.lost + s.L.length ≤ k
theorem Bd.mono {k : Nat} (hb : Bd k s) : Bd (k + 1) s := ⟨by have := hb.la; omega, by have := hb.su; omega⟩
theorem Bd.post {k : Nat} {f t d : Int} {bs : List UInt8} (hb : Bd k s) (hv : MOK most s) : Bd (k + 1) (postS most s f t d bs).1 := by
  obtain ⟨_, ⟨_, q3, q4, q5⟩ | ⟨_, q3⟩⟩ := post_ok (f := f) (t := t) (d := d) (bs := bs) hv
  · exact ⟨by have := hb.la; omega, by have := hb.su; omega⟩
  · rw [q3]; exact hb.mono
theorem Bd.twice {k : Nat} {i d : Int} (hb : Bd k s) (hv : MOK most s) : Bd (k + 1) (twiceS most s i d).1 := by
  obtain ⟨_, ⟨_, q3, q4, q5⟩ | ⟨_, q3⟩⟩ := twice_ok (k := i) (d := d) hv
  · exact ⟨by have := hb.la; omega, by have := hb.su; omega⟩
  · rw [q3]; exact hb.mono
theorem Bd.lose {k : Nat} {i : Int} (hb : Bd k s) (hv : MOK most s) : Bd (k + 1) (loseS s i).1 := by
  obtain ⟨_, q2, q3⟩ := lose_ok (k := i) hv
  exact ⟨by have := hb.la; omega, by have := hb.su; omega⟩
theorem Bd.delay {k : Nat} {i d : Int} (hb : Bd k s) (hv : MOK most s) : Bd (k + 1) (delayS s i d).1 := by
  obtain ⟨_, q2, q3, q4⟩ := delay_ok (k := i) (d := d) hv
  exact ⟨by have := hb.la; omega, by have := hb.su; omega⟩
theorem Bd.swap {k : Nat} {a b : Int} (hb : Bd k s) (hv : MOK most s) : Bd (k + 1) (swapS s a b).1 := by
  obtain ⟨_, q2, q3, q4⟩ := swap_ok (a := a) (b := b) hv
  exact ⟨by have := hb.la; omega, by have := hb.su; omega⟩
theorem Bd.come {k : Nat} {now : Int} (hb : Bd k s) : Bd (k + 1) (comeS s now) := by
  have q := come_len s now
  exact ⟨by have := hb.la; show s.last ≤ _; omega, by have := hb.su; show s.lost + ((comeS s now).L.length : Nat) ≤ _; omega⟩
theorem Bd.bound {k : Nat} (hb : Bd k s) (hv : MOK most s) (hk : k ≤ 41) : s.last ≤ 41 ∧ s.lost ≤ 41 ∧ s.L.length ≤ 41 := by
  have h1 := hb.la
  have h2 := hb.su
  have h3 := hv.k0
  omega
end
theorem Lent.own {h : Heap} {lo : Nat} {v : Value} {l : List UInt8} (hv : Lent h lo v l) : Own h 1 v (bcells l) l.length := by
  obtain ⟨q, k, cap, j, rfl, hq, hc, hc2, hlo, hlt⟩ := hv.ex
  exact .grown (j := bcells lentTail ++ j) hlt (by omega) (by omega) (by rw [bcells_len, Nat.mul_one]) (by simp [bcells_len, lentTail]; omega) hq
theorem Lent.lo {h : Heap} {lo : Nat} {v : Value} {l : List UInt8} (hv : Lent h lo v l) : ∀ i, ownedBy v i → lo ≤ i ∧ i < h.n := by
  obtain ⟨q, k, cap, j, rfl, hq, hc, hc2, hlo, hlt⟩ := hv.ex
  intro i hi
  have hi : q = i := hi
  omega
end Go.Proofs.Ytoadcfjkkoemdaa.A

set_option maxRecDepth 100000
set_option linter.unusedVariables false
namespace Go.Proofs.Ytoadcfjkkoemdaa.A
open Go Go.Vm
abbrev fn_zpQ : FuncId := 5
def zpQ_l0 : ACode :=
 (.seq (.seq (.region [
 o1 48 (.mov (tm 7)),
 o1 49 (.eq .ptr true (so (.binOp .neq 35 (tm 48) (.const (.pointer none)) 35) 4) (tm 48) (.const (.pointer none))),
 o1 50 (.mov (tm 49)),
 o4 51 (.mov (tm 9)) 50,
 o4 52 (.mov (tm 1)) 50,
 o4 53 (.lenSl (tm 52)) 50,
 o4 54 (.bin .lss (so (.binOp .lss 3 (tm 51) (tm 53) 3) 4) (tm 51) (tm 53)) 50,
 o1 55 (.pick (tm 50) (tm 54) (.const (.bool false)))]) (.cond (tm 55)
 .skip
 (.exit 0))) (.seq (.block 1 (.seq (.region [
 o1 58 (.mov (tm 1)),
 o1 59 (.mov (tm 9)),
 o1 60 (.indexSl 5 (tm 58) (tm 59)),
 o1 61 (.load (some 5) (tm 60)),
 o1 10 (.alloc 50 [(.int .i64 0), (.int .i64 0), (.int .i64 0), (.int .i64 0), (.slice none 0 0)]),
 o3 (.store 5 (tm 10) (tm 61)),
 o1 11 (.mov (.const (.bool true)))]) (.seq (.seq (.region [
 o1 62 (.fieldAddr 0 (tm 10)),
 o1 63 (.load none (tm 62))]) (.block 2 (.seq (.region [
 o1 65 (.bin .eql (so (.binOp .eql 3 (tm 63) k0 3) 4) (tm 63) k0),
 o1 64 (.mov (tm 65))]) (.cond (tm 64)
 (.seq (.region [
 o1 66 (.fieldAddr 4 (tm 10)),
 o1 67 (.load none (tm 66)),
 o1 68 (.callV (.func 24) [(tm 67)]),
 o1 12 (.mov (tm 68))]) (.seq (.region [
 o1 70 (.mov (tm 5)),
 o1 71 (.fieldAddr 1 (tm 10)),
 o1 72 (.load none (tm 71)),
 o1 73 (.fieldAddr 2 (tm 10)),
 o1 74 (.load none (tm 73)),
 o1 75 (.fieldAddr 3 (tm 10)),
 o1 76 (.load none (tm 75)),
 o1 77 (.mov (tm 12)),
 o1 78 (.callV (.func 19) [(tm 70), (tm 72), (tm 74), (tm 76), (tm 77)]),
 o1 69 (.mov (tm 78)),
 o1 79 (.extract 0 (tm 69)),
 o1 80 (.extract 1 (tm 69)),
 o1 13 (.mov (tm 79)),
 o1 14 (.mov (tm 80))]) (.seq (.region [
 o1 82 (.mov (tm 7)),
 o1 83 (.fieldAddr 1 (tm 10)),
 o1 84 (.load none (tm 83)),
 o1 85 (.fieldAddr 2 (tm 10)),
 o1 86 (.load none (tm 85)),
 o1 87 (.fieldAddr 3 (tm 10)),
 o1 88 (.load none (tm 87)),
 o1 89 (.fieldAddr 4 (tm 10)),
 o1 90 (.load none (tm 89)),
 o1 91 (.callV (.func 20) [(tm 82), (tm 84), (tm 86), (tm 88), (tm 90)]),
 o1 81 (.mov (tm 91)),
 o1 92 (.extract 0 (tm 81)),
 o1 93 (.extract 1 (tm 81)),
 o1 15 (.mov (tm 92)),
 o1 16 (.mov (tm 93))]) (.seq (.region [
 o1 94 (.mov (tm 13)),
 o1 95 (.mov (tm 15)),
 o1 96 (.bin .eql (so (.binOp .eql 3 (tm 94) (tm 95) 3) 4) (tm 94) (tm 95)),
 o1 97 (.mov (tm 96)),
 o4 98 (.mov (tm 14)) 97,
 o4 99 (.mov (tm 16)) 97,
 o4 100 (.bin .eql (so (.binOp .eql 24 (tm 98) (tm 99) 24) 4) (tm 98) (tm 99)) 97,
 o1 101 (.pick (tm 97) (tm 100) (.const (.bool false))),
 o1 102 (.mov (tm 101)),
 o4 103 (.mov (tm 12)) 102,
 o4 104 (.fieldAddr 4 (tm 10)) 102,
 o4 105 (.load none (tm 104)) 102,
 o4 106 (.callV (.func 25) [(tm 103), (tm 105)]) 102,
 o1 107 (.pick (tm 102) (tm 106) (.const (.bool false))),
 o1 11 (.mov (tm 107))]) (.region [
 o1 108 (.mov (tm 12)),
 o1 109 (.callV (.func 26) [(tm 108)])])))))
 (.seq (.region [
 o1 111 (.bin .eql (so (.binOp .eql 3 (tm 63) (.const (.int .i64 1)) 3) 4) (tm 63) (.const (.int .i64 1))),
 o1 110 (.mov (tm 111))]) (.cond (tm 110)
 (.seq (.region [
 o1 112 (.mov (tm 5)),
 o1 113 (.fieldAddr 3 (tm 10)),
 o1 114 (.load none (tm 113)),
 o1 115 (.callV (.func 27) [(tm 112), (tm 114)]),
 o1 17 (.mov (tm 115))]) (.seq (.region [
 o1 116 (.mov (tm 17)),
 o1 117 (.mov (tm 7)),
 o1 118 (.fieldAddr 3 (tm 10)),
 o1 119 (.load none (tm 118)),
 o1 120 (.callV (.func 28) [(tm 117), (tm 119)]),
 o1 121 (.callV (.func 21) [(tm 116), (tm 120)]),
 o1 11 (.mov (tm 121))]) (.region [
 o1 122 (.mov (tm 17)),
 o1 123 (.callV (.func 29) [(tm 122)])])))
 (.seq (.region [
 o1 125 (.bin .eql (so (.binOp .eql 3 (tm 63) (.const (.int .i64 2)) 3) 4) (tm 63) (.const (.int .i64 2))),
 o1 124 (.mov (tm 125))]) (.cond (tm 124)
 (.regionD [
 o1 126 (.mov (tm 5)),
 o1 127 (.fieldAddr 1 (tm 10)),
 o1 128 (.load none (tm 127)),
 o1 130 (.mov (tm 7)),
 o1 131 (.fieldAddr 1 (tm 10)),
 o1 132 (.load none (tm 131)),
 ⟨some 129, .callV (.func 12) [(tm 126), (tm 128)], none, [(some 132, .load none (tm 131), none), (some 131, .fieldAddr 1 (tm 10), none), (some 130, .mov (tm 7), none)], false⟩,
 o2 133 (.callV (.func 30) [(tm 130), (tm 132)]),
 o2 134 (.bin .eql (so (.binOp .eql 24 (tm 129) (tm 133) 24) 4) (tm 129) (tm 133)),
 o2 11 (.mov (tm 134))])
 (.seq (.region [
 o1 136 (.bin .eql (so (.binOp .eql 3 (tm 63) (.const (.int .i64 3)) 3) 4) (tm 63) (.const (.int .i64 3))),
 o1 135 (.mov (tm 136))]) (.cond (tm 135)
 (.regionD [
 o1 137 (.mov (tm 5)),
 o1 138 (.fieldAddr 1 (tm 10)),
 o1 139 (.load none (tm 138)),
 o1 140 (.fieldAddr 3 (tm 10)),
 o1 141 (.load none (tm 140)),
 o1 143 (.mov (tm 7)),
 o1 144 (.fieldAddr 1 (tm 10)),
 o1 145 (.load none (tm 144)),
 o1 146 (.fieldAddr 3 (tm 10)),
 o1 147 (.load none (tm 146)),
 ⟨some 142, .callV (.func 31) [(tm 137), (tm 139), (tm 141)], none, [(some 147, .load none (tm 146), none), (some 146, .fieldAddr 3 (tm 10), none), (some 145, .load none (tm 144), none), (some 144, .fieldAddr 1 (tm 10), none), (some 143, .mov (tm 7), none)], false⟩,
 o2 148 (.callV (.func 32) [(tm 143), (tm 145), (tm 147)]),
 o2 149 (.bin .eql (so (.binOp .eql 24 (tm 142) (tm 148) 24) 4) (tm 142) (tm 148)),
 o2 11 (.mov (tm 149))])
 (.seq (.region [
 o1 151 (.bin .eql (so (.binOp .eql 3 (tm 63) (.const (.int .i64 4)) 3) 4) (tm 63) (.const (.int .i64 4))),
 o1 150 (.mov (tm 151))]) (.cond (tm 150)
 (.regionD [
 o1 152 (.mov (tm 5)),
 o1 153 (.fieldAddr 1 (tm 10)),
 o1 154 (.load none (tm 153)),
 o1 155 (.fieldAddr 2 (tm 10)),
 o1 156 (.load none (tm 155)),
 o1 158 (.mov (tm 7)),
 o1 159 (.fieldAddr 1 (tm 10)),
 o1 160 (.load none (tm 159)),
 o1 161 (.fieldAddr 2 (tm 10)),
 o1 162 (.load none (tm 161)),
 ⟨some 157, .callV (.func 33) [(tm 152), (tm 154), (tm 156)], none, [(some 162, .load none (tm 161), none), (some 161, .fieldAddr 2 (tm 10), none), (some 160, .load none (tm 159), none), (some 159, .fieldAddr 1 (tm 10), none), (some 158, .mov (tm 7), none)], false⟩,
 o2 163 (.callV (.func 34) [(tm 158), (tm 160), (tm 162)]),
 o2 164 (.bin .eql (so (.binOp .eql 24 (tm 157) (tm 163) 24) 4) (tm 157) (tm 163)),
 o2 11 (.mov (tm 164))])
 (.seq (.region [
 o1 166 (.bin .eql (so (.binOp .eql 3 (tm 63) (.const (.int .i64 5)) 3) 4) (tm 63) (.const (.int .i64 5))),
 o1 165 (.mov (tm 166))]) (.cond (tm 165)
 (.seq (.region [
 o1 168 (.mov (tm 5)),
 o1 169 (.fieldAddr 1 (tm 10)),
 o1 170 (.load none (tm 169)),
 o1 171 (.fieldAddr 3 (tm 10)),
 o1 172 (.load none (tm 171)),
 o1 173 (.callV (.func 14) [(tm 168), (tm 170), (tm 172)]),
 o1 167 (.mov (tm 173)),
 o1 174 (.extract 0 (tm 167)),
 o1 175 (.extract 1 (tm 167)),
 o1 18 (.mov (tm 174)),
 o1 19 (.mov (tm 175))]) (.seq (.region [
 o1 177 (.mov (tm 7)),
 o1 178 (.fieldAddr 1 (tm 10)),
 o1 179 (.load none (tm 178)),
 o1 180 (.fieldAddr 3 (tm 10)),
 o1 181 (.load none (tm 180)),
 o1 182 (.callV (.func 35) [(tm 177), (tm 179), (tm 181)]),
 o1 176 (.mov (tm 182)),
 o1 183 (.extract 0 (tm 176)),
 o1 184 (.extract 1 (tm 176)),
 o1 20 (.mov (tm 183)),
 o1 21 (.mov (tm 184))]) (.region [
 o1 185 (.mov (tm 18)),
 o1 186 (.mov (tm 20)),
 o1 187 (.bin .eql (so (.binOp .eql 3 (tm 185) (tm 186) 3) 4) (tm 185) (tm 186)),
 o1 188 (.mov (tm 187)),
 o4 189 (.mov (tm 19)) 188,
 o4 190 (.mov (tm 21)) 188,
 o4 191 (.bin .eql (so (.binOp .eql 24 (tm 189) (tm 190) 24) 4) (tm 189) (tm 190)) 188,
 o1 192 (.pick (tm 188) (tm 191) (.const (.bool false))),
 o1 11 (.mov (tm 192))])))
 .skip)))))))))))))) (.seq (.region [
 o1 194 (.mov (tm 5)),
 o1 195 (.callV (.func 15) [(tm 194)]),
 o1 193 (.mov (tm 195)),
 o1 196 (.extract 0 (tm 193)),
 o1 197 (.extract 1 (tm 193)),
 o1 22 (.mov (tm 196)),
 o1 23 (.mov (tm 197))]) (.seq (.region [
 o1 198 (.mov (tm 5)),
 o1 199 (.callV (.func 22) [(tm 198)]),
 o1 24 (.mov (tm 199))]) (.seq (.seq (.regionD [
 o2 200 (.mov (tm 11)),
 o2 201 (.raw (so (.unOp .not 4 (tm 200)) 4)),
 o2 202 (.mov (tm 201)),
 o5 203 (.mov (tm 23)) 202,
 o5 204 (.mov (tm 7)) 202,
 o5 205 (.nilCheck (tm 204)) 202,
 o5 206 (.fieldAddr 3 (tm 205)) 202,
 o5 207 (.load none (tm 206)) 202,
 o5 208 (.lenSl (tm 207)) 202,
 o5 209 (.bin .gtr (so (.binOp .gtr 3 (tm 208) k0 3) 4) (tm 208) k0) 202,
 ⟨some 210, .bin .neq (so (.binOp .neq 4 (tm 203) (tm 209) 4) 4) (tm 203) (tm 209), some (202, false), [], true⟩,
 o2 211 (.pick (tm 202) (.const (.bool true)) (tm 210)),
 o2 212 (.mov (tm 211)),
 ⟨some 213, .mov (tm 23), some (212, false), [], true⟩,
 ⟨some 214, .mov (tm 213), some (212, false), [], true⟩,
 o4 215 (.mov (tm 22)) 214,
 o4 216 (.mov (tm 7)) 214,
 o4 217 (.nilCheck (tm 216)) 214,
 o4 218 (.fieldAddr 3 (tm 217)) 214,
 o4 219 (.load none (tm 218)) 214,
 o4 220 (.indexSl 5 (tm 219) k0) 214,
 o4 221 (.fieldAddr 3 (tm 220)) 214,
 o4 222 (.load none (tm 221)) 214,
 ⟨some 223, .bin .neq (so (.binOp .neq 3 (tm 215) (tm 222) 3) 4) (tm 215) (tm 222), some (214, true), [], true⟩,
 ⟨some 224, .pick (tm 214) (tm 223) (.const (.bool false)), some (212, false), [], true⟩,
 o2 225 (.pick (tm 212) (.const (.bool true)) (tm 224)),
 o2 226 (.mov (tm 225)),
 ⟨some 227, .mov (tm 23), some (226, false), [], true⟩,
 ⟨some 228, .raw (so (.unOp .not 4 (tm 227)) 4), some (226, false), [], true⟩,
 ⟨some 229, .mov (tm 228), some (226, false), [], true⟩,
 ⟨some 230, .mov (tm 22), some (229, true), [], true⟩,
 ⟨some 231, .bin .neq (so (.binOp .neq 3 (tm 230) k0 3) 4) (tm 230) k0, some (229, true), [], true⟩,
 ⟨some 232, .pick (tm 229) (tm 231) (.const (.bool false)), some (226, false), [], true⟩,
 o2 233 (.pick (tm 226) (.const (.bool true)) (tm 232)),
 o2 234 (.mov (tm 233)),
 o5 235 (.mov (tm 5)) 234,
 o5 237 (.mov (tm 7)) 234,
 o5 238 (.nilCheck (tm 237)) 234,
 o5 239 (.fieldAddr 2 (tm 238)) 234,
 o5 240 (.load none (tm 239)) 234,
 ⟨some 236, .callV (.func 36) [(tm 235)], some (234, false), [(some 240, .load none (tm 239), some (234, false)), (some 239, .fieldAddr 2 (tm 238), some (234, false)), (some 238, .nilCheck (tm 237), some (234, false)), (some 237, .mov (tm 7), some (234, false))], false⟩,
 ⟨some 241, .bin .neq (so (.binOp .neq 3 (tm 236) (tm 240) 3) 4) (tm 236) (tm 240), some (234, false), [], true⟩,
 o2 242 (.pick (tm 234) (.const (.bool true)) (tm 241)),
 o2 243 (.mov (tm 242)),
 o5 244 (.mov (tm 24)) 243,
 o5 245 (.mov (tm 7)) 243,
 o5 246 (.nilCheck (tm 245)) 243,
 o5 247 (.fieldAddr 3 (tm 246)) 243,
 o5 248 (.load none (tm 247)) 243,
 ⟨some 249, .callV (.func 21) [(tm 244), (tm 248)], some (243, false), [], true⟩,
 ⟨some 250, .raw (so (.unOp .not 4 (tm 249)) 4), some (243, false), [], true⟩,
 o2 251 (.pick (tm 243) (.const (.bool true)) (tm 250))]) (.cond (tm 251)
 (.seq (.region [
 o1 4 (.mov (.const (.bool false)))]) .ret)
 .skip)) (.region [
 o1 252 (.mov (tm 24)),
 o1 253 (.callV (.func 29) [(tm 252)])]))))))) (.region [
 o1 56 (.mov (tm 9)),
 o1 57 (.bin .add (so (.binOp .add 3 (tm 56) (.const (.int .i64 1)) 3) 3) (tm 56) (.const (.int .i64 1))),
 o1 9 (.mov (tm 57))])))
def zpQ_c : ACode :=
 (.seq (.region [
 o1 4 (.mov (.const (.bool false)))]) (.seq (.seq (.region [
 o1 25 (.mov (tm 1)),
 o1 26 (.callV (.func 23) [(tm 25)])]) (.cond (tm 26)
 (.seq (.region [
 o1 27 (.callV (.func 16) []),
 o1 4 (.mov (tm 27))]) .ret)
 .skip)) (.seq (.region [
 o1 29 (.mov (tm 0)),
 o1 30 (.callV (.func 10) [(tm 29)]),
 o1 28 (.mov (tm 30)),
 o1 31 (.extract 0 (tm 28)),
 o1 32 (.extract 1 (tm 28)),
 o1 5 (.mov (tm 31)),
 o1 6 (.mov (tm 32))]) (.seq (.region [
 o1 34 (.mov (tm 0)),
 o1 35 (.callV (.func 17) [(tm 34)]),
 o1 33 (.mov (tm 35)),
 o1 36 (.extract 0 (tm 33)),
 o1 37 (.extract 1 (tm 33)),
 o1 7 (.mov (tm 36)),
 o1 8 (.mov (tm 37))]) (.seq (.seq (.region [
 o1 38 (.mov (tm 6)),
 o1 39 (.mov (tm 8)),
 o1 40 (.bin .neq (so (.binOp .neq 24 (tm 38) (tm 39) 24) 4) (tm 38) (tm 39)),
 o1 41 (.mov (tm 40)),
 o5 42 (.mov (tm 5)) 41,
 o5 43 (.eq .ptr false (so (.binOp .eql 22 (tm 42) (.const (.pointer none)) 22) 4) (tm 42) (.const (.pointer none))) 41,
 o5 44 (.mov (tm 7)) 41,
 o5 45 (.eq .ptr false (so (.binOp .eql 35 (tm 44) (.const (.pointer none)) 35) 4) (tm 44) (.const (.pointer none))) 41,
 o5 46 (.bin .neq (so (.binOp .neq 4 (tm 43) (tm 45) 4) 4) (tm 43) (tm 45)) 41,
 o1 47 (.pick (tm 41) (.const (.bool true)) (tm 46))]) (.cond (tm 47)
 (.seq (.region [
 o1 4 (.mov (.const (.bool false)))]) .ret)
 .skip)) (.seq (.seq (.region [
 o1 9 (.mov k0)]) (.block 0 (.loop zpQ_l0))) (.seq (.region [
 o1 254 (.callV (.func 16) []),
 o1 4 (.mov (tm 254))]) .ret)))))))
def zpQ : AFunc := ⟨255, [(4, none)], zpQ_c, none⟩
theorem zpQ_t0 : tableOf Try.prog 5 = some zpQ := by kernel_rfl
theorem zpQ_t : T0 5 = some zpQ := withKept_t rfl (withTrue_t rfl zpQ_t0)
theorem zpQ_runs {v0 v1 : Value} {h : Heap} {R : RP} {X : XP} (k : RunC Try.prog T0 zpQ_c ⟨[v0, v1, U, U, U, U, U, U, U, U, U, U, U, U, U, U, U, U, U, U, U, U, U, U, U, U, U, U, U, U, U, U, U, U, U, U, U, U, U, U, U, U, U, U, U, U, U, U, U, U, U, U, U, U, U, U, U, U, U, U, U, U, U, U, U, U, U, U, U, U, U, U, U, U, U, U, U, U, U, U, U, U, U, U, U, U, U, U, U, U, U, U, U, U, U, U, U, U, U, U, U, U, U, U, U, U, U, U, U, U, U, U, U, U, U, U, U, U, U, U, U, U, U, U, U, U, U, U, U, U, U, U, U, U, U, U, U, U, U, U, U, U, U, U, U, U, U, U, U, U, U, U, U, U, U, U, U, U, U, U, U, U, U, U, U, U, U, U, U, U, U, U, U, U, U, U, U, U, U, U, U, U, U, U, U, U, U, U, U, U, U, U, U, U, U, U, U, U, U, U, U, U, U, U, U, U, U, U, U, U, U, U, U, U, U, U, U, U, U, U, U, U, U, U, U, U, U, U, U, U, U, U, U, U, U, U, U, U, U, U, U, U, U, U, U, U, U, U, U, U, U, U, U, U, U], [], h, none⟩ (bodyQ Try.prog T0 [(4, none)] R X)) :
 Runs Try.prog T0 (.fn 5) [v0, v1] h R X := Runs.fn zpQ_t rfl k
abbrev zpQ_l0_M : List Nat := [0, 0, 0, 0, 1, 0, 0, 0, 0, 2, 1, 1, 1, 1, 1, 1, 1, 1, 1, 1, 1, 1, 1, 1, 1, 0, 0, 0, 0, 0, 0, 0, 0, 0, 0, 0, 0, 0, 0, 0, 0, 0, 0, 0, 0, 0, 0, 0, 1, 1, 1, 1, 1, 1, 1, 1, 1, 1, 1, 1, 1, 1, 1, 1, 1, 1, 1, 1, 1, 1, 1, 1, 1, 1, 1, 1, 1, 1, 1, 1, 1, 1, 1, 1, 1, 1, 1, 1, 1, 1, 1, 1, 1, 1, 1, 1, 1, 1, 1, 1, 1, 1, 1, 1, 1, 1, 1, 1, 1, 1, 1, 1, 1, 1, 1, 1, 1, 1, 1, 1, 1, 1, 1, 1, 1, 1, 1, 1, 1, 1, 1, 1, 1, 1, 1, 1, 1, 1, 1, 1, 1, 1, 1, 1, 1, 1, 1, 1, 1, 1, 1, 1, 1, 1, 1, 1, 1, 1, 1, 1, 1, 1, 1, 1, 1, 1, 1, 1, 1, 1, 1, 1, 1, 1, 1, 1, 1, 1, 1, 1, 1, 1, 1, 1, 1, 1, 1, 1, 1, 1, 1, 1, 1, 1, 1, 1, 1, 1, 1, 1, 1, 1, 1, 1, 1, 1, 1, 1, 1, 1, 1, 1, 1, 1, 1, 1, 1, 1, 1, 1, 1, 1, 1, 1, 1, 1, 1, 1, 1, 1, 1, 1, 1, 1, 1, 1, 1, 1, 1, 1, 1, 1, 1, 1, 1, 1, 1, 1, 1, 1, 1, 1, 1, 1, 0]
end Go.Proofs.Ytoadcfjkkoemdaa.A

namespace Go.Proofs.Ytoadcfjkkoemdaa.A
open Go Go.Vm
set_option maxRecDepth 10000
set_option linter.unusedVariables false
set_option maxHeartbeats 400000000 in
theorem MailActs_true {h : Heap} {most : Int} {v : Value} {l : List AC} (hv : Rd h 5 v (acells l) l.length) (hl : ∀ a ∈ l, ARd h a) :
    Runs Try.prog T0 (.fn fn_zpQ) [.int .i64 most, v] h (fun r h' => r = .bool true) (fun _ _ => False) := by
  obtain ⟨av, cv, rfl, hvl, hvc⟩ := id hv
  haveI qs : ∀ {ts : List Value} {h : Heap} {Q0 : Oper} {x z : Operand} {p : Int} [Ev ts x (.int .i64 p)] [Ev ts z (.int .i64 p)], XOp Try.prog ts h (.bin .eql Q0 x z) (.bool true) h := xeql1 rfl
  haveI qn : ∀ {ts : List Value} {h : Heap} {Q0 : Oper} {x z : Operand} {p : Int} [Ev ts x (.int .i64 p)] [Ev ts z (.int .i64 p)], XOp Try.prog ts h (.bin .neq Q0 x z) (.bool false) h := xneqI0 rfl
  refine zpQ_runs ?_
  refine stp ?_
  refine O.call' (mlong_ok hv hl) (fun r h1 hr => ?_)
  obtain ⟨⟨b, rfl, hlong⟩, rfl⟩ := hr
  cases b with
  | true =>
    refine stp ?_
    refine O.call' zqQ_known (fun r h2 hr => ?_)
    obtain ⟨rfl, rfl⟩ := hr
    refine stp ?_
    rfl
  | false =>
  obtain ⟨h40, h60⟩ := hlong rfl
  refine stp ?_
  refine O.call' MNew_ok (fun r h2 hr => ?_)
  obtain ⟨f2, hr⟩ := hr
  rcases hr with ⟨hbad, rfl⟩ | ⟨hroom, p, W, rfl, hm, hW⟩
  · refine stp ?_
    refine O.call' DNew_ok (fun r h3 hr => ?_)
    obtain ⟨f3, hr⟩ := hr
    rcases hr with ⟨_, rfl⟩ | ⟨hroom, _⟩
    · refine stp ?_
      refine loop1 zpQ_l0_M 9 (fun q v9 hx => v9 = .int .i64 0) ?_ 0 rfl
      rintro m v9 h' x4 x10 x11 x12 x13 x14 x15 x16 x17 x18 x19 x20 x21 x22 x23 x24 x48 x49 x50 x51 x52 x53 x54 x55 x56 x57 x58 x59 x60 x61 x62 x63 x64 x65 x66 x67 x68 x69 x70 x71 x72 x73 x74 x75 x76 x77 x78 x79 x80 x81 x82 x83 x84 x85 x86 x87 x88 x89 x90 x91 x92 x93 x94 x95 x96 x97 x98 x99 x100 x101 x102 x103 x104 x105 x106 x107 x108 x109 x110 x111 x112 x113 x114 x115 x116 x117 x118 x119 x120 x121 x122 x123 x124 x125 x126 x127 x128 x129 x130 x131 x132 x133 x134 x135 x136 x137 x138 x139 x140 x141 x142 x143 x144 x145 x146 x147 x148 x149 x150 x151 x152 x153 x154 x155 x156 x157 x158 x159 x160 x161 x162 x163 x164 x165 x166 x167 x168 x169 x170 x171 x172 x173 x174 x175 x176 x177 x178 x179 x180 x181 x182 x183 x184 x185 x186 x187 x188 x189 x190 x191 x192 x193 x194 x195 x196 x197 x198 x199 x200 x201 x202 x203 x204 x205 x206 x207 x208 x209 x210 x211 x212 x213 x214 x215 x216 x217 x218 x219 x220 x221 x222 x223 x224 x225 x226 x227 x228 x229 x230 x231 x232 x233 x234 x235 x236 x237 x238 x239 x240 x241 x242 x243 x244 x245 x246 x247 x248 x249 x250 x251 x252 x253 rfl
      refine stp ?_
      refine O.call' zqQ_known (fun r h2 hr => ?_)
      obtain ⟨rfl, rfl⟩ := hr
      refine stp ?_
      rfl
    · omega
  refine stp ?_
  refine O.call' DNew_ok (fun r h3 hr => ?_)
  obtain ⟨f3, hr⟩ := hr
  rcases hr with ⟨hbad, _⟩ | ⟨_, d, Dp, rfl, hd, hD⟩
  · omega
  have n2 := f2.n
  have n3 := f3.n
  refine stp ?_
  refine loop1 zpQ_l0_M 9 (fun q v9 hx => ∃ (k : Nat) (s : MS) (W Dp : Nat → Prop), k ≤ l.length ∧ q = l.length - k ∧ v9 = .int .i64 k ∧ Bo h1.n hx p d most s W Dp ∧ Bd k s ∧ Fr (fun _ => False) h1 hx) ?_ l.length ⟨0, ⟨0, 0, []⟩, W, Dp, by omega, rfl, rfl, ⟨hm.keep f3 fun _ _ => id, hd, hW, fun i hi => by have := hD i hi; omega, fun i hi hi2 => by have := hm.lt hi; have := hD i hi2; omega⟩, ⟨by simp, by simp⟩, f2.trans' f3⟩
  clear hm hW hd hD f2 f3 n2 n3
  rintro m v9 h' x4 x10 x11 x12 x13 x14 x15 x16 x17 x18 x19 x20 x21 x22 x23 x24 x48 x49 x50 x51 x52 x53 x54 x55 x56 x57 x58 x59 x60 x61 x62 x63 x64 x65 x66 x67 x68 x69 x70 x71 x72 x73 x74 x75 x76 x77 x78 x79 x80 x81 x82 x83 x84 x85 x86 x87 x88 x89 x90 x91 x92 x93 x94 x95 x96 x97 x98 x99 x100 x101 x102 x103 x104 x105 x106 x107 x108 x109 x110 x111 x112 x113 x114 x115 x116 x117 x118 x119 x120 x121 x122 x123 x124 x125 x126 x127 x128 x129 x130 x131 x132 x133 x134 x135 x136 x137 x138 x139 x140 x141 x142 x143 x144 x145 x146 x147 x148 x149 x150 x151 x152 x153 x154 x155 x156 x157 x158 x159 x160 x161 x162 x163 x164 x165 x166 x167 x168 x169 x170 x171 x172 x173 x174 x175 x176 x177 x178 x179 x180 x181 x182 x183 x184 x185 x186 x187 x188 x189 x190 x191 x192 x193 x194 x195 x196 x197 x198 x199 x200 x201 x202 x203 x204 x205 x206 x207 x208 x209 x210 x211 x212 x213 x214 x215 x216 x217 x218 x219 x220 x221 x222 x223 x224 x225 x226 x227 x228 x229 x230 x231 x232 x233 x234 x235 x236 x237 x238 x239 x240 x241 x242 x243 x244 x245 x246 x247 x248 x249 x250 x251 x252 x253 ⟨k, s, W, Dp, hk, rfl, rfl, hB, hBd, hF⟩
  rcases Nat.lt_or_ge k l.length with hlt | hge
  case inr =>
    haveI q1 : ∀ {ts : List Value} {h : Heap} {Q0 : Oper} {x z : Operand} [Ev ts x (.int .i64 (k : Nat))] [Ev ts z (.int .i64 (l.length : Nat))], XOp Try.prog ts h (.bin .lss Q0 x z) (.bool false) h := xlss0 (by omega)
    refine stp ?_
    refine O.call' zqQ_known (fun r h2 hr => ?_)
    obtain ⟨rfl, rfl⟩ := hr
    refine stp ?_
    rfl
  haveI q1 : ∀ {ts : List Value} {h : Heap} {Q0 : Oper} {x z : Operand} [Ev ts x (.int .i64 (k : Nat))] [Ev ts z (.int .i64 (l.length : Nat))], XOp Try.prog ts h (.bin .lss Q0 x z) (.bool true) h := xlss1 (by omega)
  obtain ⟨b, o, sp, rfl, hb, hcc⟩ := hvc (by omega)
  have hcc' : cellsAt h' b o (l.length * 5) = some (acells l) := (cellsAt_keep hF hb id).trans hcc
  have hcel := act_cells hcc' rfl hlt
  have hrd := hl _ (act_mem hlt)
  have h6 := h60 _ (act_mem hlt)
  have hbd := hBd.bound hB.pm.iv (by omega)
  generalize l.getD k zAC = A at *
  obtain ⟨aw, cw, ew, _, _⟩ := id hrd
  have hcel : Cells h' b (o + k * 5) 5 (lcells A.kind A.a A.b A.due (.slice aw A.bs.length cw)) := by rw [← ew]; exact hcel
  haveI := hcel
  have hrd' : Rd h1 1 (.slice aw A.bs.length cw) (bcells A.bs) A.bs.length := by rw [← ew]; exact hrd
  have nF := hF.n
  have hbl : ∀ i, blockOf (.slice aw A.bs.length cw) i → i < h1.n := fun i hi => Rd.block_lt hrd' hi
  refine stp ?_
  have F3 : Fr (fun _ => False) h' (h'.push (.cells [.int .i64 A.kind, .int .i64 A.a, .int .i64 A.b, .int .i64 A.due, .slice aw A.bs.length cw] 0)) := Fr.refl.push
  have g3 : (h'.push (.cells [.int .i64 A.kind, .int .i64 A.a, .int .i64 A.b, .int .i64 A.due, .slice aw A.bs.length cw] 0)).get h'.n = .cells [.int .i64 A.kind, .int .i64 A.a, .int .i64 A.b, .int .i64 A.due, .slice aw A.bs.length cw] 0 := HGet.new.eq
  have n3 : (h'.push (.cells [.int .i64 A.kind, .int .i64 A.a, .int .i64 A.b, .int .i64 A.due, .slice aw A.bs.length cw] 0)).n = h'.n + 1 := rfl
  have hWl := fun {i : Nat} (hi : W i) => hB.pm.lt hi
  have hDl := fun {i : Nat} (hi : Dp i) => hB.dm.lt hi
  generalize h'.push (.cells [.int .i64 A.kind, .int .i64 A.a, .int .i64 A.b, .int .i64 A.due, .slice aw A.bs.length cw] 0) = h3 at *
  have F0 := hF.trans' F3
  have hB3 := hB.keep F3 (fun _ _ => id) (fun _ _ => id)
  have hrd3 := hrd'.keep F0 fun _ _ => id
  have hdp := hB3.dn d hB3.dm.hasP
  have hiv := hB3.pm.iv
  have hm4 : most ≤ 4096 := by omega
  refine cut1 [0, 0, 0, 0, 0, 0, 0, 0, 0, 0, 0, 2, 1, 1, 1, 1, 1, 1, 1, 1, 1, 1, 0, 0, 0, 0, 0, 0, 0, 0, 0, 0, 0, 0, 0, 0, 0, 0, 0, 0, 0, 0, 0, 0, 0, 0, 0, 0, 0, 0, 0, 0, 0, 0, 0, 0, 0, 0, 0, 0, 0, 0, 0, 0, 0, 0, 1, 1, 1, 1, 1, 1, 1, 1, 1, 1, 1, 1, 1, 1, 1, 1, 1, 1, 1, 1, 1, 1, 1, 1, 1, 1, 1, 1, 1, 1, 1, 1, 1, 1, 1, 1, 1, 1, 1, 1, 1, 1, 1, 1, 1, 1, 1, 1, 1, 1, 1, 1, 1, 1, 1, 1, 1, 1, 1, 1, 1, 1, 1, 1, 1, 1, 1, 1, 1, 1, 1, 1, 1, 1, 1, 1, 1, 1, 1, 1, 1, 1, 1, 1, 1, 1, 1, 1, 1, 1, 1, 1, 1, 1, 1, 1, 1, 1, 1, 1, 1, 1, 1, 1, 1, 1, 1, 1, 1, 1, 1, 1, 1, 1, 1, 1, 1, 1, 1, 1, 1, 1, 1, 1, 1, 1, 1, 0, 0, 0, 0, 0, 0, 0, 0, 0, 0, 0, 0, 0, 0, 0, 0, 0, 0, 0, 0, 0, 0, 0, 0, 0, 0, 0, 0, 0, 0, 0, 0, 0, 0, 0, 0, 0, 0, 0, 0, 0, 0, 0, 0, 0, 0, 0, 0, 0, 0, 0, 0, 0, 0, 0, 0, 0, 0, 0, 0, 0, 0] .normal (fun v hz => v = .bool true ∧ ∃ (s' : MS) (W' D' : Nat → Prop), Bo h1.n hz p d most s' W' D' ∧ Bd (k + 1) s' ∧ Fr (fun _ => False) h1 hz) ?_ ?_
  · haveI : HGet h3 h'.n _ := ⟨g3⟩
    refine C.if (fun hk0 => ?_) (fun hk0 => ?_)
    · refine stp ?_
      refine O.call' (LentBytes_ok hrd3 (by omega)) (fun r h4 hr => ?_)
      obtain ⟨hL, f4⟩ := hr
      have n4 := f4.n
      have hlo := hL.lo
      have hB4 := hB3.keep f4 (fun _ _ => id) (fun _ _ => id)
      have hrL := hL.rd
      obtain ⟨aL, cL, rfl, _, _⟩ := id hrL
      haveI : HGet h4 h'.n _ := f4.keep ⟨g3⟩ (by omega) id
      have g4 : h4.get h'.n = _ := (f4.get _ (by omega) id).trans g3
      refine stp ?_
      refine O.call' (Post_ok hB4.pm hm4 (by omega) hrL (by omega) (fun i hi q => by have := hlo i (block_own hi); have := hWl q; omega)) (fun r h5 hr => ?_)
      obtain ⟨rfl, ha⟩ := hr
      have f5 : Fr W h4 h5 := by obtain ⟨_, _, _, q⟩ := ha; exact q
      have n5 := f5.n
      have g5 : h5.get h'.n = _ := (f5.get _ (by omega) fun q => by have := hWl q; omega).trans g4
      haveI : HGet h5 h'.n _ := ⟨g5⟩
      refine stp ?_
      refine O.call' (DPost_ok (hB4.dv f5) hm4 (by omega) ((hrd3.keep f4 fun _ _ => id).keep f5 fun i hi q => by have := hbl i hi; have := hB.wn i q; omega) (by omega) (fun i hi e => by have := hbl i hi; omega)) (fun r h6 hr => ?_)
      obtain ⟨rfl, hd⟩ := hr
      obtain ⟨W', D', hB6, hW6, hD6, f6⟩ := hB4.step (by omega) ha hd
      have f36 : Fr (fun i => h1.n ≤ i) h3 h6 := (f4.mono fun _ _ q => q.elim).trans' f6
      have fd : Fr (fun i => i = d) h5 h6 := by obtain ⟨_, _, _, q⟩ := hd; exact q
      have g6 : h6.get h'.n = _ := (fd.get _ (by omega) fun e => by have := hDl hB.dm.hasP; omega).trans g5
      haveI : HGet h6 h'.n _ := ⟨g6⟩
      have hL6 : Lent h6 h3.n (.slice aL A.bs.length cL) A.bs := by
        obtain ⟨_, _, _, fd⟩ := hd
        refine (hL.keep f5 fun i hi => .inl ?_).keep fd fun i hi => .inl ?_
        · have := hWl hi; omega
        · have := hDl hB.dm.hasP; rw [hi]; omega
      have hr6 : Rd h6 1 (.slice aw A.bs.length cw) (bcells A.bs) A.bs.length := hrd3.keep f36 fun i hi q => by have := hbl i hi; omega
      refine stp ?_
      refine O.callT (zjQ_kept (hL6.kept hr6 (by omega))) (fun r h7 hr => ?_)
      obtain ⟨rfl, rfl⟩ := hr
      refine stp ?_
      refine O.call' (OverBytes_ok hL6.own (by omega)) (fun r h8 hr => ?_)
      refine stp ?_
      have n6 := f6.n
      refine cutQ1.out 11 ⟨rfl, _, _, _, hB6.keep hr (fun i hi q => ?_) (fun i hi q => ?_), hBd.post hiv, (F0.trans f36 fun i hi q => by omega).trans hr fun i hi q => by have := hlo i q; omega⟩
      · have := hlo i q
        rcases hW6 i hi with k1 | k1
        · have := hWl k1; omega
        · omega
      · have := hlo i q
        rcases hD6 i hi with k1 | k1
        · have := hDl k1; omega
        · omega
    refine stp ?_
    refine C.if (fun hk1 => ?_) (fun hk1 => ?_)
    · refine stp ?_
      refine O.call' (Come_ok hB3.pm hm4) (fun r h4 hr => ?_)
      obtain ⟨Z, W', hZ, hm5, hW5, f4, hlo, hnew, hon⟩ := hr
      have n4 := f4.n
      have ha : After h3 p most W (comeS s A.due) h4 := ⟨W', hm5, hW5, f4⟩
      have hZl : Z.length = (cameS s A.due).length := by rw [← hZ, List.length_map]
      have hcl := come_len s A.due
      have hZb : ∀ e ∈ Z, e.bs.length < 1000000 := fun e he => by
        have h7 : e.tr ∈ cameS s A.due := by rw [← hZ]; exact List.mem_map.2 ⟨e, he, rfl⟩
        have h8 := (hiv.rg _ (List.mem_filter.1 h7).1).2.2.2
        have h8 : e.bs.length ≤ 65536 := h8
        omega
      have ltO := fun {i : Nat} (hi : OMine r Z i) => hlo.lt hi
      have g4 : h4.get h'.n = _ := (f4.get _ (by omega) fun q => by have := hWl q; omega).trans g3
      haveI : HGet h4 h'.n _ := ⟨g4⟩
      obtain ⟨aZ, cZ, rfl, _, _⟩ := id hlo.ow.rd
      refine stp ?_
      refine O.call' (DCome_ok (hB3.dv f4) hm4) (fun r h5 hr => ?_)
      obtain ⟨Y, hY, hYr, hd⟩ := hr
      obtain ⟨W2, D2, hB5, hW6, hD6, f5⟩ := hB3.step (by omega) ha hd
      have hodd : ∀ i, OMine (.slice aZ Z.length cZ) Z i → ¬ Dp i := fun i hi q => by
        rcases (hon i hi).1 with k1 | k1
        · exact hB.dj i k1 q
        · have := hDl q; omega
      have fd : Fr (fun i => i = d) h4 h5 := by obtain ⟨_, _, _, q⟩ := hd; exact q
      have hlo5 := hlo.keep fd fun i hi q => hodd i hi (by rw [q]; exact hB.dm.hasP)
      obtain ⟨aY, cY, rfl, _, _⟩ := id hYr.1
      refine stp ?_
      refine O.call' (SameLs_ok hlo5.lr hYr (hZ.trans hY.symm) (by omega)) (fun r h6 hr => ?_)
      obtain ⟨rfl, rfl⟩ := hr
      refine stp ?_
      refine O.call' (OverLetters_ok hlo5 (by omega) hZb) (fun r h7 hr => ?_)
      refine stp ?_
      obtain ⟨D2', dd1, dd2, _⟩ := id hd
      have hB6 : Bo h1.n h6 p d most (comeS s A.due) W' D2' := ⟨hm5.keep fd fun i hi q => ?_, dd1, fun i hi => ?_, fun i hi => ?_, fun i hi hi2 => ?_⟩
      · refine cutQ1.out 11 ⟨rfl, _, _, _, hB6.keep hr (fun i hi q => (hon i q).2 hi) (fun i hi q => ?_), hBd.come, (F0.trans f5 fun i hi q => by omega).trans hr fun i hi q => ?_⟩
        · rcases dd2 i hi with k1 | k1
          · exact hodd i q k1
          · have := ltO q; omega
        · rcases (hon i q).1 with k1 | k1
          · have := hB.wn i k1; omega
          · omega
      · rcases hW5 i hi with k1 | k1
        · exact hB.dj i k1 (by rw [q]; exact hB.dm.hasP)
        · have := hDl hB.dm.hasP; omega
      · rcases hW5 i hi with k1 | k1
        · exact hB.wn i k1
        · omega
      · rcases dd2 i hi with k1 | k1
        · exact hB.dn i k1
        · omega
      · have := hm5.lt hi
        rcases dd2 i hi2 with k1 | k1
        · rcases hW5 i hi with k2 | k2
          · exact hB.dj i k2 k1
          · have := hDl k1; omega
        · omega
    refine stp ?_
    refine C.if (fun hk2 => ?_) (fun hk2 => ?_)
    · refine stp ?_
      refine D.callX (Lose_ok hB3.pm hm4 (by omega)) (fun r h4 hr => ?_) (fun r h4 hr => ?_) (fun _ _ hx => hx.elim)
      · obtain ⟨rfl, _, _, _, f4⟩ := hr
        haveI : HGet h4 h'.n _ := ⟨(f4.get _ (by omega) fun q => by have := hWl q; omega).trans g3⟩
        repeat refine stab_cons inferInstance ?_
        rfl
      obtain ⟨rfl, ha⟩ := hr
      have f4 : Fr W h3 h4 := by obtain ⟨_, _, _, q⟩ := ha; exact q
      haveI : HGet h4 h'.n _ := ⟨(f4.get _ (by omega) fun q => by have := hWl q; omega).trans g3⟩
      refine stp ?_
      refine D.callX (DLose_ok (hB3.dv f4) hm4 (by omega)) (fun r h5 hr => rfl) (fun r h5 hr => ?_) (fun _ _ hx => hx.elim)
      obtain ⟨rfl, hd⟩ := hr
      obtain ⟨W2, D2, hB5, hW6, hD6, f5⟩ := hB3.step (by omega) ha hd
      refine stp ?_
      exact cutQ1.out 11 ⟨rfl, _, _, _, hB5, hBd.lose hiv, F0.trans f5 fun i hi q => by omega⟩
    refine stp ?_
    refine C.if (fun hk3 => ?_) (fun hk3 => ?_)
    · refine stp ?_
      refine D.callX (Delay_ok hB3.pm hm4) (fun r h4 hr => ?_) (fun r h4 hr => ?_) (fun _ _ hx => hx.elim)
      · obtain ⟨rfl, _, _, _, f4⟩ := hr
        haveI : HGet h4 h'.n _ := ⟨(f4.get _ (by omega) fun q => by have := hWl q; omega).trans g3⟩
        repeat refine stab_cons inferInstance ?_
        rfl
      obtain ⟨rfl, ha⟩ := hr
      have f4 : Fr W h3 h4 := by obtain ⟨_, _, _, q⟩ := ha; exact q
      haveI : HGet h4 h'.n _ := ⟨(f4.get _ (by omega) fun q => by have := hWl q; omega).trans g3⟩
      refine stp ?_
      refine D.callX (DDelay_ok (hB3.dv f4) hm4) (fun r h5 hr => rfl) (fun r h5 hr => ?_) (fun _ _ hx => hx.elim)
      obtain ⟨rfl, hd⟩ := hr
      obtain ⟨W2, D2, hB5, hW6, hD6, f5⟩ := hB3.step (by omega) ha hd
      refine stp ?_
      exact cutQ1.out 11 ⟨rfl, _, _, _, hB5, hBd.delay hiv, F0.trans f5 fun i hi q => by omega⟩
    refine stp ?_
    refine C.if (fun hk4 => ?_) (fun hk4 => ?_)
    · refine stp ?_
      refine D.callX (Swap_ok hB3.pm hm4) (fun r h4 hr => ?_) (fun r h4 hr => ?_) (fun _ _ hx => hx.elim)
      · obtain ⟨rfl, _, _, _, f4⟩ := hr
        haveI : HGet h4 h'.n _ := ⟨(f4.get _ (by omega) fun q => by have := hWl q; omega).trans g3⟩
        repeat refine stab_cons inferInstance ?_
        rfl
      obtain ⟨rfl, ha⟩ := hr
      have f4 : Fr W h3 h4 := by obtain ⟨_, _, _, q⟩ := ha; exact q
      haveI : HGet h4 h'.n _ := ⟨(f4.get _ (by omega) fun q => by have := hWl q; omega).trans g3⟩
      refine stp ?_
      refine D.callX (DSwap_ok (hB3.dv f4) hm4) (fun r h5 hr => rfl) (fun r h5 hr => ?_) (fun _ _ hx => hx.elim)
      obtain ⟨rfl, hd⟩ := hr
      obtain ⟨W2, D2, hB5, hW6, hD6, f5⟩ := hB3.step (by omega) ha hd
      refine stp ?_
      exact cutQ1.out 11 ⟨rfl, _, _, _, hB5, hBd.swap hiv, F0.trans f5 fun i hi q => by omega⟩
    refine stp ?_
    refine C.if (fun hk5 => ?_) (fun hk5 => ?_)
    · refine stp ?_
      refine O.call' (Twice_ok hB3.pm hm4 (by omega)) (fun r h4 hr => ?_)
      obtain ⟨rfl, ha⟩ := hr
      have f4 : Fr W h3 h4 := by obtain ⟨_, _, _, q⟩ := ha; exact q
      haveI : HGet h4 h'.n _ := ⟨(f4.get _ (by omega) fun q => by have := hWl q; omega).trans g3⟩
      refine stp ?_
      refine O.call' (DTwice_ok (hB3.dv f4) hm4 (by omega)) (fun r h5 hr => ?_)
      obtain ⟨rfl, hd⟩ := hr
      obtain ⟨W2, D2, hB5, hW6, hD6, f5⟩ := hB3.step (by omega) ha hd
      refine stp ?_
      exact cutQ1.out 11 ⟨rfl, _, _, _, hB5, hBd.twice hiv, F0.trans f5 fun i hi q => by omega⟩
    refine stp ?_
    exact cutQ1.out 11 ⟨rfl, _, _, _, hB3, hBd.mono, F0⟩
  intro v hz x12 x13 x14 x15 x16 x17 x18 x19 x20 x21 x66 x67 x68 x69 x70 x71 x72 x73 x74 x75 x76 x77 x78 x79 x80 x81 x82 x83 x84 x85 x86 x87 x88 x89 x90 x91 x92 x93 x94 x95 x96 x97 x98 x99 x100 x101 x102 x103 x104 x105 x106 x107 x108 x109 x110 x111 x112 x113 x114 x115 x116 x117 x118 x119 x120 x121 x122 x123 x124 x125 x126 x127 x128 x129 x130 x131 x132 x133 x134 x135 x136 x137 x138 x139 x140 x141 x142 x143 x144 x145 x146 x147 x148 x149 x150 x151 x152 x153 x154 x155 x156 x157 x158 x159 x160 x161 x162 x163 x164 x165 x166 x167 x168 x169 x170 x171 x172 x173 x174 x175 x176 x177 x178 x179 x180 x181 x182 x183 x184 x185 x186 x187 x188 x189 x190 x191 x192 ⟨e1, s', W', D', hBz, hBdz, hFz⟩
  subst e1
  clear hB hBd hF hB3 hbd hWl hDl F0 F3 hrd3
  have hbd := hBdz.bound hBz.pm.iv (by omega)
  have hiv' := hBz.pm.iv
  have nz := hFz.n
  refine stp ?_
  obtain ⟨nv, nb, hnx⟩ : ∃ nv nb, nextS s'.L = (nv, nb) := ⟨_, _, rfl⟩
  have hmn := MNext_ok hBz.pm hm4
  rw [hnx] at hmn
  refine O.call' hmn (fun r g1 hr => ?_)
  have hr : r = .tuple ⟨[.int .i64 nv, .bool nb]⟩ ∧ g1 = hz := hr
  obtain ⟨rfl, rfl⟩ := hr
  refine stp ?_
  refine O.call' (MList_ok hBz.pm hm4 (by omega)) (fun r g2 hr => ?_)
  obtain ⟨Z, hZ, hlo, hnew, f2⟩ := hr
  have n2 := f2.n
  have hZl : Z.length = s'.L.length := by rw [← hZ, List.length_map]
  have hZb : ∀ e ∈ Z, e.bs.length < 1000000 := fun e he => by
    have h7 : e.tr ∈ s'.L := by rw [← hZ]; exact List.mem_map.2 ⟨e, he, rfl⟩
    have h8 : e.bs.length ≤ 65536 := (hiv'.rg _ h7).2.2.2
    omega
  have hB2 := hBz.keep f2 (fun _ _ => id) (fun _ _ => id)
  obtain ⟨u, Ls, hdm, hO, hDi⟩ := hB2.dm.kp
  have hOl : Ls.length = s'.L.length := by rw [← hO, List.length_map]
  have hdr : LetRd g2 u Ls := ⟨hdm.ou.rd, hdm.rd⟩
  have hsame := SameLs_ok hlo.lr hdr (hZ.trans hO.symm) (by omega)
  haveI : HGet g2 d _ := ⟨hdm.gp⟩
  obtain ⟨aZ, cZ, rfl, _, _⟩ := id hlo.ow.rd
  obtain ⟨aO, cO, eu, _, hcO⟩ := id hdm.ou.rd
  subst eu
  have hover := OverLetters_ok hlo (by omega) hZb
  have hlost := MLost_ok hB2.pm
  have hend : ∀ {g3 : Heap}, Fr (OMine (.slice aZ Z.length cZ) Z) g2 g3 → ∃ (k' : Nat) (s : MS) (W Dp : Nat → Prop), k' ≤ l.length ∧ l.length - (k + 1) = l.length - k' ∧ (Value.int .i64 ((k : Int) + 1)) = .int .i64 k' ∧ Bo h1.n g3 p d most s W Dp ∧ Bd k' s ∧ Fr (fun _ => False) h1 g3 := fun {g3} hf =>
    ⟨k + 1, s', W', D', by omega, rfl, rfl, hB2.keep hf (fun i hi q => by have := hnew i q; have := hBz.pm.lt hi; omega) (fun i hi q => by have := hnew i q; have := hBz.dm.lt hi; omega), hBdz, (hFz.trans' f2).trans hf fun i hi q => by have := hnew i q; omega⟩
  have hZO : Z.length = Ls.length := by omega
  cases hL : s'.L with
  | nil =>
    rw [hL] at hnx
    obtain ⟨rfl, rfl⟩ : nv = 0 ∧ nb = false := by injection hnx with e1 e2; exact ⟨e1.symm, e2.symm⟩
    have hO0 : Ls.length = 0 := by rw [hOl, hL]; rfl
    haveI q2 : ∀ {ts : List Value} {h : Heap} {Q0 : Oper} {x z : Operand} [Ev ts x (.int .i64 (Ls.length : Nat))] [Ev ts z (.int .i64 0)], XOp Try.prog ts h (.bin .gtr Q0 x z) (.bool false) h := xgtr0 (by omega)
    refine stp ?_
    refine D.callT hlost (fun r g3 hr => ?_) (fun r g3 hr => ?_)
    · obtain ⟨rfl, rfl⟩ := hr
      repeat refine stab_consT inferInstance ?_
      rfl
    obtain ⟨rfl, rfl⟩ := hr
    refine stp ?_
    refine D.callT hsame (fun r g3 hr => rfl) (fun r g3 hr => ?_)
    obtain ⟨rfl, rfl⟩ := hr
    refine stp ?_
    refine O.call' hover (fun r g4 hr => ?_)
    refine stp ?_
    exact loop1a 9 (l.length - (k + 1)) (by omega) (hend hr)
  | cons t M =>
    rw [hL] at hnx
    obtain ⟨rfl, rfl⟩ : nv = t.due ∧ nb = true := by injection hnx with e1 e2; exact ⟨e1.symm, e2.symm⟩
    have hO0 : 0 < Ls.length := by rw [hOl, hL]; simp
    haveI q2 : ∀ {ts : List Value} {h : Heap} {Q0 : Oper} {x z : Operand} [Ev ts x (.int .i64 (Ls.length : Nat))] [Ev ts z (.int .i64 0)], XOp Try.prog ts h (.bin .gtr Q0 x z) (.bool true) h := xgtr1 (by omega)
    obtain ⟨q, o', sp', rfl, hq, hcc⟩ := hcO (by omega)
    have ht : (at' Ls 0).due = t.due := by
      cases hOc : Ls with
      | nil => rw [hOc] at hO0; simp at hO0
      | cons e O' => rw [hOc, hL] at hO; injection hO with hO _; rw [← hO]; rfl
    haveI : Cell g2 q (o' + 3) (.int .i64 t.due) := by
      have := let_cell (v := .int .i64 (at' Ls 0).due) hcc rfl hO0 (show 3 < 5 by omega) rfl
      rwa [Nat.zero_mul, ht] at this
    haveI iz : ∀ {o : Nat}, IdxOff o 0 5 o := fun {o} => ⟨by simp⟩
    refine stp ?_
    refine D.howT (XOp.mkIndexSl (by omega)) rfl ?_
    refine stp ?_
    refine D.callT hlost (fun r g3 hr => ?_) (fun r g3 hr => ?_)
    · obtain ⟨rfl, rfl⟩ := hr
      repeat refine stab_consT inferInstance ?_
      rfl
    obtain ⟨rfl, rfl⟩ := hr
    refine stp ?_
    refine D.callT hsame (fun r g3 hr => rfl) (fun r g3 hr => ?_)
    obtain ⟨rfl, rfl⟩ := hr
    refine stp ?_
    refine O.call' hover (fun r g4 hr => ?_)
    refine stp ?_
    exact loop1a 9 (l.length - (k + 1)) (by omega) (hend hr)
end Go.Proofs.Ytoadcfjkkoemdaa.A

namespace Go.Proofs.Ytoadcfjkkoemdaa.A
open Go Go.Vm
set_option maxRecDepth 100000
set_option linter.unusedVariables false
theorem fits_bytesS {h : Heap} {m : Nat} {t te : TypeId} {cs : List Value} (ht : Try.prog.underlying t = some (.slice te)) (hu : Try.prog.underlying te = some (.int .u8)) (hs : Try.prog.cellsOf te = 1) (hv : Fits Try.prog h (m + 2) t cs) : ∃ (w : Value) (bs : List UInt8), cs = [w] ∧ Rd h 1 w (bcells bs) bs.length := by
  have h1 : ∃ w, cs = [w] := by
    have h2 := hv
    unfold Fits at h2
    rw [ht] at h2
    rcases h2 with h2 | ⟨b, len, cap, c, h2, _⟩
    · exact ⟨_, h2⟩
    · exact ⟨_, h2⟩
  obtain ⟨w, rfl⟩ := h1
  obtain ⟨bs, h1⟩ := fits_slice ht hu hs (v := w) (by unfold FitsV; rw [ht]; exact hv)
  exact ⟨w, bs, rfl, h1⟩
theorem acts_cells_fit {h : Heap} {m : Nat} {te : TypeId} (f0 : fieldAt Try.prog te 0 = some (0, 3)) (f1 : fieldAt Try.prog te 1 = some (1, 3)) (f2 : fieldAt Try.prog te 2 = some (2, 3)) (f3 : fieldAt Try.prog te 3 = some (3, 3)) (f4 : fieldAt Try.prog te 4 = some (4, 38)) (ui : Try.prog.underlying 3 = some (.int .i64)) (ci : Try.prog.cellsOf 3 = 1) (ub : Try.prog.underlying 38 = some (.slice 5)) (cb : Try.prog.cellsOf 38 = 1) (u5 : Try.prog.underlying 5 = some (.int .u8)) (c5 : Try.prog.cellsOf 5 = 1) :
    ∀ (len : Nat) (c : List Value), c.length = len * 5 → (∀ i, i < len → Fits Try.prog h (m + 3) te ((c.drop (i * 5)).take 5)) → ∃ l : List AC, c = acells l ∧ l.length = len ∧ ∀ a ∈ l, ARd h a
  | 0, c, hl, _ => ⟨[], by simpa [acells] using hl, rfl, by simp⟩
  | len + 1, c, hl, hall => by
    have h0 := hall 0 (by omega)
    rw [Nat.zero_mul, List.drop_zero] at h0
    obtain ⟨a, g0, _⟩ := (h0.field f0).int ui
    obtain ⟨b, g1, _⟩ := (h0.field f1).int ui
    obtain ⟨x, g2, _⟩ := (h0.field f2).int ui
    obtain ⟨d, g3, _⟩ := (h0.field f3).int ui
    obtain ⟨w, bs, g4, hb⟩ := fits_bytesS ub u5 c5 (h0.field f4)
    rw [ci] at g0 g1 g2 g3
    rw [cb] at g4
    obtain ⟨l, e1, e2, e3⟩ := acts_cells_fit f0 f1 f2 f3 f4 ui ci ub cb u5 c5 len (c.drop 5) (by rw [List.length_drop]; omega) fun i hi => by
      have := hall (i + 1) (by omega)
      rw [List.drop_drop]
      rw [show (i + 1) * 5 = 5 + i * 5 from by omega] at this
      exact this
    have hl2 : (c.take 5).length = 5 := by rw [List.length_take]; omega
    have he : c.take 5 = (⟨a, b, x, d, bs, w⟩ : AC).cells := by
      generalize c.take 5 = e at *
      rw [← List.drop_zero (l := e), vsplit e 0 1, g0, vsplit e (0 + 1) 1, g1, vsplit e (0 + 1 + 1) 1, g2, vsplit e (0 + 1 + 1 + 1) 1, g3, vsplit e (0 + 1 + 1 + 1 + 1) 1, g4, show e.drop (0 + 1 + 1 + 1 + 1 + 1) = [] from List.drop_eq_nil_of_le (by omega), List.append_nil]
      rfl
    refine ⟨⟨a, b, x, d, bs, w⟩ :: l, ?_, by simp [e2], fun y hy => (List.mem_cons.1 hy).elim (fun e => by rw [e]; exact hb) (e3 y)⟩
    rw [acells_cons, ← e1, ← he, List.take_append_drop]
theorem fits_actsV {h : Heap} {t te : TypeId} {v : Value} (ht : Try.prog.underlying t = some (.slice te)) (f0 : fieldAt Try.prog te 0 = some (0, 3)) (f1 : fieldAt Try.prog te 1 = some (1, 3)) (f2 : fieldAt Try.prog te 2 = some (2, 3)) (f3 : fieldAt Try.prog te 3 = some (3, 3)) (f4 : fieldAt Try.prog te 4 = some (4, 38)) (ui : Try.prog.underlying 3 = some (.int .i64)) (ci : Try.prog.cellsOf 3 = 1) (ub : Try.prog.underlying 38 = some (.slice 5)) (cb : Try.prog.cellsOf 38 = 1) (u5 : Try.prog.underlying 5 = some (.int .u8)) (c5 : Try.prog.cellsOf 5 = 1) (ce : Try.prog.cellsOf te = 5) (hv : FitsV Try.prog h 8 t v) :
    ∃ l : List AC, Rd h 5 v (acells l) l.length ∧ ∀ a ∈ l, ARd h a := by
  unfold FitsV at hv
  rw [ht] at hv
  unfold Fits at hv
  rw [ht] at hv
  rcases hv with hv | ⟨b, len, cap, c, hv, hb, hlc, hcap, hro, hl, hall⟩
  · injection hv with hv _
    subst hv
    exact ⟨[], Rd.nil, by simp⟩
  · rw [ce] at hl hall
    obtain ⟨l, rfl, e2, e3⟩ := acts_cells_fit (m := 4) f0 f1 f2 f3 f4 ui ci ub cb u5 c5 len c hl hall
    have hal := acells_len l
    injection hv with hv _
    subst hv
    refine ⟨l, ⟨_, _, by rw [e2], hal, fun hn => ⟨b, 0, none, rfl, hb, ?_⟩⟩, e3⟩
    rw [cellsAt_of (c := acells l) (by rw [hro (by omega)]; rfl) (by omega), List.drop_zero, List.take_of_length_le (by omega)]
end Go.Proofs.Ytoadcfjkkoemdaa.A

namespace Go.Proofs.Ytoadcfjkkoemdaa.A
open Go Go.Vm
set_option maxRecDepth 100000
set_option linter.unusedVariables false
theorem MailActs_run (h : Heap) (vs : List Value) (hf : FitsAll Try.prog h 8 [3, 47] vs) : Runs Try.prog T0 (.fn fn_zpQ) vs h (fun r _ => r = .bool true) (fun _ _ => False) := by
  obtain ⟨v1, _, rfl, h1, hf⟩ := hf.cons
  obtain ⟨v2, _, rfl, h2, hf⟩ := hf.cons
  obtain rfl := hf.nil
  obtain ⟨a, rfl, _⟩ := FitsV.int (k := .i64) h1 (by kernel_rfl)
  obtain ⟨l, hl, hl2⟩ := fits_actsV (te := 50) (by kernel_rfl) (by kernel_rfl) (by kernel_rfl) (by kernel_rfl) (by kernel_rfl) (by kernel_rfl) (by kernel_rfl) (by kernel_rfl) (by kernel_rfl) (by kernel_rfl) (by kernel_rfl) (by kernel_rfl) (by kernel_rfl) h2
  exact MailActs_true hl hl2
end Go.Proofs.Ytoadcfjkkoemdaa.A

namespace Go.Proofs.Ytoadcfjkkoemdaa.A
open Go Go.Vm
set_option maxRecDepth 100000
theorem ran_16 : allTrue (xcall Try.prog (tableOf Try.prog) 1000 60 (.fn 16) [] Heap.init) = true := by kernel_rfl
theorem has_16 : (tableOf Try.prog 16).isSome = true := by kernel_rfl
theorem known : KnownAll Try.prog prims := ⟨⟨Option.isSome_iff_exists.1 has_16, fun w => known_calls (Checked.mixed Try.checked) tableOf_ok ran_16 w⟩, trivial⟩
theorem has_25 : (tableOf Try.prog 25).isSome = true := by kernel_rfl
theorem T0_ok : TableOK Try.prog T0 := withKept_ok (withTrue_ok known) fun k hk args args' g h B w0 w hr hv hp => by
  obtain rfl : k = 25 := by simpa using hk
  obtain ⟨af, haf⟩ := Option.isSome_iff_exists.1 has_25
  exact ⟨fnOK_of haf, kept_ok (Checked.mixed Try.checked) (fnOK_of haf) (fun h q c' l u h1 h2 h3 h4 h5 => Kept_code h1 h2 h3 h4 h5) args args' g h B w0 w hr hv hp⟩
end Go.Proofs.Ytoadcfjkkoemdaa.A
