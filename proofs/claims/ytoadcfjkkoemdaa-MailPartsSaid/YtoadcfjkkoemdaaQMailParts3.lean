/- Contracts of functions, over the machine. -/
import Derived.Test.YtoadcfjkkoemdaaQMailParts2
import Derived.Test.YtoadcfjkkoemdaaVK
import Derived.Test.YtoadcfjkkoemdaaVJ
set_option linter.unusedSimpArgs false
set_option linter.unusedSectionVars false
noncomputable section
namespace Go.Proofs.Ytoadcfjkkoemdaa.A
open Go Go.Vm
set_option maxRecDepth 10000
set_option linter.unusedVariables false
structure MV (h : Heap) (p : Nat) (most : Int) (s : MS) (W : Nat → Prop) : Prop where
  kp : ∃ m c u S l, MAt h p m c most s.last s.lost u S l ∧ (l.map LE.tr).Perm s.L ∧ ∀ i, W i ↔ MMine p m u l i
  iv : MOK most s
def After (h : Heap) (p : Nat) (most : Int) (W : Nat → Prop) (s' : MS) (h' : Heap) : Prop := ∃ W' : Nat → Prop, MV h' p most s' W' ∧ (∀ i, W' i → W i ∨ h.n ≤ i) ∧ Fr W h h'
section
variable {h h' : Heap} {p : Nat} {most : Int} {s : MS} {W : Nat → Prop}
theorem MV.keep {T : Nat → Prop} (hv : MV h p most s W) (hf : Fr T h h') (hn : ∀ i, W i → ¬ T i) : MV h' p most s W := by
  obtain ⟨m, c, u, S, l, h1, h2, h3⟩ := hv.kp
  exact ⟨⟨m, c, u, S, l, h1.keep hf fun i hi => hn i ((h3 i).2 hi), h2, h3⟩, hv.iv⟩
theorem MV.lt (hv : MV h p most s W) {i : Nat} (hi : W i) : i < h.n := by
  obtain ⟨m, c, u, S, l, h1, h2, h3⟩ := hv.kp
  exact h1.mlt ((h3 i).1 hi)
theorem MV.hasP (hv : MV h p most s W) : W p := by
  obtain ⟨m, c, u, S, l, h1, h2, h3⟩ := hv.kp
  exact (h3 p).2 (.inl (.inl rfl))
theorem After.same (hv : MV h p most s W) (hf : Fr (fun _ => False) h h') : After h p most W s h' := ⟨W, hv.keep hf fun _ _ => id, fun i hi => .inl hi, hf.mono fun _ _ e => e.elim⟩
theorem mnone_ok {m c : Nat} {x y z : Int} {u : Value} {S l : List LE} (hs : MAt h p m c x y z u S l) : Runs Try.prog T0 (.fn fn_zlbQ) [.pointer (some ⟨p, 0, none⟩)] h (fun r h' => r = .bool false ∧ h' = h) (fun _ _ => False) := by
  haveI : HGet h p _ := ⟨hs.gp⟩
  refine zlbQ_runs ?_
  refine stp ?_
  exact ⟨rfl, rfl⟩
theorem mends_ok {x : Int} : Runs Try.prog T0 (.fn fn_zqbQ) [.int .i64 x] h (fun r h' => r = .bool (isEnd x) ∧ h' = h) (fun _ _ => False) := by
  refine zqbQ_runs ?_
  refine stp ?_
  refine O.dec (fun e => ?_) (fun e => ?_)
  · refine stp ?_
    refine ⟨?_, rfl⟩
    unfold isEnd
    congr 1
    rw [decide_eq_decide]
    omega
  · refine stp ?_
    refine ⟨?_, rfl⟩
    unfold isEnd
    congr 1
    exact (decide_eq_false (by omega)).symm
theorem mdue_ok {x : Int} : Runs Try.prog T0 (.fn fn_zpbQ) [.int .i64 x] h (fun r h' => r = .bool (isDue x) ∧ h' = h) (fun _ _ => False) := by
  refine zpbQ_runs ?_
  refine stp ?_
  refine O.dec (fun e => ?_) (fun e => ?_)
  · refine stp ?_
    refine ⟨?_, rfl⟩
    unfold isDue
    congr 1
    rw [decide_eq_decide]
    omega
  · refine stp ?_
    refine ⟨?_, rfl⟩
    unfold isDue
    congr 1
    exact (decide_eq_false (by omega)).symm
set_option maxHeartbeats 4000000 in
theorem mwith_ok {m c : Nat} {x y z k : Int} {u : Value} {S l : List LE} {fd : FuncId} {bs cs : List Value} {R : LE → RP} (hs : MAt h p m c x y z u S l) (hd : ∀ e ∈ l, e.id = k → Runs Try.prog T0 (.fn fd) ((bs ++ [.pointer (some ⟨e.b, 0, none⟩)]) ++ cs) h (R e) (fun _ _ => False)) :
    Runs Try.prog T0 (.fn fn_zmbQ) [.pointer (some ⟨p, 0, none⟩), .int .i64 k, .func (.func fd) ⟨bs⟩ ⟨cs⟩] h
      (fun r h' => (∃ e ∈ l, e.id = k ∧ R e r h') ∨ (∀ e ∈ l, e.id ≠ k) ∧ r = .int .i64 10 ∧ h' = h) (fun _ _ => False) := by
  haveI : HGet h p _ := ⟨hs.gp⟩
  haveI : HGet h m _ := ⟨hs.gm⟩
  refine zmbQ_runs ?_
  refine stp ?_
  refine O.call' (mnone_ok hs) (fun r h0 hr => ?_)
  obtain ⟨rfl, rfl⟩ := hr
  obtain ⟨pv, b, hb1, hb2, hlk⟩ := lookup_any (k := k) hs.ok (.pointer none)
  refine stp ?_
  cases b with
  | true =>
    obtain ⟨e, he, hk, rfl⟩ := hb1 rfl
    obtain ⟨f, hf, rfl⟩ := List.mem_map.1 he
    refine stp ?_
    refine O.call' (all := (bs ++ [.pointer (some ⟨f.b, 0, none⟩)]) ++ cs) (hd f hf hk) (fun r h1 hr => ?_)
    refine stp ?_
    exact .inl ⟨f, hf, hk, hr⟩
  | false =>
    obtain ⟨hno, rfl⟩ := hb2 rfl
    refine stp ?_
    exact .inr ⟨fun e he => hno _ (List.mem_map.2 ⟨e, he, rfl⟩), rfl, rfl⟩
theorem find_l {l : List LE} {L : List LT} {k : Int} (hp : (l.map LE.tr).Perm L) (hn : (L.map LT.id).Nodup) {e : LE} (he : e ∈ l) (hk : e.id = k) : findT k L = some e.tr :=
  find_of hn (hp.mem_iff.1 (List.mem_map.2 ⟨e, he, rfl⟩)) hk
theorem find_no {l : List LE} {L : List LT} {k : Int} (hp : (l.map LE.tr).Perm L) (hno : ∀ e ∈ l, e.id ≠ k) : findT k L = none := by
  cases h : findT k L with
  | none => rfl
  | some x =>
    obtain ⟨h1, h2⟩ := find_some h
    obtain ⟨e, he, rfl⟩ := List.mem_map.1 (hp.mem_iff.2 h1)
    exact absurd h2 (hno e he)
theorem less_tr {l : List LE} {L : List LT} (hp : (l.map LE.tr).Perm L) (k : Int) : ((lessL k l).map LE.tr).Perm (lessT k L) := by
  have e1 : (lessL k l).map LE.tr = lessT k (l.map LE.tr) := by unfold lessL lessT; rw [List.filter_map]; rfl
  rw [e1]
  exact hp.filter _
theorem due_tr {l : List LE} {L : List LT} (hp : (l.map LE.tr).Perm L) (hn : (L.map LT.id).Nodup) (k d : Int) : ((dueL k d l).map LE.tr).Perm (moveT k d L) := by
  have e1 : (dueL k d l).map LE.tr = dueT k d (l.map LE.tr) := by
    unfold dueL dueT
    rw [List.map_map, List.map_map]
    refine List.map_congr_left fun s _ => ?_
    show (if s.id = k then { s with due := d } else s : LE).tr = if s.tr.id = k then { s.tr with due := d } else s.tr
    show (if s.id = k then { s with due := d } else s : LE).tr = if s.id = k then { s.tr with due := d } else s.tr
    split <;> rfl
  rw [e1]
  exact (hp.map _).trans (move_perm hn).symm
theorem MV.len (hv : MV h p most s W) (hm : most ≤ 4096) : s.L.length ≤ 4096 := by
  have := hv.iv.le
  omega
theorem MAt.reset {m c : Nat} {x y z x' y' z' : Int} {u : Value} {S l : List LE} (hs : MAt h p m c x y z u S l) : MAt (h.set p (.cells (mcells x' y' z' u m) 0)) p m c x' y' z' u S l := by
  have hf : Fr (fun i => i = p) h (h.set p (.cells (mcells x' y' z' u m) 0)) := Fr.refl.set fun _ => rfl
  exact ⟨hf.lt hs.pl, hf.lt hs.ml, hs.pm, by rw [Heap.get_set, if_pos rfl], by rw [hf.get _ hs.ml (fun e => hs.pm e.symm)]; exact hs.gm, hs.ok, hs.pe, hs.hp, hs.ou.keep hf fun i hi => (hs.su i hi).1, fun e he => (hs.ats e he).keep hf fun i hi => (hs.sp e he i hi).1, hs.su, hs.sp, hs.nd, hs.sv, hs.dj⟩
theorem after_of {m c' : Nat} {u u' : Value} {S' l l' : List LE} {s' : MS} (hw : ∀ i, W i ↔ MMine p m u l i) (hs' : MAt h' p m c' most s'.last s'.lost u' S' l') (hp' : (l'.map LE.tr).Perm s'.L) (iv' : MOK most s') (hu : ∀ i, ownedBy u' i → ownedBy u i ∨ h.n ≤ i) (hl : ∀ e ∈ l', ∀ i, e.mine i → (∃ e' ∈ l, e'.mine i) ∨ h.n ≤ i) (hf : Fr (MMine p m u l) h h') : After h p most W s' h' :=
  ⟨MMine p m u' l', ⟨⟨m, c', u', S', l', hs', hp', fun _ => Iff.rfl⟩, iv'⟩, fun i hi => by
    rcases hi with (hi | hi | hi) | ⟨e, he, hi⟩
    · exact .inl ((hw i).2 (.inl (.inl hi)))
    · exact .inl ((hw i).2 (.inl (.inr (.inl hi))))
    · exact (hu i hi).imp (fun q => (hw i).2 (.inl (.inr (.inr q)))) id
    · exact (hl e he i hi).imp (fun q => (hw i).2 (.inr q)) id, hf.mono fun i _ hi => (hw i).2 hi⟩
theorem due_mine {l : List LE} {k d : Int} : ∀ e ∈ dueL k d l, ∀ i, e.mine i → (∃ e' ∈ l, e'.mine i) ∨ h.n ≤ i := fun e he i hi => by
  obtain ⟨s, hs, b1, b2, _⟩ := due_mem he
  refine .inl ⟨s, hs, ?_⟩
  rcases hi with hi | hi
  · exact .inl (by rw [hi, b1])
  · exact .inr (by rw [← b2]; exact hi)
theorem less_mine {l : List LE} {k : Int} : ∀ e ∈ lessL k l, ∀ i, e.mine i → (∃ e' ∈ l, e'.mine i) ∨ h.n ≤ i := fun e he i hi => .inl ⟨e, (List.mem_filter.1 he).1, hi⟩
theorem MV.llen {l : List LE} (hv : MV h p most s W) (hm : most ≤ 4096) (hp : (l.map LE.tr).Perm s.L) : l.length ≤ 4096 := by
  have := hp.length_eq
  rw [List.length_map] at this
  have := hv.len hm
  omega
set_option maxHeartbeats 4000000 in
theorem Lose_ok {k : Int} (hv : MV h p most s W) (hm : most ≤ 4096) (hk0 : s.lost < 1000000) :
    Runs Try.prog T0 (.fn fn_zzQ) [.pointer (some ⟨p, 0, none⟩), .int .i64 k] h (fun r h' => r = .int .i64 (loseS s k).2 ∧ After h p most W (loseS s k).1 h') (fun _ _ => False) := by
  obtain ⟨m, c, u, S, l, hs, hp, hw⟩ := hv.kp
  have hlen := hv.llen hm hp
  have hl0 := hv.iv.k0
  refine zzQ_runs ?_
  refine stp ?_
  refine O.call' (mwith_ok hs (k := k) (fd := fn_zibQ) (bs := [.pointer (some ⟨p, 0, none⟩)]) (cs := []) (R := fun e r h' => r = .int .i64 0 ∧ ∃ u' S', MAt h' p m c most s.last s.lost u' S' (lessL e.id l) ∧ Fr (MW p m u) h h' ∧ ∀ i, ownedBy u' i → ownedBy u i ∨ h.n ≤ i) (fun e he hk => gone_ok hs he (by omega))) (fun r h1 hr => ?_)
  unfold loseS
  rcases hr with ⟨e, he, hk, rfl, u', S', hs1, f1, hu1⟩ | ⟨hno, rfl, rfl⟩
  · rw [find_l hp hv.iv.nd he hk]
    haveI : HGet h1 p _ := ⟨hs1.gp⟩
    refine stp ?_
    refine ⟨rfl, after_of hw hs1.reset ?_ (hv.iv.less _ _ (by omega)) hu1 less_mine ((f1.mono fun _ _ q => .inl q).set fun _ => .inl (.inl rfl))⟩
    rw [hk]
    exact less_tr hp k
  · rw [find_no hp hno]
    refine stp ?_
    exact ⟨rfl, After.same hv Fr.refl⟩
set_option maxHeartbeats 4000000 in
theorem Delay_ok {k d : Int} (hv : MV h p most s W) (hm : most ≤ 4096) :
    Runs Try.prog T0 (.fn fn_zwQ) [.pointer (some ⟨p, 0, none⟩), .int .i64 k, .int .i64 d] h (fun r h' => r = .int .i64 (delayS s k d).2 ∧ After h p most W (delayS s k d).1 h') (fun _ _ => False) := by
  obtain ⟨m, c, u, S, l, hs, hp, hw⟩ := hv.kp
  have hlen := hv.llen hm hp
  refine zwQ_runs ?_
  refine stp ?_
  have F0 : Fr (fun _ => False) h ((h.push (.cells [.pointer (some ⟨p, 0, none⟩)] 0)).push (.cells [.int .i64 d] 0)) := Fr.refl.push.push
  have g1 : ((h.push (.cells [.pointer (some ⟨p, 0, none⟩)] 0)).push (.cells [.int .i64 d] 0)).get h.n = .cells [.pointer (some ⟨p, 0, none⟩)] 0 := by rw [Heap.get_push, if_neg (by simp), Heap.get_push, if_pos rfl]
  have g2 : ((h.push (.cells [.pointer (some ⟨p, 0, none⟩)] 0)).push (.cells [.int .i64 d] 0)).get (h.n + 1) = .cells [.int .i64 d] 0 := HGet.new.eq
  have n0 : ((h.push (.cells [.pointer (some ⟨p, 0, none⟩)] 0)).push (.cells [.int .i64 d] 0)).n = h.n + 2 := rfl
  have nb : (h.push (.cells [.pointer (some ⟨p, 0, none⟩)] 0)).n = h.n + 1 := rfl
  generalize (h.push (.cells [.pointer (some ⟨p, 0, none⟩)] 0)).push (.cells [.int .i64 d] 0) = h0 at *
  try rw [nb]
  have hs0 := hs.keep F0 fun _ _ => id
  refine O.call' (mwith_ok hs0 (k := k) (fd := fn_zxQ) (bs := []) (cs := [.pointer (some ⟨h.n + 1, 0, none⟩), .pointer (some ⟨h.n, 0, none⟩)]) (R := fun e r h' => isDue d = false ∧ r = .int .i64 3 ∧ h' = h0 ∨ isDue d = true ∧ r = .int .i64 0 ∧ ∃ u' S', MAt h' p m c most s.last s.lost u' S' (dueL e.id d l) ∧ Fr (fun i => MW p m u i ∨ i = e.b) h0 h' ∧ ∀ i, ownedBy u' i → ownedBy u i ∨ h0.n ≤ i) (fun e he hk => ?_)) (fun r h1 hr => ?_)
  · haveI : HGet h0 h.n _ := ⟨g1⟩
    haveI : HGet h0 (h.n + 1) _ := ⟨g2⟩
    refine zxQ_runs ?_
    refine stp ?_
    refine O.call' mdue_ok (fun r h2 hr => ?_)
    obtain ⟨rfl, rfl⟩ := hr
    cases hd : isDue d with
    | false =>
      refine stp ?_
      exact .inl ⟨rfl, rfl, rfl⟩
    | true =>
      refine stp ?_
      refine O.call' (moved_ok hs0 he (by omega)) (fun r h3 hr => ?_)
      refine stp ?_
      exact .inr ⟨rfl, rfl, hr⟩
  refine stp ?_
  unfold delayS
  rcases hr with ⟨e, he, hk, hr⟩ | ⟨hno, rfl, rfl⟩
  · rw [find_l hp hv.iv.nd he hk]
    rcases hr with ⟨hd, rfl, rfl⟩ | ⟨hd, rfl, u', S', hs1, f1, hu1⟩
    · rw [hd]
      exact ⟨rfl, After.same hv F0⟩
    · rw [hd]
      refine ⟨rfl, after_of hw hs1 ?_ (hv.iv.move k d (isDue_iff.1 hd)) (fun i hi => (hu1 i hi).imp id fun q => by omega) due_mine ((F0.mono fun _ _ e => e.elim).trans' (f1.mono fun i _ q => ?_))⟩
      · rw [hk]
        exact due_tr hp hv.iv.nd k d
      · rcases q with q | q
        · exact .inl q
        · exact .inr ⟨e, he, .inl q⟩
  · rw [find_no hp hno]
    exact ⟨rfl, After.same hv F0⟩
end
end Go.Proofs.Ytoadcfjkkoemdaa.A

namespace Go.Proofs.Ytoadcfjkkoemdaa.A
open Go Go.Vm
set_option maxRecDepth 10000
set_option linter.unusedVariables false
theorem block_own {v : Value} {i : Nat} (h : blockOf v i) : ownedBy v i := by
  match v, h with
  | .slice (some a) n c, h => exact h.1
section
variable {h h' : Heap} {p : Nat} {most : Int} {s : MS} {W : Nat → Prop}
set_option maxHeartbeats 8000000 in
theorem Swap_ok {a b : Int} (hv : MV h p most s W) (hm : most ≤ 4096) :
    Runs Try.prog T0 (.fn fn_zdbQ) [.pointer (some ⟨p, 0, none⟩), .int .i64 a, .int .i64 b] h (fun r h' => r = .int .i64 (swapS s a b).2 ∧ After h p most W (swapS s a b).1 h') (fun _ _ => False) := by
  obtain ⟨m, c, u, S, l, hs, hp, hw⟩ := hv.kp
  have hlen := hv.llen hm hp
  refine zdbQ_runs ?_
  refine stp ?_
  have F0 : Fr (fun _ => False) h ((h.push (.cells [.pointer (some ⟨p, 0, none⟩)] 0)).push (.cells [.int .i64 b] 0)) := Fr.refl.push.push
  have g1 : ((h.push (.cells [.pointer (some ⟨p, 0, none⟩)] 0)).push (.cells [.int .i64 b] 0)).get h.n = .cells [.pointer (some ⟨p, 0, none⟩)] 0 := by rw [Heap.get_push, if_neg (by simp), Heap.get_push, if_pos rfl]
  have g2 : ((h.push (.cells [.pointer (some ⟨p, 0, none⟩)] 0)).push (.cells [.int .i64 b] 0)).get (h.n + 1) = .cells [.int .i64 b] 0 := HGet.new.eq
  have n0 : ((h.push (.cells [.pointer (some ⟨p, 0, none⟩)] 0)).push (.cells [.int .i64 b] 0)).n = h.n + 2 := rfl
  generalize (h.push (.cells [.pointer (some ⟨p, 0, none⟩)] 0)).push (.cells [.int .i64 b] 0) = h0 at *
  have hs0 := hs.keep F0 fun _ _ => id
  refine O.call' (mwith_ok hs0 (k := a) (fd := fn_zebQ) (bs := []) (cs := [.pointer (some ⟨h.n, 0, none⟩), .pointer (some ⟨h.n + 1, 0, none⟩)]) (R := fun e r h' => (∃ f ∈ l, f.id = b ∧ r = .int .i64 0 ∧ ∃ u' S', MAt h' p m c most s.last s.lost u' S' (dueL b e.due (dueL a f.due l)) ∧ Fr (MMine p m u l) h0 h' ∧ ∀ i, ownedBy u' i → ownedBy u i ∨ h0.n ≤ i) ∨ (∀ f ∈ l, f.id ≠ b) ∧ r = .int .i64 10 ∧ Fr (fun _ => False) h0 h') (fun e he hk => ?_)) (fun r h1 hr => ?_)
  · haveI : HGet h0 h.n _ := ⟨g1⟩
    haveI : HGet h0 (h.n + 1) _ := ⟨g2⟩
    refine zebQ_runs ?_
    refine stp ?_
    have F1 : Fr (fun _ => False) h0 (h0.push (.cells [.pointer (some ⟨e.b, 0, none⟩)] 0)) := Fr.refl.push
    have g3 : (h0.push (.cells [.pointer (some ⟨e.b, 0, none⟩)] 0)).get h0.n = .cells [.pointer (some ⟨e.b, 0, none⟩)] 0 := HGet.new.eq
    have n1 : (h0.push (.cells [.pointer (some ⟨e.b, 0, none⟩)] 0)).n = h0.n + 1 := rfl
    generalize h0.push (.cells [.pointer (some ⟨e.b, 0, none⟩)] 0) = h1 at *
    have hs1 := hs0.keep F1 fun _ _ => id
    have g11 : h1.get h.n = _ := (F1.get _ (by omega) id).trans g1
    have g12 : h1.get (h.n + 1) = _ := (F1.get _ (by omega) id).trans g2
    haveI : HGet h1 h.n _ := ⟨g11⟩
    haveI : HGet h1 (h.n + 1) _ := ⟨g12⟩
    refine stp ?_
    refine O.call' (mwith_ok hs1 (k := b) (fd := fn_zfbQ) (bs := []) (cs := [.pointer (some ⟨h0.n, 0, none⟩), .pointer (some ⟨h.n, 0, none⟩)]) (R := fun f r h' => r = .int .i64 0 ∧ ∃ u' S', MAt h' p m c most s.last s.lost u' S' (dueL b e.due (dueL a f.due l)) ∧ Fr (MMine p m u l) h1 h' ∧ ∀ i, ownedBy u' i → ownedBy u i ∨ h1.n ≤ i) (fun f hf hk2 => ?_)) (fun r h2 hr => ?_)
    · haveI : HGet h1 h0.n _ := ⟨g3⟩
      haveI : HGet h1 h.n _ := ⟨g11⟩
      haveI : HGet h1 e.b _ := ⟨(hs1.ats e he).get⟩
      haveI : HGet h1 f.b _ := ⟨(hs1.ats f hf).get⟩
      refine zfbQ_runs ?_
      refine stp ?_
      refine O.call' (moved_ok hs1 he (by omega)) (fun r h3 hr => ?_)
      obtain ⟨u1, S1, hs3, f3, hu3⟩ := hr
      have n3 := f3.n
      have hb0 : ∀ i, MW p m u i ∨ i = e.b → i < h1.n := fun i hi => hs1.mlt (hi.elim .inl fun q => .inr ⟨e, he, .inl q⟩)
      have g31 : h3.get h0.n = _ := (f3.get _ (by omega) (fun q => by
        rcases q with q | q
        · have := hs0.mlt (.inl q); omega
        · have := (hs0.ats e he).lt; omega)).trans g3
      have g32 : h3.get h.n = _ := (f3.get _ (by omega) (fun q => by
        rcases q with q | q
        · have := hs.mlt (.inl q); omega
        · have := (hs.ats e he).lt; omega)).trans g11
      haveI : HGet h3 h0.n _ := ⟨g31⟩
      haveI : HGet h3 h.n _ := ⟨g32⟩
      obtain ⟨f', hf', hfb, hfid⟩ : ∃ f' ∈ dueL e.id f.due l, f'.b = f.b ∧ f'.id = f.id := ⟨_, List.mem_map.2 ⟨f, hf, rfl⟩, by split <;> rfl, by split <;> rfl⟩
      have hmo := moved_ok (d := e.due) hs3 hf' (by rw [due_len]; omega)
      rw [hfb, hfid, hk, hk2] at hmo
      refine stp ?_
      refine O.call' hmo (fun r h4 hr => ?_)
      obtain ⟨u2, S2, hs4, f4, hu4⟩ := hr
      refine stp ?_
      refine ⟨rfl, u2, S2, hs4, (f3.mono fun i _ q => q.elim .inl fun q => .inr ⟨e, he, .inl q⟩).trans f4 fun i hi q => ?_, fun i hi => ?_⟩
      · rcases q with (q | q | q) | q
        · exact .inl (.inl q)
        · exact .inl (.inr (.inl q))
        · rcases hu3 i q with q | q
          · exact .inl (.inr (.inr q))
          · omega
        · exact .inr ⟨f, hf, .inl q⟩
      · rcases hu4 i hi with q | q
        · exact hu3 i q
        · exact .inr (by omega)
    refine stp ?_
    rcases hr with ⟨f, hf, hk2, rfl, u', S', hs4, f4, hu4⟩ | ⟨hno, rfl, rfl⟩
    · exact .inl ⟨f, hf, hk2, rfl, u', S', hs4, (F1.mono fun _ _ e => e.elim).trans' f4, fun i hi => (hu4 i hi).imp id fun q => by omega⟩
    · exact .inr ⟨hno, rfl, F1⟩
  refine stp ?_
  unfold swapS
  rcases hr with ⟨e, he, hk, hr⟩ | ⟨hno, rfl, rfl⟩
  · rw [find_l hp hv.iv.nd he hk]
    rcases hr with ⟨f, hf, hk2, rfl, u', S', hs4, f4, hu4⟩ | ⟨hno, rfl, f1⟩
    · rw [find_l hp hv.iv.nd hf hk2]
      have hrf := (hv.iv.rg f.tr (hp.mem_iff.1 (List.mem_map.2 ⟨f, hf, rfl⟩))).2.2.1
      have hre := (hv.iv.rg e.tr (hp.mem_iff.1 (List.mem_map.2 ⟨e, he, rfl⟩))).2.2.1
      have iv1 := hv.iv.move a f.due hrf
      have iv2 := iv1.move b e.due hre
      refine ⟨rfl, after_of hw hs4 (due_tr (due_tr hp hv.iv.nd a f.due) iv1.nd b e.due) iv2 (fun i hi => (hu4 i hi).imp id fun q => by omega) (fun g hg i hi => ?_) ((F0.mono fun _ _ e => e.elim).trans' f4)⟩
      rcases due_mine (h := h) g hg i hi with ⟨g', hg', hi'⟩ | q
      · exact due_mine g' hg' i hi'
      · exact .inr q
    · rw [find_no hp hno]
      exact ⟨rfl, After.same hv (F0.trans' f1)⟩
  · rw [find_no hp hno]
    exact ⟨rfl, After.same hv F0⟩
set_option maxHeartbeats 8000000 in
theorem Twice_ok {k d : Int} (hv : MV h p most s W) (hm : most ≤ 4096) (hlast : s.last < 1000000) :
    Runs Try.prog T0 (.fn fn_zgbQ) [.pointer (some ⟨p, 0, none⟩), .int .i64 k, .int .i64 d] h (fun r h' => r = .tuple ⟨[.int .i64 (twiceS most s k d).2.1, .int .i64 (twiceS most s k d).2.2]⟩ ∧ After h p most W (twiceS most s k d).1 h') (fun _ _ => False) := by
  obtain ⟨m, c, u, S, l, hs, hp, hw⟩ := hv.kp
  have hlen := hv.llen hm hp
  have hLl : s.L.length = l.length := by have := hp.length_eq; rw [List.length_map] at this; exact this.symm
  have hsl := hs.pe.length_eq
  have hid : ∀ e ∈ l, e.id ≤ s.last := fun e he => (hv.iv.id e.tr (hp.mem_iff.1 (List.mem_map.2 ⟨e, he, rfl⟩))).2
  have hl0 := hv.iv.l0
  refine zgbQ_runs ?_
  refine stp ?_
  rw [show ((h.push (.cells [.pointer (some ⟨p, 0, none⟩)] 0)).push (.cells [.int .i64 d] 0)).n = h.n + 2 from rfl, show (h.push (.cells [.pointer (some ⟨p, 0, none⟩)] 0)).n = h.n + 1 from rfl]
  have F0 : Fr (fun _ => False) h (((h.push (.cells [.pointer (some ⟨p, 0, none⟩)] 0)).push (.cells [.int .i64 d] 0)).push (.cells [.int .i64 0] 0)) := Fr.refl.push.push.push
  have g1 : (((h.push (.cells [.pointer (some ⟨p, 0, none⟩)] 0)).push (.cells [.int .i64 d] 0)).push (.cells [.int .i64 0] 0)).get h.n = .cells [.pointer (some ⟨p, 0, none⟩)] 0 := by rw [Heap.get_push, if_neg (by simp; omega), Heap.get_push, if_neg (by simp), Heap.get_push, if_pos rfl]
  have g2 : (((h.push (.cells [.pointer (some ⟨p, 0, none⟩)] 0)).push (.cells [.int .i64 d] 0)).push (.cells [.int .i64 0] 0)).get (h.n + 1) = .cells [.int .i64 d] 0 := by rw [Heap.get_push, if_neg (by simp), Heap.get_push, if_pos (by simp)]
  have g3 : (((h.push (.cells [.pointer (some ⟨p, 0, none⟩)] 0)).push (.cells [.int .i64 d] 0)).push (.cells [.int .i64 0] 0)).get (h.n + 2) = .cells [.int .i64 0] 0 := HGet.new.eq
  have n0 : (((h.push (.cells [.pointer (some ⟨p, 0, none⟩)] 0)).push (.cells [.int .i64 d] 0)).push (.cells [.int .i64 0] 0)).n = h.n + 3 := rfl
  generalize ((h.push (.cells [.pointer (some ⟨p, 0, none⟩)] 0)).push (.cells [.int .i64 d] 0)).push (.cells [.int .i64 0] 0) = h0 at *
  have hs0 := hs.keep F0 fun _ _ => id
  refine O.call' (mwith_ok hs0 (k := k) (fd := fn_zhbQ) (bs := []) (cs := [.pointer (some ⟨h.n + 1, 0, none⟩), .pointer (some ⟨h.n, 0, none⟩), .pointer (some ⟨h.n + 2, 0, none⟩)]) (R := fun e r h' =>
      isDue d = false ∧ r = .int .i64 3 ∧ h' = h0 ∨ isDue d = true ∧ most ≤ l.length ∧ r = .int .i64 7 ∧ h' = h0 ∨
      isDue d = true ∧ (l.length : Int) < most ∧ r = .int .i64 0 ∧ h'.get (h.n + 2) = .cells [.int .i64 (s.last + 1)] 0 ∧ h.n + 2 < h'.n ∧ ∃ u' S' b w, MAt h' p m (c + 1) most (s.last + 1) s.lost u' S' (l ++ [⟨b, c, s.last + 1, e.fr, e.to, d, e.bs, w⟩]) ∧ Fr (fun i => MW p m u i ∨ i = h.n + 2) h0 h' ∧ (∀ i, ownedBy u' i → ownedBy u i ∨ h0.n ≤ i) ∧ h0.n ≤ b ∧ ∀ i, ownedBy w i → h0.n ≤ i) (fun e he hk => ?_)) (fun r h1 hr => ?_)
  · have hea := hs0.ats e he
    haveI : HGet h0 h.n _ := ⟨g1⟩
    haveI : HGet h0 (h.n + 1) _ := ⟨g2⟩
    haveI : HGet h0 p _ := ⟨hs0.gp⟩
    haveI : BLt h.n h0 := ⟨by omega⟩
    haveI : BLt (h.n + 1) h0 := ⟨by omega⟩
    haveI : BLt (h.n + 2) h0 := ⟨by omega⟩
    haveI : BLt e.b h0 := ⟨hea.lt⟩
    obtain ⟨aw, cw, ew, _, _⟩ := id hea.own.rd
    have hget : h0.get e.b = .cells (lcells e.id e.fr e.to e.due e.w) 0 := hea.get
    have hown := hea.own
    rw [ew] at hget hown
    haveI : HGet h0 e.b _ := ⟨hget⟩
    obtain ⟨au, cu, rfl, _, _⟩ := id hs0.ou.rd
    refine zhbQ_runs ?_
    refine stp ?_
    refine O.call' mdue_ok (fun r h2 hr => ?_)
    obtain ⟨rfl, rfl⟩ := hr
    cases hd : isDue d with
    | false =>
      refine stp ?_
      exact .inl ⟨rfl, rfl, rfl⟩
    | true =>
      refine stp ?_
      refine C.if (fun hfull => ?_) (fun hfree => ?_)
      · refine stp ?_
        exact .inr (.inl ⟨rfl, by omega, rfl, rfl⟩)
      refine stp ?_
      have F4 : Fr (fun _ => False) h2 (h2.push (.cells (lcells e.id e.fr e.to d (.slice aw e.bs.length cw)) 0)) := Fr.refl.push
      have n4 : (h2.push (.cells (lcells e.id e.fr e.to d (.slice aw e.bs.length cw)) 0)).n = h2.n + 1 := rfl
      generalize h2.push (.cells (lcells e.id e.fr e.to d (.slice aw e.bs.length cw)) 0) = h4 at *
      have hs4 := hs0.keep F4 fun _ _ => id
      have hbl := (hv.iv.rg e.tr (hp.mem_iff.1 (List.mem_map.2 ⟨e, he, rfl⟩))).2.2.2
      have hbl : e.bs.length ≤ 65536 := hbl
      refine O.call' (lay_ok (i0 := e.id) (f := e.fr) (t := e.to) (d := d) hs4 (by omega) ⟨hl0, hlast⟩ hid (hown.keep F4 fun _ _ => id).rd (by omega) (fun i hi => (hs0.sp e he i (.inr (by rw [ew]; exact block_own hi))).1)) (fun r h5 hr => ?_)
      obtain ⟨rfl, u', S', b, w, hs5, f5, hu5, hb5, hw5⟩ := hr
      have n5 := f5.n
      have hold : ∀ {i : Nat}, MMine p m (.slice au S.length cu) l i → i < h.n := fun {i} hi => hs.mlt hi
      have g5 : h5.get (h.n + 2) = .cells [.int .i64 0] 0 := (f5.get _ (by omega) (fun q => by have := hold (.inl q); omega)).trans ((F4.get _ (by omega) id).trans g3)
      haveI : HGet h5 (h.n + 2) _ := ⟨g5⟩
      refine stp ?_
      have fS : Fr (fun i => i = h.n + 2) h5 (h5.set (h.n + 2) (.cells [.int .i64 (s.last + 1)] 0)) := Fr.refl.set fun _ => rfl
      refine .inr (.inr ⟨rfl, by omega, rfl, by rw [Heap.get_set, if_pos rfl], fS.lt (by omega), u', S', b, w, hs5.keep fS fun i hi q => ?_, ((F4.mono fun _ _ e => e.elim).trans' (f5.mono fun i _ q => .inl q)).trans' (fS.mono fun i _ q => .inr q), fun i hi => (hu5 i hi).imp id fun q => by omega, by omega, fun i hi => by have := hw5 i hi; omega⟩)
      rcases hi with (hi | hi | hi) | ⟨f, hf, hi⟩
      · have := hold (.inl (.inl hi)); omega
      · have := hold (.inl (.inr (.inl hi))); omega
      · rcases hu5 i hi with q2 | q2
        · have := hold (.inl (.inr (.inr q2))); omega
        · omega
      · rcases List.mem_append.1 hf with hf | hf
        · have := hold (.inr ⟨f, hf, hi⟩); omega
        · rw [List.mem_singleton.1 hf] at hi
          rcases hi with hi | hi
          · have hi : i = b := hi
            omega
          · have := hw5 i hi; omega
  have add_tr : ∀ {x : LE}, ((l ++ [x]).map LE.tr).Perm (insT x.tr s.L) := fun {x} => by
    rw [List.map_append, List.map_singleton]
    exact (List.perm_append_comm).trans ((List.Perm.cons _ hp).trans (ins_perm _ _).symm)
  unfold twiceS
  rcases hr with ⟨e, he, hk, hr⟩ | ⟨hno, rfl, rfl⟩
  · rw [find_l hp hv.iv.nd he hk]
    have hre := hv.iv.rg e.tr (hp.mem_iff.1 (List.mem_map.2 ⟨e, he, rfl⟩))
    rcases hr with ⟨hd, rfl, rfl⟩ | ⟨hd, hfu, rfl, rfl⟩ | ⟨hd, hfr, rfl, g6, n6, u', S', b, w, hs6, f6, hu6, hb6, hw6⟩
    · haveI : HGet h1 (h.n + 2) _ := ⟨g3⟩
      refine stp ?_
      simp only [hd, if_true]
      exact ⟨trivial, After.same hv (F0.set fun q => absurd q (by omega))⟩
    · haveI : HGet h1 (h.n + 2) _ := ⟨g3⟩
      refine stp ?_
      simp only [hd, Bool.true_eq_false, if_false]
      rw [if_pos (by rw [hLl]; exact hfu)]
      exact ⟨rfl, After.same hv (F0.set fun q => absurd q (by omega))⟩
    · haveI : HGet h1 (h.n + 2) _ := ⟨g6⟩
      refine stp ?_
      simp only [hd, Bool.true_eq_false, if_false]
      rw [if_neg (by rw [hLl]; omega)]
      have fS : ∀ {A : AObj}, Fr (fun i => i = h.n + 2) h1 (h1.set (h.n + 2) A) := fun {A} => Fr.refl.set fun _ => rfl
      have n6' := f6.n
      have hold : ∀ {i : Nat}, MMine p m u l i → i < h.n := fun {i} hi => hs.mlt hi
      refine ⟨rfl, after_of hw (hs6.keep fS fun i hi q => ?_) add_tr (hv.iv.add (by rw [hLl]; exact hfr) hre.1 hre.2.1 (isDue_iff.1 hd) hre.2.2.2) (fun i hi => (hu6 i hi).imp id fun q => by omega) (fun f hf i hi => ?_) (((F0.mono fun _ _ e => e.elim).trans f6 fun i hi q => ?_).trans fS fun i hi q => by omega)⟩
      · rcases hi with (hi | hi | hi) | ⟨f, hf, hi⟩
        · have := hold (.inl (.inl hi)); omega
        · have := hold (.inl (.inr (.inl hi))); omega
        · rcases hu6 i hi with q2 | q2
          · have := hold (.inl (.inr (.inr q2))); omega
          · omega
        · rcases List.mem_append.1 hf with hf | hf
          · have := hold (.inr ⟨f, hf, hi⟩); omega
          · rw [List.mem_singleton.1 hf] at hi
            rcases hi with hi | hi
            · have hi : i = b := hi
              omega
            · have := hw6 i hi; omega
      · rcases List.mem_append.1 hf with hf | hf
        · exact .inl ⟨f, hf, hi⟩
        · rw [List.mem_singleton.1 hf] at hi
          rcases hi with hi | hi
          · have hi : i = b := hi
            exact .inr (by omega)
          · have := hw6 i hi
            exact .inr (by omega)
      · rcases q with q | q
        · exact .inl q
        · omega
  · haveI : HGet h1 (h.n + 2) _ := ⟨g3⟩
    rw [find_no hp hno]
    refine stp ?_
    exact ⟨rfl, After.same hv (F0.set fun q => absurd q (by omega))⟩
end
end Go.Proofs.Ytoadcfjkkoemdaa.A

namespace Go.Proofs.Ytoadcfjkkoemdaa.A
open Go Go.Vm
set_option maxRecDepth 10000
set_option linter.unusedVariables false
section
variable {h h' : Heap} {p : Nat} {most : Int} {s : MS} {W : Nat → Prop}
theorem add_tr {l : List LE} {x : LE} {L : List LT} (hp : (l.map LE.tr).Perm L) : ((l ++ [x]).map LE.tr).Perm (insT x.tr L) := by
  rw [List.map_append, List.map_singleton]
  exact (List.perm_append_comm).trans ((List.Perm.cons _ hp).trans (ins_perm _ _).symm)
theorem MNew_ok {most : Int} : Runs Try.prog T0 (.fn fn_znbQ) [.int .i64 most] h
    (fun r h' => Fr (fun _ => False) h h' ∧ ((most < 1 ∨ 4096 < most) ∧ r = .tuple ⟨[.pointer none, .int .i64 3]⟩ ∨ (1 ≤ most ∧ most ≤ 4096) ∧ ∃ p W, r = .tuple ⟨[.pointer (some ⟨p, 0, none⟩), .int .i64 0]⟩ ∧ MV h' p most ⟨0, 0, []⟩ W ∧ ∀ i, W i → h.n ≤ i)) (fun _ _ => False) := by
  refine znbQ_runs ?_
  refine stp ?_
  refine O.dec (fun h1 => ?_) (fun h1 => ?_)
  · refine stp ?_
    exact ⟨Fr.refl, .inl ⟨.inl h1, rfl⟩⟩
  · refine stp ?_
    refine C.if (fun h2 => ?_) (fun h2 => ?_)
    · refine stp ?_
      exact ⟨Fr.refl, .inl ⟨.inr h2, rfl⟩⟩
    · refine stp ?_
      refine ⟨Fr.refl.push.push, .inr ⟨⟨by omega, by omega⟩, _, MMine (h.n + 1) h.n (.slice none 0 0) [], rfl, ⟨⟨h.n, 0, .slice none 0 0, [], [], ⟨by simp, by simp; omega, by show h.n + 1 ≠ h.n; omega, HGet.new.eq, by rw [Heap.get_push, if_neg (by simp), Heap.get_push, if_pos rfl]; rfl, EntsOK.nil, .refl _, fun k h0 hk => by simp at hk, .none, by simp, fun i hi => hi.elim, by simp, by simp, by simp, by simp⟩, .refl _, fun _ => Iff.rfl⟩, ⟨List.Pairwise.nil, by simp, by simp, by simp; omega, by simp, by simp, by simp⟩⟩, fun i hi => ?_⟩⟩
      rcases hi with (q | q | q) | ⟨_, q, _⟩
      · omega
      · omega
      · exact q.elim
      · exact absurd q (by simp)
set_option maxHeartbeats 8000000 in
theorem Post_ok {f t d : Int} {v : Value} {bs : List UInt8} (hv : MV h p most s W) (hm : most ≤ 4096) (hlast : s.last < 1000000) (hr : Rd h 1 v (bcells bs) bs.length) (hb : bs.length < 1000000) (hvW : ∀ i, blockOf v i → ¬ W i) :
    Runs Try.prog T0 (.fn fn_zcbQ) [.pointer (some ⟨p, 0, none⟩), .int .i64 f, .int .i64 t, .int .i64 d, v] h (fun r h' => r = .tuple ⟨[.int .i64 (postS most s f t d bs).2.1, .int .i64 (postS most s f t d bs).2.2]⟩ ∧ After h p most W (postS most s f t d bs).1 h') (fun _ _ => False) := by
  obtain ⟨m, c, u, S, l, hs, hp, hw⟩ := hv.kp
  have hlen := hv.llen hm hp
  have hLl : s.L.length = l.length := by have := hp.length_eq; rw [List.length_map] at this; exact this.symm
  have hsl := hs.pe.length_eq
  have hid : ∀ e ∈ l, e.id ≤ s.last := fun e he => (hv.iv.id e.tr (hp.mem_iff.1 (List.mem_map.2 ⟨e, he, rfl⟩))).2
  have hl0 := hv.iv.l0
  obtain ⟨a, cap, rfl, hlv, _⟩ := id hr
  obtain ⟨au, cu, rfl, _, _⟩ := id hs.ou.rd
  haveI : HGet h p _ := ⟨hs.gp⟩
  unfold postS
  refine zcbQ_runs ?_
  refine stp ?_
  refine O.call' (mnone_ok hs) (fun r h hr => ?_)
  obtain ⟨rfl, rfl⟩ := hr
  refine stp ?_
  refine O.call' mends_ok (fun r h hr => ?_)
  obtain ⟨rfl, rfl⟩ := hr
  cases hf : isEnd f with
  | false =>
    refine stp ?_
    exact ⟨rfl, After.same hv Fr.refl⟩
  | true =>
  refine stp ?_
  refine O.callT mends_ok (fun r h hr => ?_)
  obtain ⟨rfl, rfl⟩ := hr
  cases ht : isEnd t with
  | false =>
    refine stp ?_
    exact ⟨rfl, After.same hv Fr.refl⟩
  | true =>
  refine stp ?_
  refine O.callT mdue_ok (fun r h hr => ?_)
  obtain ⟨rfl, rfl⟩ := hr
  cases hd : isDue d with
  | false =>
    refine stp ?_
    exact ⟨rfl, After.same hv Fr.refl⟩
  | true =>
  simp only [Bool.and_true, Bool.true_eq_false, if_false]
  refine stp ?_
  refine C.if (fun hlong => ?_) (fun hshort => ?_)
  · refine stp ?_
    rw [if_pos (by omega)]
    exact ⟨rfl, After.same hv Fr.refl⟩
  rw [if_neg (by omega)]
  refine stp ?_
  refine C.if (fun hfull => ?_) (fun hfree => ?_)
  · refine stp ?_
    rw [if_pos (by omega)]
    exact ⟨rfl, After.same hv Fr.refl⟩
  rw [if_neg (by omega)]
  refine stp ?_
  refine O.call' (lay_ok (i0 := 0) (f := f) (t := t) (d := d) hs (by omega) ⟨hl0, hlast⟩ hid hr (by omega) (fun i hi q => hvW i hi (by rw [q]; exact hv.hasP))) (fun r h5 hr => ?_)
  obtain ⟨rfl, u', S', b, w, hs5, f5, hu5, hb5, hw5⟩ := hr
  refine stp ?_
  refine ⟨rfl, after_of hw hs5 (add_tr hp) (hv.iv.add (by omega) (isEnd_iff.1 hf) (isEnd_iff.1 ht) (isDue_iff.1 hd) (by omega)) hu5 (fun g hg i hi => ?_) (f5.mono fun i _ q => .inl q)⟩
  rcases List.mem_append.1 hg with hg | hg
  · exact .inl ⟨g, hg, hi⟩
  · rw [List.mem_singleton.1 hg] at hi
    rcases hi with hi | hi
    · have hi : i = b := hi
      exact .inr (by omega)
    · exact .inr (hw5 i hi)
theorem head_tr {S l : List LE} {L : List LT} (hh : HeapP ltL 0 S.length S) (hpe : S.Perm l) (hp : (l.map LE.tr).Perm L) (hso : SrtT L) (hn : (L.map LT.id).Nodup) (h0 : 0 < S.length) : ∃ M, L = (at' S 0).tr :: M := by
  have hm : (at' S 0).tr ∈ L := hp.mem_iff.1 (List.mem_map.2 ⟨_, hpe.mem_iff.1 (at_mem h0), rfl⟩)
  cases L with
  | nil => simp at hm
  | cons x M =>
    refine ⟨M, ?_⟩
    rcases List.mem_cons.1 hm with e | e
    · rw [e]
    · unfold SrtT at hso
      rw [List.pairwise_cons] at hso
      have h1 := hso.1 _ e
      obtain ⟨y, hy, rfl⟩ := List.mem_map.1 (hp.mem_iff.2 (List.mem_cons_self ..))
      have h2 := root_le ltL_ord hh (hpe.mem_iff.2 hy)
      have h3 : ltT y.tr (at' S 0).tr = ltL y (at' S 0) := rfl
      rw [h3, h2] at h1
      cases h1
def nextS (L : List LT) : Int × Bool := match L with
  | [] => (0, false)
  | t :: _ => (t.due, true)
set_option maxHeartbeats 4000000 in
theorem MNext_ok (hv : MV h p most s W) (hm : most ≤ 4096) : Runs Try.prog T0 (.fn fn_zbbQ) [.pointer (some ⟨p, 0, none⟩)] h (fun r h' => r = .tuple ⟨[.int .i64 (nextS s.L).1, .bool (nextS s.L).2]⟩ ∧ h' = h) (fun _ _ => False) := by
  obtain ⟨m, c, u, S, l, hs, hp, hw⟩ := hv.kp
  have hlen := hv.llen hm hp
  have hsl := hs.pe.length_eq
  have hLl : s.L.length = l.length := by have := hp.length_eq; rw [List.length_map] at this; exact this.symm
  haveI : HGet h p _ := ⟨hs.gp⟩
  obtain ⟨au, cu, rfl, _, hcu⟩ := id hs.ou.rd
  refine zbbQ_runs ?_
  refine stp ?_
  refine O.call' (mnone_ok hs) (fun r h hr => ?_)
  obtain ⟨rfl, rfl⟩ := hr
  refine stp ?_
  refine C.if (fun h0 => ?_) (fun h0 => ?_)
  · refine stp ?_
    have : s.L = [] := List.length_eq_zero_iff.1 (by omega)
    rw [this]
    exact ⟨rfl, rfl⟩
  · have h0' : 0 < S.length := by omega
    obtain ⟨q, o, sp, rfl, hq, hcc⟩ := hcu (by omega)
    have hml : (S.map LE.b).length = S.length := List.length_map _
    haveI : Cell h q (o + 0) (.pointer (some ⟨(S.map LE.b).getD 0 0, 0, none⟩)) := pcell_at hcc hml h0'
    have e0 : (S.map LE.b).getD 0 0 = (at' S 0).b := at_map LE.b h0'
    have ha := hs.ats _ (hs.pe.mem_iff.1 (at_mem h0'))
    rw [e0] at this
    haveI := this
    haveI : HGet h (at' S 0).b _ := ⟨ha.get⟩
    obtain ⟨M, hM⟩ := head_tr hs.hp hs.pe hp hv.iv.so hv.iv.nd h0'
    refine stp ?_
    rw [hM]
    exact ⟨rfl, rfl⟩
end
end Go.Proofs.Ytoadcfjkkoemdaa.A

namespace Go.Proofs.Ytoadcfjkkoemdaa.A
open Go Go.Vm
set_option maxRecDepth 10000
set_option linter.unusedVariables false
theorem one_let {h : Heap} {a b c d : Int} {v : Value} {es : Nat} : newCells (h.push (.cells (lcells a b c d v) es)) 5 [.int .i64 0, .int .i64 0, .int .i64 0, .int .i64 0, .slice none 0 0] false (.slice (some ⟨h.n, 0, none⟩) 1 1) = some (1, lcells a b c d v) :=
  (Rd.mk (size := 5) (n := 1) (cap := 1) (sp := none) (o := 0) (b := h.n) (c := lcells a b c d v) (by simp) (by rw [cellsAt_of (c := lcells a b c d v) (by rw [Heap.get_push, if_pos rfl]; rfl) (by simp)]; rfl)).new _
def ocells (O : List LE) : List Value := O.flatMap LE.cells
theorem ocells_len (O : List LE) : (ocells O).length = O.length * 5 := by
  induction O with
  | nil => rfl
  | cons a O ih =>
    show (a.cells ++ ocells O).length = _
    rw [List.length_append, ih]
    simp
    omega
theorem ocells_add (O : List LE) (e : LE) : ocells (O ++ [e]) = ocells O ++ e.cells := by simp [ocells]
structure LetOut (h : Heap) (r : Value) (O : List LE) : Prop where
  ow : Own h 5 r (ocells O) O.length
  wt : ∀ e ∈ O, Own h 1 e.w (bcells e.bs) e.bs.length
  rw : ∀ e ∈ O, ∀ i, ownedBy e.w i → ¬ ownedBy r i
  dj : O.Pairwise fun e e' => ∀ i, ownedBy e.w i → ¬ ownedBy e'.w i
def OMine (r : Value) (O : List LE) (i : Nat) : Prop := ownedBy r i ∨ ∃ e ∈ O, ownedBy e.w i
theorem LetOut.keep {T : Nat → Prop} {h h' : Heap} {r : Value} {O : List LE} (ho : LetOut h r O) (hf : Fr T h h') (hn : ∀ i, OMine r O i → ¬ T i) : LetOut h' r O :=
  ⟨ho.ow.keep hf fun i hi => hn i (.inl hi), fun e he => (ho.wt e he).keep hf fun i hi => hn i (.inr ⟨e, he, hi⟩), ho.rw, ho.dj⟩
theorem LetOut.lt {h : Heap} {r : Value} {O : List LE} (ho : LetOut h r O) {i : Nat} (hi : OMine r O i) : i < h.n := by
  rcases hi with hi | ⟨e, he, hi⟩
  · exact ho.ow.lt hi
  · exact (ho.wt e he).lt hi
theorem LetOut.nil {h : Heap} : LetOut h (.slice none 0 0) [] := ⟨.none, by simp, by simp, List.Pairwise.nil⟩
structure ComeI (h : Heap) (p m c : Nat) (most : Int) (s : MS) (W : Nat → Prop) (now : Int) (hx : Heap) (v : Value) (O : List LE) (u : Value) (S l : List LE) (K : List LT) : Prop where
  ms : MAt hx p m c most s.last s.lost u S l
  pe : (l.map LE.tr).Perm K
  sp : s.L = O.map LE.tr ++ K
  du : ∀ e ∈ O, e.due ≤ now
  lo : LetOut hx v O
  mw : ∀ i, MMine p m u l i → W i ∨ h.n ≤ i
  vn : ∀ i, ownedBy v i → h.n ≤ i
  on : ∀ i, OMine v O i → (W i ∨ h.n ≤ i) ∧ ¬ MMine p m u l i
  fr : Fr W h hx
section
variable {h : Heap} {p : Nat} {most : Int} {s : MS} {W : Nat → Prop} {now : Int}
theorem came_done {m c : Nat} {hx : Heap} {v : Value} {O : List LE} {u : Value} {S l : List LE} {K : List LT} (hi : ComeI h p m c most s W now hx v O u S l K) (hK : ∀ t ∈ K, now < t.due) (hv : MOK most s) : O.map LE.tr = cameS s now ∧ K = (comeS s now).L := by
  have h1 : ∀ t ∈ O.map LE.tr, t.due ≤ now := fun t ht => by
    obtain ⟨e, he, rfl⟩ := List.mem_map.1 ht
    exact hi.du e he
  refine ⟨?_, ?_⟩
  · unfold cameS
    rw [hi.sp, List.filter_append, List.filter_eq_self.2 (fun t ht => by simpa using h1 t ht), List.filter_eq_nil_iff.2 (fun t ht => by have := hK t ht; simpa using this), List.append_nil]
  · show K = s.L.filter fun t => !decide (t.due ≤ now)
    rw [hi.sp, List.filter_append, List.filter_eq_nil_iff.2 (fun t ht => by simpa using h1 t ht), List.filter_eq_self.2 (fun t ht => by have := hK t ht; simpa using this), List.nil_append]
set_option maxHeartbeats 16000000 in
theorem Come_ok (hv : MV h p most s W) (hm : most ≤ 4096) :
    Runs Try.prog T0 (.fn fn_zvQ) [.pointer (some ⟨p, 0, none⟩), .int .i64 now] h (fun r h' => ∃ O W', O.map LE.tr = cameS s now ∧ MV h' p most (comeS s now) W' ∧ (∀ i, W' i → W i ∨ h.n ≤ i) ∧ Fr W h h' ∧ LetOut h' r O ∧ (∀ i, ownedBy r i → h.n ≤ i) ∧ ∀ i, OMine r O i → (W i ∨ h.n ≤ i) ∧ ¬ W' i) (fun _ _ => False) := by
  obtain ⟨m, c, u, S, l, hs, hp, hw⟩ := hv.kp
  have hlen := hv.llen hm hp
  haveI : HGet h p _ := ⟨hs.gp⟩
  have done : ∀ {hx : Heap} {v : Value} {O : List LE} {u : Value} {S l : List LE} {K : List LT}, ComeI h p m c most s W now hx v O u S l K → (∀ t ∈ K, now < t.due) → ∃ O W', O.map LE.tr = cameS s now ∧ MV hx p most (comeS s now) W' ∧ (∀ i, W' i → W i ∨ h.n ≤ i) ∧ Fr W h hx ∧ LetOut hx v O ∧ (∀ i, ownedBy v i → h.n ≤ i) ∧ ∀ i, OMine v O i → (W i ∨ h.n ≤ i) ∧ ¬ W' i := fun {hx v O u S l K} hi hK => by
    obtain ⟨e1, e2⟩ := came_done hi hK hv.iv
    exact ⟨O, MMine p m u l, e1, ⟨⟨m, c, u, S, l, hi.ms, by rw [← e2]; exact hi.pe, fun _ => Iff.rfl⟩, hv.iv.less _ _ hv.iv.k0⟩, hi.mw, hi.fr, hi.lo, hi.vn, hi.on⟩
  refine zvQ_runs ?_
  refine stp ?_
  refine O.call' (mnone_ok hs) (fun r h hr => ?_)
  obtain ⟨rfl, rfl⟩ := hr
  refine stp ?_
  refine loop1 zvQ_l0_M 4 (fun q v4 hx => ∃ O u S l K, q = K.length ∧ ComeI h p m c most s W now hx v4 O u S l K) ?_ s.L.length ⟨[], u, S, l, s.L, rfl, hs, hp, rfl, by simp, .nil, fun i hi => .inl ((hw i).2 hi), fun i hi => hi.elim, fun i hi => hi.elim (fun q => q.elim) (fun ⟨_, q, _⟩ => absurd q (by simp)), Fr.refl⟩
  clear hs hp hw hlen
  rintro m v4 h' x5 x8 x9 x10 x11 x12 x13 x14 x15 x16 x17 x18 x19 x20 x21 x22 x23 x24 x25 x26 x27 x28 x29 x30 x31 x32 x33 x34 x35 x36 x37 x38 x39 x40 x41 ⟨Z, u, S, l, K, rfl, hi⟩
  have hs := hi.ms
  have hsl := hs.pe.length_eq
  have hKl : K.length = l.length := by have := hi.pe.length_eq; rw [List.length_map] at this; exact this.symm
  have hsK : SrtT K := by have := hv.iv.so; rw [hi.sp] at this; exact this.sublist (List.sublist_append_right ..)
  have hnK : (K.map LT.id).Nodup := by have := hv.iv.nd; rw [hi.sp, List.map_append] at this; exact this.sublist (List.sublist_append_right ..)
  have hZl : Z.length + K.length = s.L.length := by have := congrArg List.length hi.sp; rw [List.length_append, List.length_map] at this; exact this.symm
  have hsL := hv.len hm
  haveI : HGet h' p _ := ⟨hs.gp⟩
  obtain ⟨au, cu, rfl, _, hcu⟩ := id hs.ou.rd
  obtain ⟨av, cv, rfl, _, _⟩ := id hi.lo.ow.rd
  rcases Nat.eq_zero_or_pos S.length with h0 | h0
  · haveI g1 : ∀ {ts : List Value} {h : Heap} {O : Oper} {x z : Operand} [Ev ts x (.int .i64 (S.length : Nat))] [Ev ts z (.int .i64 0)], XOp Try.prog ts h (.bin .gtr O x z) (.bool false) h := xgtr0 (by omega)
    have hK0 : K = [] := List.length_eq_zero_iff.1 (by omega)
    refine stp ?_
    exact done hi (by rw [hK0]; simp)
  haveI g1 : ∀ {ts : List Value} {h : Heap} {O : Oper} {x z : Operand} [Ev ts x (.int .i64 (S.length : Nat))] [Ev ts z (.int .i64 0)], XOp Try.prog ts h (.bin .gtr O x z) (.bool true) h := xgtr1 (by omega)
  obtain ⟨q, o, sp, rfl, hq, hcc⟩ := hcu (by omega)
  have hml : (S.map LE.b).length = S.length := List.length_map _
  have e0 : (S.map LE.b).getD 0 0 = (at' S 0).b := at_map LE.b h0
  have hc0 : Cell h' q (o + 0) (.pointer (some ⟨(S.map LE.b).getD 0 0, 0, none⟩)) := pcell_at hcc hml h0
  have hel : at' S 0 ∈ l := hs.pe.mem_iff.1 (at_mem h0)
  obtain ⟨M, hM⟩ := head_tr hs.hp hs.pe hi.pe hsK hnK h0
  rw [e0] at hc0
  generalize at' S 0 = e at *
  have ha := hs.ats e hel
  haveI := hc0
  obtain ⟨aw, cw, ew, _, _⟩ := id ha.own.rd
  have hget : h'.get e.b = .cells (lcells e.id e.fr e.to e.due e.w) 0 := ha.get
  rw [ew] at hget
  haveI : HGet h' e.b _ := ⟨hget⟩
  refine stp ?_
  refine C.if (fun hdue => ?_) (fun hdue => ?_)
  case refine_2 =>
    refine stp ?_
    refine done hi (fun t ht => ?_)
    rw [hM] at ht hsK
    unfold SrtT at hsK
    rw [List.pairwise_cons] at hsK
    rcases List.mem_cons.1 ht with e1 | e1
    · rw [e1]
      show now < e.due
      omega
    · have := hsK.1 t e1
      simp only [ltK, decide_eq_true_eq] at this
      have h5 : e.tr.due = e.due := rfl
      rw [h5] at this
      omega
  refine stp ?_
  refine O.call' (gone_ok hs hel (by omega)) (fun r h1 hr => ?_)
  obtain ⟨rfl, u', S', hs1, f1, hu1⟩ := hr
  have n1 := f1.n
  have hspe := hs.sp e hel
  have hebn : ¬ MW p m (.slice (some ⟨q, o, sp⟩) S.length cu) e.b := fun q => by
    have := hspe e.b (.inl rfl)
    exact q.elim this.1 fun q => q.elim this.2.1 this.2.2
  have hewn : ∀ i, ownedBy e.w i → ¬ MW p m (.slice (some ⟨q, o, sp⟩) S.length cu) i := fun i hi2 q => by
    have := hspe i (.inr hi2)
    exact q.elim this.1 fun q => q.elim this.2.1 this.2.2
  have hg1 := (f1.get _ ha.lt hebn).trans hget
  have hlo1 := hi.lo.keep f1 fun i hi2 q => (hi.on i hi2).2 (.inl q)
  have how1 := ha.own.keep f1 hewn
  haveI : HGet h1 e.b _ := ⟨hg1⟩
  haveI : BLt e.b h1 := ⟨f1.lt ha.lt⟩
  refine stp ?_
  refine O.append (n := Z.length) (m := 1) (d := lcells e.id e.fr e.to e.due (.slice aw e.bs.length cw)) (hlo1.ow.keep (Fr.refl.push (S := fun _ => False)) fun _ _ => id) one_let rfl rfl (by decide) (by decide) (by omega) (fun v2 h2 o2 f2 n2 => ?_)
  have ecl : ocells Z ++ lcells e.id e.fr e.to e.due (.slice aw e.bs.length cw) = ocells (Z ++ [e]) := by rw [ocells_add, LE.cells, ew]
  have eln : Z.length + 1 = (Z ++ [e]).length := by simp
  rw [ecl, eln] at o2
  have F2 : Fr (ownedBy (.slice av Z.length cv)) h1 h2 := (Fr.refl.push (S := ownedBy (.slice av Z.length cv))).trans' f2
  have n2' : ∀ i, ownedBy v2 i → ownedBy (.slice av Z.length cv) i ∨ h1.n ≤ i := fun i hi2 => (n2 i hi2).imp id fun q => by simp at q; omega
  obtain ⟨av2, cv2, rfl, _, _⟩ := id o2.rd
  refine stp ?_
  have hlL : ∀ f ∈ lessL e.id l, f ∈ l ∧ f.b ≠ e.b := fun f hf => by
    obtain ⟨k1, k2⟩ := List.mem_filter.1 hf
    simp only [Bool.not_eq_true', decide_eq_false_iff_not] at k2
    exact ⟨k1, fun q => k2 (congrArg LE.id (nodup_inj hs.nd k1 hel q))⟩
  have hnm : ∀ i, MMine p m u' (lessL e.id l) i → MMine p m (.slice (some ⟨q, o, sp⟩) S.length cu) l i ∨ h'.n ≤ i := fun i hi2 => by
    rcases hi2 with (hi2 | hi2 | hi2) | ⟨f, hf, hi2⟩
    · exact .inl (.inl (.inl hi2))
    · exact .inl (.inl (.inr (.inl hi2)))
    · exact (hu1 i hi2).imp (fun q => .inl (.inr (.inr q))) id
    · exact .inl (.inr ⟨f, (hlL f hf).1, hi2⟩)
  have hvno : ∀ i, ownedBy (.slice av Z.length cv) i → ¬ MMine p m u' (lessL e.id l) i := fun i hi2 q => by
    rcases hnm i q with q | q
    · exact (hi.on i (.inl hi2)).2 q
    · have := hi.lo.ow.lt hi2; omega
  have heno : ∀ i, ownedBy e.w i → ¬ MMine p m u' (lessL e.id l) i := fun i hi2 q => by
    have hlt := ha.own.lt hi2
    rcases q with (q | q | q) | ⟨f, hf, q | q⟩
    · exact hewn i hi2 (.inl q)
    · exact hewn i hi2 (.inr (.inl q))
    · rcases hu1 i q with q | q
      · exact hewn i hi2 (.inr (.inr q))
      · omega
    · exact hs.sv e hel f (hlL f hf).1 (by rw [← q]; exact hi2)
    · exact hs.dj e hel f (hlL f hf).1 (fun q2 => (hlL f hf).2 q2.symm) i hi2 q
  have hene : ∀ i, ownedBy e.w i → ¬ ownedBy (.slice av Z.length cv) i := fun i hi2 q => (hi.on i (.inl q)).2 (.inr ⟨e, hel, .inr hi2⟩)
  have hZe : ∀ f ∈ Z ++ [e], f ∈ Z ∨ f = e := fun f hf => (List.mem_append.1 hf).imp id List.mem_singleton.1
  have hMl : M.length < K.length := by rw [hM]; simp
  refine loop1a 4 M.length hMl ⟨Z ++ [e], u', S', lessL e.id l, M, rfl, hs1.keep F2 fun i hi2 q => hvno i q hi2, ?_, ?_, fun f hf => ?_, ⟨o2, fun f hf => ?_, fun f hf i hi2 q => ?_, ?_⟩, fun i hi2 => ?_, fun i hi2 => ?_, fun i hi2 => ?_, ?_⟩
  · have h5 := less_tr hi.pe e.id
    have h6 : lessT e.id K = M := by
      rw [hM] at hnK ⊢
      rw [List.map_cons, List.nodup_cons] at hnK
      unfold lessT
      rw [List.filter_cons]
      have : (!decide (e.tr.id = e.id)) = false := by simp [LE.tr]
      rw [this, if_neg (by decide)]
      refine List.filter_eq_self.2 fun t ht => ?_
      simp only [Bool.not_eq_true', decide_eq_false_iff_not]
      exact fun q => hnK.1 (List.mem_map.2 ⟨t, ht, q⟩)
    rw [h6] at h5
    exact h5
  · rw [hi.sp, hM]; simp
  · rcases hZe f hf with q | q
    · exact hi.du f q
    · rw [q]; exact hdue
  · rcases hZe f hf with q | q
    · exact (hlo1.wt f q).keep F2 fun i hi2 => hi.lo.rw f q i hi2
    · rw [q]; exact how1.keep F2 fun i hi2 => hene i hi2
  · rcases hZe f hf with k1 | k1
    · rcases n2' i q with k2 | k2
      · exact hi.lo.rw f k1 i hi2 k2
      · have := (hi.lo.wt f k1).lt hi2; omega
    · rw [k1] at hi2
      rcases n2' i q with k2 | k2
      · exact hene i hi2 k2
      · have := ha.own.lt hi2; omega
  · rw [List.pairwise_append]
    refine ⟨hi.lo.dj, by simp, fun f hf g hg i hi2 q => ?_⟩
    rw [List.mem_singleton.1 hg] at q
    exact (hi.on i (.inr ⟨f, hf, hi2⟩)).2 (.inr ⟨e, hel, .inr q⟩)
  · rcases hnm i hi2 with q | q
    · exact hi.mw i q
    · have := hi.fr.n
      exact .inr (by omega)
  · rcases n2' i hi2 with q | q
    · exact hi.vn i q
    · have := hi.fr.n
      omega
  · have hfn := hi.fr.n
    rcases hi2 with hi2 | ⟨f, hf, hi2⟩
    · rcases n2' i hi2 with q | q
      · exact ⟨(hi.on i (.inl q)).1, hvno i q⟩
      · exact ⟨.inr (by omega), fun k => by have := hs1.mlt k; omega⟩
    · rcases hZe f hf with k1 | k1
      · have := hi.on i (.inr ⟨f, k1, hi2⟩)
        refine ⟨this.1, fun k => ?_⟩
        rcases hnm i k with k | k
        · exact this.2 k
        · have := (hi.lo.wt f k1).lt hi2; omega
      · rw [k1] at hi2
        exact ⟨hi.mw i (.inr ⟨e, hel, .inr hi2⟩), heno i hi2⟩
  · refine (hi.fr.trans f1 fun i hi2 q => ?_).trans F2 fun i hi2 q => ?_
    · rcases hi.mw i (.inl q) with k | k
      · exact k
      · omega
    · have := hi.vn i q
      omega
end
end Go.Proofs.Ytoadcfjkkoemdaa.A

namespace Go.Proofs.Ytoadcfjkkoemdaa.A
open Go Go.Vm
set_option maxRecDepth 10000
set_option linter.unusedVariables false
theorem insertion0_ok {h : Heap} {v f : Value} {a b : Nat} (hab : b ≤ a) (ha : a < 1000) : Runs Try.prog T0 (.fn fn_zkcQ) [v, .int .i64 a, .int .i64 b, f] h (fun r h' => h' = h) (fun _ _ => False) := by
  refine zkcQ_runs ?_
  refine stp ?_
  refine loop1 zkcQ_l1_M 8 (fun k v8 hx => v8 = .int .i64 ((a : Int) + 1) ∧ hx = h) ?_ 0 ⟨rfl, rfl⟩
  rintro m v8 h' x9 x12 x13 x14 x15 x16 x17 x18 x19 x20 x21 x22 x23 x24 x25 x26 x27 x28 x29 x30 x31 x32 x33 x34 x35 x36 x37 x38 x39 x40 x41 x42 x43 x44 x45 x46 x47 x48 x49 x50 x51 x52 ⟨rfl, rfl⟩
  refine stp ?_
  refine C.if (fun h1 => absurd h1 (by omega)) (fun _ => ?_)
  refine stp ?_
  rfl
theorem pdq0_ok {h : Heap} {v f : Value} {k : Int} {a b : Nat} (hab : b ≤ a) (ha : a < 1000) : Runs Try.prog T0 (.fn fn_zscQ) [v, .int .i64 a, .int .i64 b, .int .i64 k, f] h (fun r h' => h' = h) (fun _ _ => False) := by
  refine zscQ_runs ?_
  refine stp ?_
  refine loop5 zscQ_l0_M 1 2 3 10 11 (fun q v1 v2 v3 v10 v11 hx => v1 = .int .i64 a ∧ v2 = .int .i64 b ∧ v3 = .int .i64 k ∧ hx = h) ?_ 0 ⟨rfl, rfl, rfl, rfl⟩
  rintro m v1 v2 v3 v10 v11 h' x12 x13 x14 x15 x16 x17 x18 x19 x20 x21 x22 x23 x24 x25 x26 x27 x28 x29 x30 x31 x32 x33 x34 x35 x36 x37 x38 x39 x40 x41 x42 x43 x44 x45 x46 x47 x48 x49 x50 x51 x52 x53 x54 x55 x56 x57 x58 x59 x60 x61 x62 x63 x64 x65 x66 x67 x68 x69 x70 x71 x72 x73 x74 x75 x76 x77 x78 x79 x80 x81 x82 x83 x84 x85 x86 x87 x88 x89 x90 x91 x92 x93 x94 x95 x96 x97 x98 x99 x100 x101 x102 x103 x104 x105 x106 x107 x108 x109 x110 x111 x112 x113 x114 x115 x116 x117 x118 x119 x120 x121 x122 x123 x124 x125 x126 x127 x128 x129 x130 x131 x132 x133 x134 x135 x136 x137 x138 x139 x140 x141 x142 x143 x144 x145 x146 x147 ⟨rfl, rfl, rfl, rfl⟩
  refine stp ?_
  refine C.if (fun _ => ?_) (fun h1 => absurd (by omega) h1)
  refine stp ?_
  refine O.call' (insertion0_ok hab ha) (fun r h2 hr => ?_)
  subst hr
  refine stp ?_
  rfl
section
variable {lt : Nat → Nat → Bool} {fd : FuncId} {G : Nat → Prop} {h : Heap} {v : Value} {L : List Nat}
set_option maxHeartbeats 4000000 in
theorem SortF_ok (ho : Own h 1 v (pcells L) L.length) (hl : L.length < 256) (oo : Ord lt) (hd : Dist lt L) (hG : ∀ e ∈ L, G e) (hc : ∀ q, ownedBy v q → CmpI lt fd q G h) :
    Runs Try.prog T0 (.fn fn_zdcQ) [v, .func (.func fd) ⟨[]⟩ ⟨[]⟩] h (fun _ h' => ∃ M, M.Perm L ∧ Srt lt 0 M.length M ∧ Own h' 1 v (pcells M) M.length ∧ Fr (ownedBy v) h h') (fun _ _ => False) := by
  have hnil : L.length = 0 → ∃ M : List Nat, M.Perm L ∧ Srt lt 0 M.length M ∧ Own h 1 v (pcells M) M.length ∧ Fr (ownedBy v) h h := fun h0 => ⟨L, .refl _, fun p q h1 h2 h3 => by omega, ho, Fr.refl⟩
  have hbl := fun {h : Heap} => bLen_ok (h := h) (n := L.length) hl
  have hlt8 := (lenT_ok hl).1
  generalize (lenT.getD L.length 0).toNat = t at *
  have ho0 := ho
  generalize hn : L.length = n at *
  generalize hcc : pcells L = cc at *
  refine zdcQ_runs ?_
  cases ho with
  | none =>
    refine stp ?_
    refine O.call' hbl (fun r h1 hr => ?_)
    obtain ⟨rfl, rfl⟩ := hr
    refine stp ?_
    refine O.call' (pdq0_ok (a := 0) (b := 0) (Nat.le_refl _) (by decide)) (fun r h1 hr => ?_)
    subst hr
    refine stp ?_
    exact hnil rfl
  | lit hq hg =>
    refine stp ?_
    refine O.call' hbl (fun r h1 hr => ?_)
    obtain ⟨rfl, rfl⟩ := hr
    refine stp ?_
    refine O.call' (pdq0_ok (a := 0) (b := 0) (Nat.le_refl _) (by decide)) (fun r h1 hr => ?_)
    subst hr
    refine stp ?_
    exact hnil rfl
  | grown hq hn0 hle hl1 hl2 hg =>
    rename_i q kk cap j
    subst hcc
    have hps : PS q n j G h h L := ⟨hn, hq, hg, Fr.refl, hG⟩
    refine stp ?_
    refine O.call' hbl (fun r h1 hr => ?_)
    obtain ⟨rfl, rfl⟩ := hr
    refine stp ?_
    refine O.call' (pdq_ok (hc q rfl) oo hl n (a := 0) (b := n) (lim := t) (by omega) hps (by omega) (Nat.le_refl _) (by omega) (fun e => absurd e (by omega)) hd) (fun r h2 hr => ?_)
    obtain ⟨M, hps2, hsw, hso⟩ := hr
    refine stp ?_
    have hML : M.length = n := hps2.ln
    refine ⟨M, hsw.perm (by omega), by rw [hML]; exact hso, ?_, hps2.fr.mono fun i _ e => e.symm⟩
    rw [hML]
    exact .grown (j := j) hps2.lt hn0 hle (by rw [pcells_len, hML, Nat.mul_one]) (by rw [List.length_append, pcells_len, hML, ← hn, ← pcells_len, ← List.length_append]; exact hl2) hps2.get
end
def letB (l : List LE) (b : Nat) : LE := (l.find? fun e => decide (e.b = b)).getD default
theorem letB_of {l : List LE} (hn : (l.map LE.b).Nodup) {e : LE} (he : e ∈ l) : letB l e.b = e := by
  unfold letB
  cases h : l.find? fun f => decide (f.b = e.b) with
  | none => exact absurd (List.find?_eq_none.1 h e he) (by simp)
  | some f =>
    have h1 := List.mem_of_find?_eq_some h
    have h2 : f.b = e.b := by simpa using List.find?_some h
    exact nodup_inj hn h1 he h2
abbrev ltB (l : List LE) (a b : Nat) : Bool := ltL (letB l a) (letB l b)
theorem ltB_ord (l : List LE) : Ord (ltB l) := ltK_ord fun b => (letB l b).key
theorem cmpB {l : List LE} {h : Heap} {q : Nat} (hn : (l.map LE.b).Nodup) (ha : ∀ e ∈ l, h.get e.b = .cells e.cells 0 ∧ e.b < h.n ∧ e.b ≠ q) : CmpI (ltB l) fn_zobQ q (fun b => ∃ e ∈ l, e.b = b) h := ⟨fun {hx x y} hf ⟨e, he, hx1⟩ ⟨f, hf1, hy1⟩ => by
  subst hx1 hy1
  have h1 := ha e he
  have h2 := ha f hf1
  refine (mcompare_ok (x := e) (y := f) (by rw [hf.get _ h1.2.1 h1.2.2]; exact h1.1) (by rw [hf.get _ h2.2.1 h2.2.2]; exact h2.1)).mono (fun r h' ⟨q1, q2⟩ => ⟨⟨_, q1, ?_⟩, q2⟩) fun _ _ h => h
  show _ ↔ ltL (letB l e.b) (letB l f.b) = true
  rw [letB_of hn he, letB_of hn hf1]
  exact ordK _ _ _ _⟩
theorem distB {l S : List LE} (hn : (l.map LE.b).Nodup) (hi : (l.map LE.id).Nodup) (hp : S.Perm l) : Dist (ltB l) (S.map LE.b) := by
  refine ⟨((hp.map LE.b).nodup_iff).2 hn, fun x hx y hy hne => ?_⟩
  obtain ⟨e, he, rfl⟩ := List.mem_map.1 hx
  obtain ⟨f, hf, rfl⟩ := List.mem_map.1 hy
  have he := hp.mem_iff.1 he
  have hf := hp.mem_iff.1 hf
  show ltL (letB l e.b) (letB l f.b) = true ∨ ltL (letB l f.b) (letB l e.b) = true
  rw [letB_of hn he, letB_of hn hf]
  have : e.id ≠ f.id := fun q => hne (congrArg LE.b (nodup_inj hi he hf q))
  simp only [ltK, decide_eq_true_eq]
  omega
theorem srt_lets {l : List LE} {M : List Nat} {L : List LT} (hn : (l.map LE.b).Nodup) (hi : (l.map LE.id).Nodup) (hp : M.Perm (l.map LE.b)) (hs : Srt (ltB l) 0 M.length M) (ht : (l.map LE.tr).Perm L) (hL : SrtT L) : ∃ O : List LE, O.map LE.b = M ∧ O.Perm l ∧ O.map LE.tr = L := by
  have h1 : (M.map (letB l)).Perm l := by
    have := hp.map (letB l)
    rw [List.map_map] at this
    have e : l.map (letB l ∘ LE.b) = l := (List.map_congr_left fun e he => letB_of hn he).trans (List.map_id l)
    rw [e] at this
    exact this
  have h2 : (M.map (letB l)).map LE.b = M := by
    rw [List.map_map]
    refine (List.map_congr_left fun b hb => ?_).trans (List.map_id M)
    obtain ⟨e, he, rfl⟩ := List.mem_map.1 (hp.mem_iff.1 hb)
    show (letB l e.b).b = e.b
    rw [letB_of hn he]
  refine ⟨M.map (letB l), h2, h1, srt_eq ?_ hL ((h1.map LE.tr).trans ht)⟩
  unfold SrtT
  rw [List.pairwise_map, List.pairwise_map, List.pairwise_iff_getElem]
  intro i j hi2 hj hij
  have hd := distB hn hi (.refl l)
  have h3 := hs i j (by omega) hij hj
  have h4 := (hd.perm hp).ahead (by omega) hj (by omega) h3
  have e1 : at' M i = M[i] := by simp only [at', List.getD_eq_getElem?_getD, List.getElem?_eq_getElem (show i < M.length by omega), Option.getD_some]
  have e2 : at' M j = M[j] := by simp only [at', List.getD_eq_getElem?_getD, List.getElem?_eq_getElem hj, Option.getD_some]
  rw [e1, e2] at h4
  exact h4
set_option maxHeartbeats 4000000 in
theorem SortedN_ok {h : Heap} {bx : Nat} {u : Value} {S l : List LE} (hbx : h.get bx = .cells [u] 0) (hb : bx < h.n) (hu : Rd h 1 u (pcells (S.map LE.b)) (S.map LE.b).length) (hpe : S.Perm l) (hlen : l.length < 256) (hn : (l.map LE.b).Nodup) (hi : (l.map LE.id).Nodup) (ha : ∀ e ∈ l, h.get e.b = .cells e.cells 0 ∧ e.b < h.n) :
    Runs Try.prog T0 (.fn fn_zecQ) [.func (.func fn_zgcQ) ⟨[]⟩ ⟨[.pointer (some ⟨bx, 0, none⟩)]⟩, .func (.func fn_zobQ) ⟨[]⟩ ⟨[]⟩] h
      (fun r h' => ∃ M, M.Perm (l.map LE.b) ∧ Srt (ltB l) 0 M.length M ∧ Own h' 1 r (pcells M) M.length ∧ (∀ i, ownedBy r i → h.n ≤ i) ∧ Fr (fun _ => False) h h') (fun _ _ => False) := by
  have hsl : (S.map LE.b).length = l.length := by rw [List.length_map]; exact hpe.length_eq
  refine zecQ_runs ?_
  refine stp ?_
  refine O.call' (zbcQ_runs (R := fun r h' => Own h' 1 r (pcells (S.map LE.b)) (S.map LE.b).length ∧ (∀ i, ownedBy r i → h.n ≤ i) ∧ Fr (fun _ => False) h h') (X := fun _ _ => False) ?_) (fun r h1 hr => ?_)
  · refine stp ?_
    refine O.call' (AppendSeq_ok hbx hb hu (by omega)) (fun r h1 hr => ?_)
    refine stp ?_
    exact hr
  · obtain ⟨ho, hnew, f1⟩ := hr
    have hso := SortF_ok (fd := fn_zobQ) (lt := ltB l) (G := fun b => ∃ e ∈ l, e.b = b) ho (by omega) (ltB_ord l) (distB hn hi hpe) (fun b hb => by
      obtain ⟨e, he, rfl⟩ := List.mem_map.1 hb
      exact ⟨e, hpe.mem_iff.1 he, rfl⟩) (fun q hq => cmpB hn fun e he => ⟨by rw [f1.get _ (ha e he).2 id]; exact (ha e he).1, f1.lt (ha e he).2, fun e2 => by
      have := hnew q hq
      have := (ha e he).2
      omega⟩)
    obtain ⟨a, c, rfl, _, _⟩ := id ho.rd
    refine stp ?_
    refine O.call' hso (fun r h2 hr => ?_)
    obtain ⟨M, hM, hs, hoM, f2⟩ := hr
    refine stp ?_
    have e1 : M.length = (S.map LE.b).length := hM.length_eq
    exact ⟨M, hM.trans (hpe.map _), hs, hoM, hnew, f1.trans f2 fun i hi2 q => by have := hnew i q; omega⟩
end Go.Proofs.Ytoadcfjkkoemdaa.A

namespace Go.Proofs.Ytoadcfjkkoemdaa.A
open Go Go.Vm
set_option maxRecDepth 10000
set_option linter.unusedVariables false
section
variable {h : Heap} {p : Nat} {most : Int} {s : MS} {W : Nat → Prop}
set_option maxHeartbeats 16000000 in
theorem MList_ok (hv : MV h p most s W) (hm : most ≤ 4096) (hL : s.L.length < 256) :
    Runs Try.prog T0 (.fn fn_zyQ) [.pointer (some ⟨p, 0, none⟩)] h (fun r h' => ∃ P, P.map LE.tr = s.L ∧ LetOut h' r P ∧ (∀ i, OMine r P i → h.n ≤ i) ∧ Fr (fun _ => False) h h') (fun _ _ => False) := by
  obtain ⟨m, c, u, S, l, hs, hp, hw⟩ := hv.kp
  have hLl : s.L.length = l.length := by have := hp.length_eq; rw [List.length_map] at this; exact this.symm
  have hsl := hs.pe.length_eq
  haveI : HGet h p _ := ⟨hs.gp⟩
  obtain ⟨au, cu, rfl, _, _⟩ := id hs.ou.rd
  refine zyQ_runs ?_
  refine stp ?_
  refine O.call' (mnone_ok hs) (fun r h hr => ?_)
  obtain ⟨rfl, rfl⟩ := hr
  refine stp ?_
  refine O.call' Values_ok (fun r h1 hr => ?_)
  obtain ⟨rfl, n1, g1, f1⟩ := hr
  have hml : (S.map LE.b).length = S.length := List.length_map _
  refine stp ?_
  refine O.call' (SortedN_ok (S := S) (l := l) g1 (by omega) (by rw [hml]; exact (hs.ou.keep f1 fun _ _ => id).rd) hs.pe (by omega) hs.nd hs.ids (fun e he => ⟨by rw [f1.get _ (hs.ats e he).lt id]; exact (hs.ats e he).get, f1.lt (hs.ats e he).lt⟩)) (fun r h2 hr => ?_)
  obtain ⟨M, hM, hso, oM, hnew, f2⟩ := hr
  obtain ⟨O', hOb, hOp, hOt⟩ := srt_lets hs.nd hs.ids hM hso hp hv.iv.so
  have F2 := f1.trans' f2
  have hMO : M.length = O'.length := by rw [← hOb, List.length_map]
  have hOl : O'.length = l.length := hOp.length_eq
  obtain ⟨a2, c2, rfl, _, hc2⟩ := id oM.rd
  have n2 := F2.n
  refine stp ?_
  refine loop2 zyQ_l0_M 2 15 (fun q v2 v15 hx => ∃ (k : Nat) (P : List LE), k ≤ M.length ∧ q = M.length - k ∧ v15 = .int .i64 k ∧ LetOut hx v2 P ∧ P.map LE.tr = (O'.take k).map LE.tr ∧ (∀ i, OMine v2 P i → h2.n ≤ i) ∧ Fr (fun _ => False) h2 hx) ?_ M.length ⟨0, [], by omega, rfl, rfl, .nil, by simp, fun i hi => hi.elim (fun q => q.elim) (fun ⟨_, q, _⟩ => absurd q (by simp)), Fr.refl⟩
  rintro m v2 v15 h' x4 x5 x16 x17 x18 x19 x20 x21 x22 x23 x24 x25 x26 x27 x28 x29 x30 x31 x32 ⟨k, P, hk, rfl, rfl, ho, hPt, hPn, hF⟩
  have nF := hF.n
  obtain ⟨av, cv, rfl, _, _⟩ := id ho.ow.rd
  have hPl : P.length = k := by have := congrArg List.length hPt; rw [List.length_map, List.length_map, List.length_take] at this; omega
  rcases Nat.lt_or_ge k M.length with hlt | hge
  · haveI q1 : ∀ {ts : List Value} {h : Heap} {O : Oper} {x z : Operand} [Ev ts x (.int .i64 (k : Nat))] [Ev ts z (.int .i64 (M.length : Nat))], XOp Try.prog ts h (.bin .lss O x z) (.bool true) h := xlss1 (by omega)
    obtain ⟨q, o, sp, rfl, hq, hcc⟩ := hc2 (by omega)
    have hccx : cellsAt h' q o (M.length * 1) = some (pcells M) := (cellsAt_keep hF hq id).trans hcc
    have hcell : Cell h' q (o + k) (.pointer (some ⟨M.getD k 0, 0, none⟩)) := pcell_at hccx rfl hlt
    have hkO : k < O'.length := by omega
    have e0 : M.getD k 0 = (at' O' k).b := by rw [← hOb]; exact at_map LE.b hkO
    have hel : at' O' k ∈ l := hOp.mem_iff.1 (at_mem hkO)
    have htk : (O'.take (k + 1)).map LE.tr = (O'.take k).map LE.tr ++ [(at' O' k).tr] := by
      rw [List.take_succ_eq_append_getElem hkO, List.map_append]
      simp only [at', List.getD_eq_getElem?_getD, List.getElem?_eq_getElem hkO, Option.getD_some, List.map_singleton]
    rw [e0] at hcell
    generalize at' O' k = e at *
    have ha := (hs.ats e hel).keep (F2.trans' hF) fun _ _ => id
    have hbl : e.bs.length ≤ 65536 := (hv.iv.rg e.tr (hp.mem_iff.1 (List.mem_map.2 ⟨e, hel, rfl⟩))).2.2.2
    haveI := hcell
    obtain ⟨aw, cw, ew, _, _⟩ := id ha.own.rd
    have hget : h'.get e.b = .cells (lcells e.id e.fr e.to e.due e.w) 0 := ha.get
    have hown := ha.own
    rw [ew] at hget hown
    haveI : HGet h' e.b _ := ⟨hget⟩
    haveI : BLt e.b h' := ⟨ha.lt⟩
    refine stp ?_
    have g3 : (h'.push (.cells (lcells e.id e.fr e.to e.due (.slice aw e.bs.length cw)) 0)).get h'.n = .cells (lcells e.id e.fr e.to e.due (.slice aw e.bs.length cw)) 0 := HGet.new.eq
    have F3 : Fr (fun _ => False) h' (h'.push (.cells (lcells e.id e.fr e.to e.due (.slice aw e.bs.length cw)) 0)) := Fr.refl.push
    have n3 : (h'.push (.cells (lcells e.id e.fr e.to e.due (.slice aw e.bs.length cw)) 0)).n = h'.n + 1 := rfl
    generalize h'.push (.cells (lcells e.id e.fr e.to e.due (.slice aw e.bs.length cw)) 0) = h3 at *
    refine O.call' (Clone_ok ((hown.keep F3 fun _ _ => id).rd) (by omega)) (fun r h4 hr => ?_)
    obtain ⟨o4, f4, m4⟩ := hr
    have n4 := f4.n
    have g4 : h4.get h'.n = .cells (lcells e.id e.fr e.to e.due (.slice aw e.bs.length cw)) 0 := (f4.get _ (by omega) id).trans g3
    haveI : HGet h4 h'.n _ := ⟨g4⟩
    haveI : BLt h'.n h4 := ⟨by omega⟩
    have lt4 := fun {i : Nat} (hi : ownedBy r i) => o4.lt hi
    obtain ⟨a5, c5, rfl, _, _⟩ := id o4.rd
    refine stp ?_
    have F5 : Fr (fun i => i = h'.n) h4 (h4.set h'.n (.cells (lcells e.id e.fr e.to e.due (.slice a5 e.bs.length c5)) 0)) := Fr.refl.set fun _ => rfl
    have n5 : (h4.set h'.n (.cells (lcells e.id e.fr e.to e.due (.slice a5 e.bs.length c5)) 0)).n = h4.n := rfl
    have F35 : Fr (fun _ => False) h' (h4.set h'.n (.cells (lcells e.id e.fr e.to e.due (.slice a5 e.bs.length c5)) 0)) := (F3.trans' f4).trans F5 fun i hi e => by omega
    generalize h4.set h'.n (.cells (lcells e.id e.fr e.to e.due (.slice a5 e.bs.length c5)) 0) = h5 at *
    have ho5 := ho.keep F35 fun _ _ => id
    have o5 := o4.keep F5 fun i hi e => by have := m4 i hi; omega
    refine O.append (n := P.length) (m := 1) (d := lcells e.id e.fr e.to e.due (.slice a5 e.bs.length c5)) (ho5.ow.keep (Fr.refl.push (S := fun _ => False)) fun _ _ => id) one_let rfl rfl (by decide) (by decide) (by omega) (fun v6 h6 o6 f6 n6 => ?_)
    obtain ⟨e', he'⟩ : ∃ e' : LE, e' = ⟨0, 0, e.id, e.fr, e.to, e.due, e.bs, .slice a5 e.bs.length c5⟩ := ⟨_, rfl⟩
    have ecl : ocells P ++ lcells e.id e.fr e.to e.due (.slice a5 e.bs.length c5) = ocells (P ++ [e']) := by rw [ocells_add, he']
    have eln : P.length + 1 = (P ++ [e']).length := by simp
    rw [ecl, eln] at o6
    have F6 : Fr (ownedBy (.slice av P.length cv)) h5 h6 := (Fr.refl.push (S := ownedBy (.slice av P.length cv))).trans' f6
    have n6' : ∀ i, ownedBy v6 i → ownedBy (.slice av P.length cv) i ∨ h5.n ≤ i := fun i hi => (n6 i hi).imp id fun q => by simp at q; omega
    obtain ⟨a7, c7, rfl, _, _⟩ := id o6.rd
    refine stp ?_
    have hwn : ∀ i, ownedBy (.slice a5 e.bs.length c5) i → h'.n < i ∧ i < h5.n := fun i hi => by have := m4 i hi; have := lt4 hi; omega
    have hvl : ∀ i, ownedBy (.slice av P.length cv) i → i < h'.n := fun i hi => ho.ow.lt hi
    have hPe : ∀ f ∈ P ++ [e'], f ∈ P ∨ f = e' := fun f hf => (List.mem_append.1 hf).imp id List.mem_singleton.1
    refine loop2a 2 15 (M.length - (k + 1)) (by omega) ⟨k + 1, P ++ [e'], by omega, rfl, rfl, ⟨o6, fun f hf => ?_, fun f hf i hi q => ?_, ?_⟩, ?_, fun i hi => ?_, ?_⟩
    · rcases hPe f hf with q | q
      · exact (ho5.wt f q).keep F6 fun i hi => ho.rw f q i hi
      · rw [q, he']
        exact o5.keep F6 fun i hi q2 => by have := hwn i hi; have := hvl i q2; omega
    · rcases hPe f hf with k1 | k1
      · rcases n6' i q with k2 | k2
        · exact ho.rw f k1 i hi k2
        · have := (ho.wt f k1).lt hi; omega
      · rw [k1, he'] at hi
        have h7 := hwn i hi
        rcases n6' i q with k2 | k2
        · have := hvl i k2; omega
        · omega
    · rw [List.pairwise_append]
      refine ⟨ho.dj, by simp, fun f hf g hg i hi q => ?_⟩
      rw [List.mem_singleton.1 hg, he'] at q
      have := hwn i q
      have := (ho.wt f hf).lt hi
      omega
    · rw [List.map_append, hPt, htk, he']
      rfl
    · rcases hi with hi | ⟨f, hf, hi⟩
      · rcases n6' i hi with q | q
        · exact hPn i (.inl q)
        · omega
      · rcases hPe f hf with q | q
        · exact hPn i (.inr ⟨f, q, hi⟩)
        · rw [q, he'] at hi
          have := hwn i hi
          omega
    · exact (hF.trans' F35).trans F6 fun i hi q => by
        have h7 := hPn i (.inl q)
        omega
  · haveI q1 : ∀ {ts : List Value} {h : Heap} {O : Oper} {x z : Operand} [Ev ts x (.int .i64 (k : Nat))] [Ev ts z (.int .i64 (M.length : Nat))], XOp Try.prog ts h (.bin .lss O x z) (.bool false) h := xlss0 (by omega)
    refine stp ?_
    refine ⟨P, ?_, ho, fun i hi => by have := hPn i hi; omega, F2.trans' hF⟩
    rw [hPt, List.take_of_length_le (by omega), hOt]
end
end Go.Proofs.Ytoadcfjkkoemdaa.A

namespace Go.Proofs.Ytoadcfjkkoemdaa.A
open Go Go.Vm
set_option maxRecDepth 10000
set_option linter.unusedVariables false
theorem Rd.block_lt {h : Heap} {size n : Nat} {v : Value} {c : List Value} (hv : Rd h size v c n) {i : Nat} (hi : blockOf v i) : i < h.n := by
  obtain ⟨a, cap, rfl, _, hc⟩ := hv
  cases a with
  | none => exact hi.elim
  | some a =>
    obtain ⟨h1, h2⟩ := hi
    obtain ⟨b, o, sp, e, hb, _⟩ := hc h2
    cases e
    subst h1
    exact hb
end Go.Proofs.Ytoadcfjkkoemdaa.A

namespace Go.Proofs.Ytoadcfjkkoemdaa.A
open Go Go.Vm
set_option maxRecDepth 10000
set_option linter.unusedVariables false
structure AC where
  kind : Int
  a : Int
  b : Int
  due : Int
  bs : List UInt8
  w : Value
abbrev AC.cells (e : AC) : List Value := lcells e.kind e.a e.b e.due e.w
def acells (l : List AC) : List Value := l.flatMap AC.cells
def zAC : AC := ⟨0, 0, 0, 0, [], .slice none 0 0⟩
def ARd (h : Heap) (e : AC) : Prop := Rd h 1 e.w (bcells e.bs) e.bs.length
theorem acells_cons (a : AC) (l : List AC) : acells (a :: l) = a.cells ++ acells l := rfl
theorem acells_len : ∀ (l : List AC), (acells l).length = l.length * 5
  | [] => rfl
  | a :: l => by
    rw [acells_cons, List.length_append, acells_len l, List.length_cons]
    simp
    omega
theorem acells_at : ∀ {l : List AC} {k : Nat}, k < l.length → ((acells l).drop (k * 5)).take 5 = (l.getD k zAC).cells
  | a :: l, 0, _ => rfl
  | a :: l, k + 1, hk => by
    have h2 := acells_at (l := l) (k := k) (by simpa using hk)
    rw [acells_cons, show (k + 1) * 5 = a.cells.length + k * 5 from by simp; omega, ← List.drop_drop, List.drop_left]
    exact h2
theorem act_mem {l : List AC} {k : Nat} (hk : k < l.length) : l.getD k zAC ∈ l := by
  simp [List.getD, hk]
theorem act_take {l : List AC} {k : Nat} (hk : k < l.length) : l.take (k + 1) = l.take k ++ [l.getD k zAC] := by
  rw [List.take_succ_eq_append_getElem hk]
  simp [List.getD, hk]
theorem act_cells {h : Heap} {b o n k : Nat} {l : List AC} (hc : cellsAt h b o (n * 5) = some (acells l)) (hn : l.length = n) (hk : k < n) : Cells h b (o + k * 5) 5 (l.getD k zAC).cells := ⟨by
  rw [cellsAt_sub hc (by omega), acells_at (by omega)]⟩
def playS (t : MS × Int × Int) (e : AC) : MS × Int × Int :=
  if e.kind = 0 then ((postS 4096 t.1 e.a e.b e.due e.bs).1, if (postS 4096 t.1 e.a e.b e.due e.bs).2.2 = 0 then t.2.1 + 1 else t.2.1, t.2.2)
  else if e.kind = 1 then (comeS t.1 e.due, t.2.1, t.2.2 + (cameS t.1 e.due).length)
  else if e.kind = 2 then ((loseS t.1 e.a).1, t.2.1, t.2.2)
  else if e.kind = 3 then ((delayS t.1 e.a e.due).1, t.2.1, t.2.2)
  else if e.kind = 4 then ((swapS t.1 e.a e.b).1, t.2.1, t.2.2)
  else if e.kind = 5 then ((twiceS 4096 t.1 e.a e.due).1, if (twiceS 4096 t.1 e.a e.due).2.2 = 0 then t.2.1 + 1 else t.2.1, t.2.2)
  else t
def playL (l : List AC) : MS × Int × Int := l.foldl playS (⟨0, 0, []⟩, 0, 0)
theorem playL_add (l : List AC) (e : AC) : playL (l ++ [e]) = playS (playL l) e := by unfold playL; rw [List.foldl_append]; rfl
structure Cnt (n : Nat) (t : MS × Int × Int) : Prop where
  ok : MOK 4096 t.1
  eq : t.2.1 = t.2.2 + t.1.lost + t.1.L.length
  al : t.2.1 ≤ n
  la : t.1.last ≤ n
  ca : 0 ≤ t.2.2
theorem ins_len (x : LT) (L : List LT) : (insT x L).length = L.length + 1 := by
  rw [(ins_perm x L).length_eq, List.length_cons]
theorem move_len {k d : Int} {L : List LT} (hn : (L.map LT.id).Nodup) : (moveT k d L).length = L.length := by
  rw [(move_perm hn).length_eq]; unfold dueT; rw [List.length_map]
theorem due_nd {k d : Int} {L : List LT} (hn : (L.map LT.id).Nodup) : ((moveT k d L).map LT.id).Nodup := by
  rw [((move_perm hn).map LT.id).nodup_iff, due_ids]; exact hn
theorem less_len {k : Int} {L : List LT} (hn : (L.map LT.id).Nodup) (hf : (findT k L).isSome = true) : (lessT k L).length + 1 = L.length := by
  obtain ⟨x, hx⟩ := Option.isSome_iff_exists.1 hf
  obtain ⟨h1, h2⟩ := find_some hx
  have := (lessT_perm hn h1 h2).length_eq
  rwa [List.length_cons] at this
theorem come_len (s : MS) (now : Int) : (cameS s now).length + (comeS s now).L.length = s.L.length := by
  have := (filter_perm (fun t : LT => decide (t.due ≤ now)) s.L).length_eq
  rw [List.length_append] at this
  exact this
theorem post_ok {most : Int} {s : MS} {f t d : Int} {bs : List UInt8} (h : MOK most s) : MOK most (postS most s f t d bs).1 ∧ ((postS most s f t d bs).2.2 = 0 ∧ (postS most s f t d bs).1.last = s.last + 1 ∧ (postS most s f t d bs).1.L.length = s.L.length + 1 ∧ (postS most s f t d bs).1.lost = s.lost ∨ (postS most s f t d bs).2.2 ≠ 0 ∧ (postS most s f t d bs).1 = s) := by
  unfold postS
  split
  · exact ⟨h, .inr ⟨by simp, rfl⟩⟩
  split
  · exact ⟨h, .inr ⟨by simp, rfl⟩⟩
  split
  · exact ⟨h, .inr ⟨by simp, rfl⟩⟩
  · rename_i h1 h2 h3
    simp only [Bool.not_eq_false, Bool.and_eq_true] at h1
    exact ⟨h.add (by omega) (isEnd_iff.1 h1.1.1) (isEnd_iff.1 h1.1.2) (isDue_iff.1 h1.2) (by omega), .inl ⟨rfl, rfl, ins_len _ _, rfl⟩⟩
theorem twice_ok {most : Int} {s : MS} {k d : Int} (h : MOK most s) : MOK most (twiceS most s k d).1 ∧ ((twiceS most s k d).2.2 = 0 ∧ (twiceS most s k d).1.last = s.last + 1 ∧ (twiceS most s k d).1.L.length = s.L.length + 1 ∧ (twiceS most s k d).1.lost = s.lost ∨ (twiceS most s k d).2.2 ≠ 0 ∧ (twiceS most s k d).1 = s) := by
  unfold twiceS
  split
  · exact ⟨h, .inr ⟨by simp, rfl⟩⟩
  · rename_i x hx
    split
    · exact ⟨h, .inr ⟨by simp, rfl⟩⟩
    split
    · exact ⟨h, .inr ⟨by simp, rfl⟩⟩
    · rename_i h1 h2
      have h3 := h.rg x (find_some hx).1
      simp only [Bool.not_eq_false] at h1
      exact ⟨h.add (by omega) h3.1 h3.2.1 (isDue_iff.1 h1) h3.2.2.2, .inl ⟨rfl, rfl, ins_len _ _, rfl⟩⟩
theorem lose_ok {most : Int} {s : MS} {k : Int} (h : MOK most s) : MOK most (loseS s k).1 ∧ (loseS s k).1.last = s.last ∧ (loseS s k).1.lost + (loseS s k).1.L.length = s.lost + s.L.length := by
  unfold loseS
  have := h.k0
  split
  · rename_i hf
    have := less_len h.nd hf
    exact ⟨h.less _ _ (by omega), rfl, by show s.lost + 1 + ((lessT k s.L).length : Int) = _; omega⟩
  · exact ⟨h, rfl, rfl⟩
theorem delay_ok {most : Int} {s : MS} {k d : Int} (h : MOK most s) : MOK most (delayS s k d).1 ∧ (delayS s k d).1.last = s.last ∧ (delayS s k d).1.lost = s.lost ∧ (delayS s k d).1.L.length = s.L.length := by
  unfold delayS
  split
  · split
    · rename_i hd
      exact ⟨h.move k d (isDue_iff.1 hd), rfl, rfl, move_len h.nd⟩
    · exact ⟨h, rfl, rfl, rfl⟩
  · exact ⟨h, rfl, rfl, rfl⟩
theorem swap_ok {most : Int} {s : MS} {a b : Int} (h : MOK most s) : MOK most (swapS s a b).1 ∧ (swapS s a b).1.last = s.last ∧ (swapS s a b).1.lost = s.lost ∧ (swapS s a b).1.L.length = s.L.length := by
  unfold swapS
  split
  · rename_i x y hx hy
    have h1 := h.rg x (find_some hx).1
    have h2 := h.rg y (find_some hy).1
    have h3 := h.move a y.due h2.2.2.1
    exact ⟨h3.move b x.due h1.2.2.1, rfl, rfl, by show (moveT b x.due (moveT a y.due s.L)).length = _; rw [move_len (due_nd h.nd), move_len h.nd]⟩
  · exact ⟨h, rfl, rfl, rfl⟩
theorem Cnt.step {n : Nat} {t : MS × Int × Int} (h : Cnt n t) (e : AC) : Cnt (n + 1) (playS t e) := by
  obtain ⟨h1, h2, h3, h4, h5⟩ := h
  unfold playS
  split
  · obtain ⟨q1, ⟨q2, q3, q4, q5⟩ | ⟨q2, q3⟩⟩ := post_ok (f := e.a) (t := e.b) (d := e.due) (bs := e.bs) h1
    · rw [if_pos q2]
      exact ⟨q1, by show t.2.1 + 1 = t.2.2 + (postS _ _ _ _ _ _).1.lost + ((postS _ _ _ _ _ _).1.L.length : Nat); rw [q4, q5]; omega, by show t.2.1 + 1 ≤ _; omega, by show (postS _ _ _ _ _ _).1.last ≤ _; omega, h5⟩
    · rw [if_neg q2, q3]
      exact ⟨h1, h2, by show t.2.1 ≤ _; omega, by show t.1.last ≤ _; omega, h5⟩
  split
  · have := come_len t.1 e.due
    exact ⟨h1.less _ _ h1.k0, by show t.2.1 = t.2.2 + ((cameS t.1 e.due).length : Nat) + t.1.lost + ((comeS t.1 e.due).L.length : Nat); omega, by show t.2.1 ≤ _; omega, by show t.1.last ≤ _; omega, by show 0 ≤ t.2.2 + ((cameS t.1 e.due).length : Nat); omega⟩
  split
  · obtain ⟨q1, q2, q3⟩ := lose_ok (k := e.a) h1
    exact ⟨q1, by show t.2.1 = t.2.2 + (loseS _ _).1.lost + ((loseS _ _).1.L.length : Nat); omega, by show t.2.1 ≤ _; omega, by show (loseS _ _).1.last ≤ _; omega, h5⟩
  split
  · obtain ⟨q1, q2, q3, q4⟩ := delay_ok (k := e.a) (d := e.due) h1
    exact ⟨q1, by show t.2.1 = t.2.2 + (delayS _ _ _).1.lost + ((delayS _ _ _).1.L.length : Nat); omega, by show t.2.1 ≤ _; omega, by show (delayS _ _ _).1.last ≤ _; omega, h5⟩
  split
  · obtain ⟨q1, q2, q3, q4⟩ := swap_ok (a := e.a) (b := e.b) h1
    exact ⟨q1, by show t.2.1 = t.2.2 + (swapS _ _ _).1.lost + ((swapS _ _ _).1.L.length : Nat); omega, by show t.2.1 ≤ _; omega, by show (swapS _ _ _).1.last ≤ _; omega, h5⟩
  split
  · obtain ⟨q1, ⟨q2, q3, q4, q5⟩ | ⟨q2, q3⟩⟩ := twice_ok (k := e.a) (d := e.due) h1
    · rw [if_pos q2]
      exact ⟨q1, by show t.2.1 + 1 = t.2.2 + (twiceS _ _ _ _).1.lost + ((twiceS _ _ _ _).1.L.length : Nat); rw [q4, q5]; omega, by show t.2.1 + 1 ≤ _; omega, by show (twiceS _ _ _ _).1.last ≤ _; omega, h5⟩
    · rw [if_neg q2, q3]
      exact ⟨h1, h2, by show t.2.1 ≤ _; omega, by show t.1.last ≤ _; omega, h5⟩
  · exact ⟨h1, h2, by omega, by omega, h5⟩
theorem play_cnt : ∀ (l : List AC) (n : Nat) (t : MS × Int × Int), Cnt n t → Cnt (n + l.length) (l.foldl playS t)
  | [], n, t, h => h
  | e :: l, n, t, h => by
    have := play_cnt l (n + 1) _ (h.step e)
    rw [List.length_cons, List.foldl_cons, show n + (l.length + 1) = n + 1 + l.length from by omega]
    exact this
theorem playL_cnt (l : List AC) : Cnt l.length (playL l) := by
  have := play_cnt l 0 (⟨0, 0, []⟩, 0, 0) ⟨⟨List.Pairwise.nil, by simp, by simp, by simp, by simp, by simp, by simp⟩, rfl, by simp, by simp, by simp⟩
  rwa [Nat.zero_add] at this
theorem play_cnt_le {l : List AC} (h : l.length ≤ 40) : (playL l).1.L.length ≤ 40 ∧ (playL l).1.lost ≤ 40 ∧ (playL l).1.last ≤ 40 ∧ (playL l).2.1 ≤ 40 ∧ (playL l).2.2 ≤ 40 ∧ 0 ≤ (playL l).2.1 ∧ 0 ≤ (playL l).1.lost ∧ 0 ≤ (playL l).2.2 := by
  have h1 := playL_cnt l
  have h2 := h1.eq
  have h3 := h1.al
  have h4 := h1.la
  have h5 := h1.ca
  have h6 := h1.ok.k0
  omega
end Go.Proofs.Ytoadcfjkkoemdaa.A

namespace Go.Proofs.Ytoadcfjkkoemdaa.A
open Go Go.Vm
set_option maxRecDepth 10000
set_option linter.unusedVariables false
set_option maxHeartbeats 4000000 in
theorem mlong_ok {h : Heap} {v : Value} {l : List AC} (hv : Rd h 5 v (acells l) l.length) (hl : ∀ a ∈ l, ARd h a) :
    Runs Try.prog T0 (.fn fn_znQ) [v] h (fun r h' => (∃ b : Bool, r = .bool b ∧ (b = false → l.length ≤ 40 ∧ ∀ a ∈ l, a.bs.length ≤ 60)) ∧ h' = h) (fun _ _ => False) := by
  obtain ⟨a, cap, rfl, hlen, hc⟩ := hv
  refine znQ_runs ?_
  refine stp ?_
  refine loop1 znQ_l0_M 3 (fun q v3 h' => ∃ k : Nat, k ≤ l.length ∧ k ≤ 41 ∧ q = 41 - k ∧ v3 = .int .i64 k ∧ (∀ a ∈ l.take k, a.bs.length ≤ 60) ∧ h' = h) ?_ 41 ⟨0, by omega, by omega, rfl, rfl, by simp, rfl⟩
  rintro m v3 h' x2 x4 x5 x6 x7 x8 x9 x10 x11 x12 x13 x14 x15 x16 x17 x18 x19 x20 ⟨k, hk, hk2, rfl, rfl, hall, rfl⟩
  refine stp ?_
  refine O.dec (fun e1 => ?_) (fun e1 => ?_)
  · have hlt : k < l.length := by omega
    refine stp ?_
    refine C.if (fun e2 => ?_) (fun e2 => ?_)
    · obtain ⟨b, o, sp, rfl, hb, hcc⟩ := hc (by omega)
      have hcel := act_cells hcc rfl hlt
      have hm := hl _ (act_mem hlt)
      have hat := act_take hlt
      generalize l.getD k zAC = A at *
      obtain ⟨aw, cw, ew, _, _⟩ := id hm
      have hcel : Cells h' b (o + k * 5) 5 (lcells A.kind A.a A.b A.due (.slice aw A.bs.length cw)) := by rw [← ew]; exact hcel
      haveI : Cell h' b (o + k * 5 + 4) (.slice aw A.bs.length cw) := ⟨by rw [cellsAt_sub hcel.eq (by omega)]; rfl⟩
      refine stp ?_
      refine C.if (fun e3 => ?_) (fun e3 => ?_)
      · refine stp ?_
        exact ⟨⟨true, rfl, fun e => by cases e⟩, rfl⟩
      · refine stp ?_
        refine loop1a 3 (41 - (k + 1)) (by omega) ⟨k + 1, by omega, by omega, rfl, rfl, ?_, rfl⟩
        rw [hat]
        intro x hx
        rcases List.mem_append.1 hx with hx | hx
        · exact hall x hx
        · rw [List.mem_singleton.1 hx]; omega
    · refine stp ?_
      exact ⟨⟨_, rfl, fun e => by have := of_decide_eq_false e; omega⟩, rfl⟩
  · refine stp ?_
    have hkl : k = l.length := by omega
    exact ⟨⟨_, rfl, fun e => ⟨by have := of_decide_eq_false e; omega, fun a ha => hall a (by rw [List.take_of_length_le (by omega)]; exact ha)⟩⟩, rfl⟩
theorem After.step {h hx hy : Heap} {p : Nat} {most : Int} {s' : MS} {W : Nat → Prop} (ha : After hx p most W s' hy) (hW : ∀ i, W i → h.n ≤ i) (hF : Fr (fun _ => False) h hx) : ∃ W', MV hy p most s' W' ∧ (∀ i, W' i → h.n ≤ i) ∧ Fr (fun _ => False) h hy := by
  obtain ⟨W', h1, h2, h3⟩ := ha
  have := hF.n
  exact ⟨W', h1, fun i hi => (h2 i hi).elim (hW i) fun q => by omega, hF.trans h3 fun i hi q => by have := hW i q; omega⟩
set_option maxHeartbeats 64000000 in
theorem played_ok {h : Heap} {v : Value} {l : List AC} (hv : Rd h 5 v (acells l) l.length) (hl : ∀ a ∈ l, ARd h a) (h60 : ∀ a ∈ l, a.bs.length ≤ 60) (h40 : l.length ≤ 40) :
    Runs Try.prog T0 (.fn fn_zoQ) [v] h (fun r h' => ∃ p W, r = .tuple ⟨[.pointer (some ⟨p, 0, none⟩), .int .i64 (playL l).2.1, .int .i64 (playL l).2.2]⟩ ∧ MV h' p 4096 (playL l).1 W ∧ (∀ i, W i → h.n ≤ i) ∧ Fr (fun _ => False) h h') (fun _ _ => False) := by
  obtain ⟨a, cap, rfl, hlen, hc⟩ := hv
  refine zoQ_runs ?_
  refine stp ?_
  refine O.call' MNew_ok (fun r h1 hr => ?_)
  obtain ⟨f1, ⟨hbad, _⟩ | ⟨_, p, W, rfl, hm, hW⟩⟩ := hr
  · omega
  refine stp ?_
  refine loop3 zoQ_l0_M 7 8 9 (fun q v7 v8 v9 hx => ∃ (k : Nat) (W : Nat → Prop), k ≤ l.length ∧ q = l.length - k ∧ v7 = .int .i64 (playL (l.take k)).2.1 ∧ v8 = .int .i64 (playL (l.take k)).2.2 ∧ v9 = .int .i64 k ∧ MV hx p 4096 (playL (l.take k)).1 W ∧ (∀ i, W i → h.n ≤ i) ∧ Fr (fun _ => False) h hx) ?_ l.length ⟨0, W, by omega, rfl, rfl, rfl, rfl, hm, hW, f1⟩
  clear hm hW W f1 h1
  rintro m v7 v8 v9 h' x10 x11 x12 x13 x14 x21 x22 x23 x24 x25 x26 x27 x28 x29 x30 x31 x32 x33 x34 x35 x36 x37 x38 x39 x40 x41 x42 x43 x44 x45 x46 x47 x48 x49 x50 x51 x52 x53 x54 x55 x56 x57 x58 x59 x60 x61 x62 x63 x64 x65 x66 x67 x68 x69 x70 x71 x72 x73 x74 x75 x76 x77 x78 x79 x80 x81 x82 x83 x84 x85 x86 x87 x88 x89 x90 x91 x92 x93 x94 x95 x96 x97 ⟨k, W, hk, rfl, rfl, rfl, rfl, hm, hW, hF⟩
  rcases Nat.lt_or_ge k l.length with hlt | hge
  case inr =>
    haveI q1 : ∀ {ts : List Value} {h : Heap} {O : Oper} {x z : Operand} [Ev ts x (.int .i64 (k : Nat))] [Ev ts z (.int .i64 (l.length : Nat))], XOp Try.prog ts h (.bin .lss O x z) (.bool false) h := xlss0 (by omega)
    refine stp ?_
    have e : l.take k = l := List.take_of_length_le (by omega)
    exact ⟨p, W, by rw [e], by rw [e] at hm; exact hm, hW, hF⟩
  haveI q1 : ∀ {ts : List Value} {h : Heap} {O : Oper} {x z : Operand} [Ev ts x (.int .i64 (k : Nat))] [Ev ts z (.int .i64 (l.length : Nat))], XOp Try.prog ts h (.bin .lss O x z) (.bool true) h := xlss1 (by omega)
  obtain ⟨b, o, sp, rfl, hb, hcc⟩ := hc (by omega)
  have hcc' : cellsAt h' b o (l.length * 5) = some (acells l) := (cellsAt_keep hF hb id).trans hcc
  have hcel := act_cells hcc' rfl hlt
  have hrd := hl _ (act_mem hlt)
  have h6 := h60 _ (act_mem hlt)
  have hat := act_take hlt
  have hlt1 := play_cnt_le (l := l.take k) (by rw [List.length_take]; omega)
  have hst : playL (l.take (k + 1)) = playS (playL (l.take k)) (l.getD k zAC) := by rw [hat, playL_add]
  generalize l.getD k zAC = A at *
  generalize playL (l.take k) = t at *
  obtain ⟨aw, cw, ew, _, _⟩ := id hrd
  have hcel : Cells h' b (o + k * 5) 5 (lcells A.kind A.a A.b A.due (.slice aw A.bs.length cw)) := by rw [← ew]; exact hcel
  haveI := hcel
  have hrd' : Rd h 1 (.slice aw A.bs.length cw) (bcells A.bs) A.bs.length := by rw [← ew]; exact hrd
  have nF := hF.n
  refine stp ?_
  have hbl : ∀ i, blockOf (.slice aw A.bs.length cw) i → i < h.n := fun i hi => Rd.block_lt hrd' hi
  have F3 : Fr (fun _ => False) h' (h'.push (.cells [.int .i64 A.kind, .int .i64 A.a, .int .i64 A.b, .int .i64 A.due, .slice aw A.bs.length cw] 0)) := Fr.refl.push
  have g3 : (h'.push (.cells [.int .i64 A.kind, .int .i64 A.a, .int .i64 A.b, .int .i64 A.due, .slice aw A.bs.length cw] 0)).get h'.n = .cells [.int .i64 A.kind, .int .i64 A.a, .int .i64 A.b, .int .i64 A.due, .slice aw A.bs.length cw] 0 := HGet.new.eq
  have n3 : (h'.push (.cells [.int .i64 A.kind, .int .i64 A.a, .int .i64 A.b, .int .i64 A.due, .slice aw A.bs.length cw] 0)).n = h'.n + 1 := rfl
  generalize h'.push (.cells [.int .i64 A.kind, .int .i64 A.a, .int .i64 A.b, .int .i64 A.due, .slice aw A.bs.length cw] 0) = h3 at *
  have F0 := hF.trans' F3
  have hm3 := hm.keep F3 fun _ _ => id
  have hrd3 := hrd'.keep F0 fun _ _ => id
  refine cut2 [0, 0, 0, 0, 0, 0, 0, 2, 2, 0, 0, 1, 1, 1, 1, 0, 0, 0, 0, 0, 0, 0, 0, 0, 0, 0, 0, 0, 0, 0, 0, 0, 0, 0, 0, 1, 1, 1, 1, 1, 1, 1, 1, 1, 1, 1, 1, 1, 1, 1, 1, 1, 1, 1, 1, 1, 1, 1, 1, 1, 1, 1, 1, 1, 1, 1, 1, 1, 1, 1, 1, 1, 1, 1, 1, 1, 1, 1, 1, 1, 1, 1, 1, 1, 1, 1, 1, 1, 1, 1, 1, 1, 1, 1, 1, 1, 1, 1, 0, 0, 0] .normal (fun v w hz => v = .int .i64 (playS t A).2.1 ∧ w = .int .i64 (playS t A).2.2 ∧ ∃ W', MV hz p 4096 (playS t A).1 W' ∧ (∀ i, W' i → h.n ≤ i) ∧ Fr (fun _ => False) h hz) ?_ ?_
  · haveI : HGet h3 h'.n _ := ⟨g3⟩
    refine C.if (fun hk0 => ?_) (fun hk0 => ?_)
    · have ep : playS t A = ((postS 4096 t.1 A.a A.b A.due A.bs).1, if (postS 4096 t.1 A.a A.b A.due A.bs).2.2 = 0 then t.2.1 + 1 else t.2.1, t.2.2) := by unfold playS; rw [if_pos hk0]
      rw [ep]
      refine stp ?_
      refine O.call' (Post_ok hm3 (by omega) (by omega) hrd3 (by omega) (fun i hi q => by have := hbl i hi; have := hW i q; omega)) (fun r h5 hr => ?_)
      obtain ⟨rfl, ha⟩ := hr
      obtain ⟨W', hm5, hW5, hF5⟩ := ha.step hW F0
      refine stp ?_
      refine C.if (fun he => ?_) (fun he => ?_)
      · refine stp ?_
        exact cutQ2.out 7 8 ⟨by rw [if_pos he], rfl, W', hm5, hW5, hF5⟩
      · refine stp ?_
        exact cutQ2.out 7 8 ⟨by rw [if_neg he], rfl, W', hm5, hW5, hF5⟩
    refine stp ?_
    refine C.if (fun hk1 => ?_) (fun hk1 => ?_)
    · have ep : playS t A = (comeS t.1 A.due, t.2.1, t.2.2 + ((cameS t.1 A.due).length : Int)) := by unfold playS; rw [if_neg hk0]; rw [if_pos hk1]
      rw [ep]
      refine stp ?_
      refine O.call' (Come_ok hm3 (by omega)) (fun r h5 hr => ?_)
      obtain ⟨Z, W', hZ, hm5, hW5, hF5, hlo, _, _⟩ := hr
      obtain ⟨W'', hm5, hW5, hF5⟩ := After.step ⟨W', hm5, hW5, hF5⟩ hW F0
      have hZl : Z.length = (cameS t.1 A.due).length := by rw [← hZ, List.length_map]
      have hcl := come_len t.1 A.due
      rw [← hZl]
      obtain ⟨av, cv, rfl, _, _⟩ := id hlo.ow.rd
      refine stp ?_
      exact cutQ2.out 7 8 ⟨rfl, rfl, W'', hm5, hW5, hF5⟩
    refine stp ?_
    refine C.if (fun hk2 => ?_) (fun hk2 => ?_)
    · have ep : playS t A = ((loseS t.1 A.a).1, t.2.1, t.2.2) := by unfold playS; rw [if_neg hk0]; rw [if_neg hk1]; rw [if_pos hk2]
      rw [ep]
      refine stp ?_
      refine O.call' (Lose_ok hm3 (by omega) (by omega)) (fun r h5 hr => ?_)
      obtain ⟨rfl, ha⟩ := hr
      obtain ⟨W', hm5, hW5, hF5⟩ := ha.step hW F0
      refine stp ?_
      exact cutQ2.out 7 8 ⟨rfl, rfl, W', hm5, hW5, hF5⟩
    refine stp ?_
    refine C.if (fun hk3 => ?_) (fun hk3 => ?_)
    · have ep : playS t A = ((delayS t.1 A.a A.due).1, t.2.1, t.2.2) := by unfold playS; rw [if_neg hk0]; rw [if_neg hk1]; rw [if_neg hk2]; rw [if_pos hk3]
      rw [ep]
      refine stp ?_
      refine O.call' (Delay_ok hm3 (by omega)) (fun r h5 hr => ?_)
      obtain ⟨rfl, ha⟩ := hr
      obtain ⟨W', hm5, hW5, hF5⟩ := ha.step hW F0
      refine stp ?_
      exact cutQ2.out 7 8 ⟨rfl, rfl, W', hm5, hW5, hF5⟩
    refine stp ?_
    refine C.if (fun hk4 => ?_) (fun hk4 => ?_)
    · have ep : playS t A = ((swapS t.1 A.a A.b).1, t.2.1, t.2.2) := by unfold playS; rw [if_neg hk0]; rw [if_neg hk1]; rw [if_neg hk2]; rw [if_neg hk3]; rw [if_pos hk4]
      rw [ep]
      refine stp ?_
      refine O.call' (Swap_ok hm3 (by omega)) (fun r h5 hr => ?_)
      obtain ⟨rfl, ha⟩ := hr
      obtain ⟨W', hm5, hW5, hF5⟩ := ha.step hW F0
      refine stp ?_
      exact cutQ2.out 7 8 ⟨rfl, rfl, W', hm5, hW5, hF5⟩
    refine stp ?_
    refine C.if (fun hk5 => ?_) (fun hk5 => ?_)
    · have ep : playS t A = ((twiceS 4096 t.1 A.a A.due).1, if (twiceS 4096 t.1 A.a A.due).2.2 = 0 then t.2.1 + 1 else t.2.1, t.2.2) := by unfold playS; rw [if_neg hk0]; rw [if_neg hk1]; rw [if_neg hk2]; rw [if_neg hk3]; rw [if_neg hk4]; rw [if_pos hk5]
      rw [ep]
      refine stp ?_
      refine O.call' (Twice_ok hm3 (by omega) (by omega)) (fun r h5 hr => ?_)
      obtain ⟨rfl, ha⟩ := hr
      obtain ⟨W', hm5, hW5, hF5⟩ := ha.step hW F0
      refine stp ?_
      refine C.if (fun he => ?_) (fun he => ?_)
      · refine stp ?_
        exact cutQ2.out 7 8 ⟨by rw [if_pos he], rfl, W', hm5, hW5, hF5⟩
      · refine stp ?_
        exact cutQ2.out 7 8 ⟨by rw [if_neg he], rfl, W', hm5, hW5, hF5⟩
    refine stp ?_
    have ep : playS t A = t := by unfold playS; rw [if_neg hk0, if_neg hk1, if_neg hk2, if_neg hk3, if_neg hk4, if_neg hk5]
    rw [ep]
    exact cutQ2.out 7 8 ⟨rfl, rfl, W, hm3, hW, F0⟩
  · intro v w hz x11 x12 x13 x14 x35 x36 x37 x38 x39 x40 x41 x42 x43 x44 x45 x46 x47 x48 x49 x50 x51 x52 x53 x54 x55 x56 x57 x58 x59 x60 x61 x62 x63 x64 x65 x66 x67 x68 x69 x70 x71 x72 x73 x74 x75 x76 x77 x78 x79 x80 x81 x82 x83 x84 x85 x86 x87 x88 x89 x90 x91 x92 x93 x94 x95 x96 x97 ⟨e1, e2, W', hm', hW', hF'⟩
    subst e1 e2
    refine stp ?_
    exact loop3a 7 8 9 (l.length - (k + 1)) (by omega) ⟨k + 1, W', by omega, rfl, by rw [hst], by rw [hst], rfl, by rw [hst]; exact hm', hW', hF'⟩
end Go.Proofs.Ytoadcfjkkoemdaa.A

namespace Go.Proofs.Ytoadcfjkkoemdaa.A
open Go Go.Vm
set_option maxRecDepth 10000
set_option linter.unusedVariables false
section
variable {P : Program} {ts : List Value} {h : Heap} {x y : Operand}
end
theorem ocells_at : ∀ {l : List LE} {k : Nat}, k < l.length → ((ocells l).drop (k * 5)).take 5 = (at' l k).cells
  | a :: l, 0, _ => rfl
  | a :: l, k + 1, hk => by
    have h2 := ocells_at (l := l) (k := k) (by simpa using hk)
    show ((a.cells ++ ocells l).drop ((k + 1) * 5)).take 5 = _
    rw [show (k + 1) * 5 = a.cells.length + k * 5 from by simp; omega, ← List.drop_drop, List.drop_left, h2]
    rfl
theorem let_cell {h : Heap} {b o n k i : Nat} {l : List LE} {v : Value} (hc : cellsAt h b o (n * 5) = some (ocells l)) (hn : l.length = n) (hk : k < n) (hi : i < 5) (hv : ((at' l k).cells.drop i).take 1 = [v]) : Cell h b (o + k * 5 + i) v := ⟨by
  have h1 : cellsAt h b (o + k * 5) 5 = some (at' l k).cells := by rw [cellsAt_sub hc (by omega), ocells_at (by omega)]
  rw [cellsAt_sub h1 (by omega)]
  exact congrArg some hv⟩
end Go.Proofs.Ytoadcfjkkoemdaa.A

namespace Go.Proofs.Ytoadcfjkkoemdaa.A
open Go Go.Vm
set_option maxRecDepth 10000
set_option linter.unusedVariables false
theorem u8nat {n : Nat} (h : n < 256) : (UInt8.ofNat n).toNat = n := by
  rw [UInt8.toNat_ofNat']
  exact Nat.mod_eq_of_lt h
end Go.Proofs.Ytoadcfjkkoemdaa.A

namespace Go.Proofs.Ytoadcfjkkoemdaa.A
open Go Go.Vm
set_option maxRecDepth 10000
set_option linter.unusedVariables false
theorem SameBytes_ok {h : Heap} {v w : Value} {a b : List UInt8} (hv : Rd h 1 v (bcells a) a.length) (hw : Rd h 1 w (bcells b) b.length) :
    Runs Try.prog T0 (.fn fn_ziQ) [v, w] h (fun r h' => r = .bool (decide (a = b)) ∧ h' = h) (fun _ _ => False) := by
  refine ziQ_runs ?_
  refine stp ?_
  refine O.how (XOp.mkStr hv) ?_
  refine stp ?_
  refine O.how (XOp.mkStr hw) ?_
  refine stp ?_
  refine ⟨?_, rfl⟩
  congr 1
  rw [ByteArray.toList_eq, ByteArray.toList_eq]
  show (a == b) = decide (a = b)
  by_cases e : a = b
  · subst e; simp
  · simp [e]
theorem fits_bytes {h : Heap} {m : Nat} {te : TypeId} {c : List Value} {len : Nat} (hu : Try.prog.underlying te = some (.int .u8)) (hs : Try.prog.cellsOf te = 1) (hl : c.length = len * Try.prog.cellsOf te) (hall : ∀ i, i < len → Fits Try.prog h (m + 1) te ((c.drop (i * Try.prog.cellsOf te)).take (Try.prog.cellsOf te))) : ∃ bs : List UInt8, c = bcells bs ∧ bs.length = len := by
  rw [hs, Nat.mul_one] at hl
  induction c generalizing len with
  | nil => exact ⟨[], rfl, by simpa using hl⟩
  | cons v c ih =>
    cases len with
    | zero => simp at hl
    | succ len =>
      have h0 := hall 0 (by omega)
      rw [hs] at h0
      unfold Fits at h0
      rw [hu] at h0
      simp only [Nat.zero_mul, List.drop_zero, List.take_succ_cons, List.take_zero] at h0
      obtain ⟨x, hx, hwf⟩ := h0
      injection hx with hx _
      obtain ⟨bs, rfl, hb⟩ := ih (len := len) (by simpa using hl) fun i hi => by
        have := hall (i + 1) (by omega)
        rw [hs] at this ⊢
        simpa using this
      have hr : 0 ≤ x ∧ x ≤ 255 := by
        simp [Lit.wf, IntKind.min, IntKind.max, IntKind.signed, IntKind.bits] at hwf
        omega
      refine ⟨UInt8.ofNat x.toNat :: bs, ?_, by simp [hb]⟩
      rw [hx]
      show Value.int .u8 x :: bcells bs = Value.int .u8 ((UInt8.ofNat x.toNat).toNat : Nat) :: bcells bs
      rw [u8nat (by omega)]
      congr 2
      omega
theorem fits_slice {h : Heap} {m : Nat} {t te : TypeId} {v : Value} (ht : Try.prog.underlying t = some (.slice te)) (hu : Try.prog.underlying te = some (.int .u8)) (hs : Try.prog.cellsOf te = 1) (hv : FitsV Try.prog h (m + 2) t v) : ∃ bs : List UInt8, Rd h 1 v (bcells bs) bs.length := by
  unfold FitsV at hv
  rw [ht] at hv
  unfold Fits at hv
  rw [ht] at hv
  rcases hv with hv | ⟨b, len, cap, c, hv, hb, hlc, hcap, hro, hl, hall⟩
  · injection hv with hv
    subst hv
    exact ⟨[], Rd.nil⟩
  · injection hv with hv
    subst hv
    obtain ⟨bs, rfl, hbl⟩ := fits_bytes hu hs hl hall
    refine ⟨bs, _, _, by rw [hbl], by simp [bcells], fun hn => ⟨b, 0, none, rfl, hb, ?_⟩⟩
    rw [cellsAt_of (c := bcells bs) (by rw [hro (by omega)]; rfl) (by simp [bcells]), List.drop_zero, List.take_of_length_le (by simp [bcells])]
end Go.Proofs.Ytoadcfjkkoemdaa.A

namespace Go.Proofs.Ytoadcfjkkoemdaa.A
open Go Go.Vm
set_option maxRecDepth 10000
set_option linter.unusedVariables false
end Go.Proofs.Ytoadcfjkkoemdaa.A

namespace Go.Proofs.Ytoadcfjkkoemdaa.A
open Go Go.Vm
set_option maxRecDepth 10000
set_option linter.unusedVariables false
def LetRd (h : Heap) (r : Value) (O : List LE) : Prop := Rd h 5 r (ocells O) O.length ∧ ∀ e ∈ O, Rd h 1 e.w (bcells e.bs) e.bs.length
theorem LetOut.lr {h : Heap} {r : Value} {O : List LE} (ho : LetOut h r O) : LetRd h r O := ⟨ho.ow.rd, fun e he => (ho.wt e he).rd⟩
set_option maxHeartbeats 16000000 in
theorem SameLs_ok {h : Heap} {r s : Value} {X Y : List LE} (hr : LetRd h r X) (hs : LetRd h s Y) (he : X.map LE.tr = Y.map LE.tr) (hl : X.length < 1000000) :
    Runs Try.prog T0 (.fn fn_zjQ) [r, s] h (fun r h' => r = .bool true ∧ h' = h) (fun _ _ => False) := by
  obtain ⟨hr, hrb⟩ := hr
  obtain ⟨hs, hsb⟩ := hs
  obtain ⟨a1, c1, rfl, _, hc1⟩ := id hr
  obtain ⟨a2, c2, rfl, _, hc2⟩ := id hs
  have hXY : X.length = Y.length := by have := congrArg List.length he; rwa [List.length_map, List.length_map] at this
  haveI qs : ∀ {ts : List Value} {h : Heap} {O : Oper} {x z : Operand} {p : Int} [Ev ts x (.int .i64 p)] [Ev ts z (.int .i64 p)], XOp Try.prog ts h (.bin .eql O x z) (.bool true) h := xeql1 rfl
  haveI q0 : ∀ {ts : List Value} {h : Heap} {O : Oper} {x z : Operand} [Ev ts x (.int .i64 (X.length : Nat))] [Ev ts z (.int .i64 (Y.length : Nat))], XOp Try.prog ts h (.bin .eql O x z) (.bool true) h := xeql1 (by omega)
  refine zjQ_runs ?_
  refine stp ?_
  refine loop2 zjQ_l0_M 5 6 (fun q v5 v6 hx => ∃ k : Nat, k ≤ X.length ∧ q = X.length - k ∧ v5 = .bool true ∧ v6 = .int .i64 k ∧ hx = h) ?_ X.length ⟨0, by omega, rfl, rfl, rfl, rfl⟩
  rintro m v5 v6 h' x12 x13 x14 x15 x16 x17 x18 x19 x20 x21 x22 x23 x24 x25 x26 x27 x28 x29 x30 x31 x32 x33 x34 x35 x36 x37 x38 x39 x40 x41 x42 x43 x44 x45 x46 x47 x48 x49 x50 x51 x52 x53 x54 x55 x56 x57 x58 x59 x60 x61 x62 x63 x64 x65 x66 x67 x68 x69 x70 x71 x72 x73 x74 x75 x76 x77 x78 x79 x80 x81 x82 x83 ⟨k, hk, rfl, rfl, rfl, rfl⟩
  rcases Nat.lt_or_ge k X.length with hlt | hge
  · haveI q1 : ∀ {ts : List Value} {h : Heap} {O : Oper} {x z : Operand} [Ev ts x (.int .i64 (k : Nat))] [Ev ts z (.int .i64 (X.length : Nat))], XOp Try.prog ts h (.bin .lss O x z) (.bool true) h := xlss1 (by omega)
    obtain ⟨b1, o1, sp1, rfl, hb1, hcc1⟩ := hc1 (by omega)
    obtain ⟨b2, o2, sp2, rfl, hb2, hcc2⟩ := hc2 (by omega)
    have hkY : k < Y.length := by omega
    have e1 : (at' X k).tr = (at' Y k).tr := by
      have h1 : (X.map LE.tr)[k]? = (Y.map LE.tr)[k]? := by rw [he]
      rw [List.getElem?_map, List.getElem?_map, List.getElem?_eq_getElem hlt, List.getElem?_eq_getElem hkY] at h1
      simp only [Option.map_some, Option.some.injEq] at h1
      rw [show at' X k = X[k] from by simp [at', List.getD, hlt], show at' Y k = Y[k] from by simp [at', List.getD, hkY]]
      exact h1
    have m1 := hrb _ (at_mem hlt)
    have m2 := hsb _ (at_mem hkY)
    have c0 := fun {i : Nat} {v : Value} (hi : i < 5) (hv : ((at' X k).cells.drop i).take 1 = [v]) => let_cell hcc1 rfl hlt hi hv
    have d0 := fun {i : Nat} {v : Value} (hi : i < 5) (hv : ((at' Y k).cells.drop i).take 1 = [v]) => let_cell hcc2 rfl hkY hi hv
    generalize at' X k = e at *
    generalize at' Y k = f at *
    obtain ⟨eb, et, i, fr, to, d, bs, w⟩ := e
    obtain ⟨fb, ft, i', fr', to', d', bs', w'⟩ := f
    simp only [LE.tr, LT.mk.injEq] at e1
    obtain ⟨rfl, rfl, rfl, rfl, rfl⟩ := e1
    haveI := c0 (i := 0) (v := .int .i64 i) (by omega) rfl
    haveI := c0 (i := 1) (v := .int .i64 fr) (by omega) rfl
    haveI := c0 (i := 2) (v := .int .i64 to) (by omega) rfl
    haveI := c0 (i := 3) (v := .int .i64 d) (by omega) rfl
    haveI := c0 (i := 4) (v := w) (by omega) rfl
    haveI := d0 (i := 0) (v := .int .i64 i) (by omega) rfl
    haveI := d0 (i := 1) (v := .int .i64 fr) (by omega) rfl
    haveI := d0 (i := 2) (v := .int .i64 to) (by omega) rfl
    haveI := d0 (i := 3) (v := .int .i64 d) (by omega) rfl
    haveI := d0 (i := 4) (v := w') (by omega) rfl
    refine stp ?_
    repeat (refine D.howT (XOp.mkIndexSl (by omega)) rfl ?_; refine stp ?_)
    refine D.callT (Runs.mono (SameBytes_ok m1 m2) (fun r h' hh => (⟨by rw [hh.1]; simp, hh.2⟩ : r = .bool true ∧ h' = _)) (fun _ _ h => h)) (fun r h3 hr => rfl) (fun r h3 hr => ?_)
    obtain ⟨rfl, rfl⟩ := hr
    refine stp ?_
    exact loop2a 5 6 (X.length - (k + 1)) (by omega) ⟨k + 1, by omega, rfl, rfl, rfl, rfl⟩
  · haveI q1 : ∀ {ts : List Value} {h : Heap} {O : Oper} {x z : Operand} [Ev ts x (.int .i64 (k : Nat))] [Ev ts z (.int .i64 (X.length : Nat))], XOp Try.prog ts h (.bin .lss O x z) (.bool false) h := xlss0 (by omega)
    refine stp ?_
    exact ⟨rfl, rfl⟩
end Go.Proofs.Ytoadcfjkkoemdaa.A

set_option maxRecDepth 100000
set_option linter.unusedVariables false
namespace Go.Proofs.Ytoadcfjkkoemdaa.A
open Go Go.Vm
abbrev fn_zmQ : FuncId := 8
def zmQ_l0 : ACode :=
 (.seq (.seq (.region [
 o1 56 (.mov (tm 16)),
 o1 57 (.mov (tm 15)),
 o1 58 (.lenSl (tm 57)),
 o1 59 (.bin .lss (so (.binOp .lss 3 (tm 56) (tm 58) 3) 4) (tm 56) (tm 58))]) (.cond (tm 59)
 .skip
 (.exit 0))) (.seq (.block 1 (.seq (.region [
 o1 62 (.mov (tm 15)),
 o1 63 (.mov (tm 16)),
 o1 64 (.indexSl 5 (tm 62) (tm 63)),
 o1 65 (.fieldAddr 3 (tm 64)),
 o1 66 (.load none (tm 65)),
 o1 67 (.mov (tm 2)),
 o1 68 (.bin .gtr (so (.binOp .gtr 3 (tm 66) (tm 67) 3) 4) (tm 66) (tm 67))]) (.cond (tm 68)
 (.seq (.region [
 o1 6 (.mov (.const (.bool false)))]) .ret)
 .skip))) (.region [
 o1 60 (.mov (tm 16)),
 o1 61 (.bin .add (so (.binOp .add 3 (tm 60) (.const (.int .i64 1)) 3) 3) (tm 60) (.const (.int .i64 1))),
 o1 16 (.mov (tm 61))])))
def zmQ_c : ACode :=
 (.seq (.region [
 o1 6 (.mov (.const (.bool false)))]) (.seq (.region [
 o1 19 (.callV (.func 3) []),
 o1 7 (.mov (tm 19))]) (.seq (.seq (.region [
 o1 20 (.mov (tm 0)),
 o1 21 (.callV (.func 23) [(tm 20)])]) (.cond (tm 21)
 (.seq (.region [
 o1 22 (.mov (tm 7)),
 o1 6 (.mov (tm 22))]) .ret)
 .skip)) (.seq (.seq (.region [
 o1 23 (.mov (tm 1)),
 o1 24 (.mov (tm 2)),
 o1 25 (.bin .gtr (so (.binOp .gtr 3 (tm 23) (tm 24) 3) 4) (tm 23) (tm 24))]) (.cond (tm 25)
 (.region [
 o1 26 (.mov (tm 2)),
 o1 27 (.mov (tm 1)),
 o1 1 (.mov (tm 26)),
 o1 2 (.mov (tm 27))])
 .skip)) (.seq (.region [
 o1 29 (.mov (tm 0)),
 o1 30 (.callV (.func 37) [(tm 29)]),
 o1 28 (.mov (tm 30)),
 o1 31 (.extract 0 (tm 28)),
 o1 32 (.extract 1 (tm 28)),
 o1 33 (.extract 2 (tm 28)),
 o1 8 (.mov (tm 31)),
 o1 9 (.mov (tm 32)),
 o1 10 (.mov (tm 33))]) (.seq (.region [
 o1 35 (.mov (tm 0)),
 o1 36 (.callV (.func 37) [(tm 35)]),
 o1 34 (.mov (tm 36)),
 o1 37 (.extract 0 (tm 34)),
 o1 38 (.extract 1 (tm 34)),
 o1 39 (.extract 2 (tm 34)),
 o1 11 (.mov (tm 37)),
 o1 12 (.mov (tm 38)),
 o1 13 (.mov (tm 39))]) (.seq (.seq (.region [
 o1 40 (.mov (tm 8)),
 o1 41 (.eq .ptr false (so (.binOp .eql 22 (tm 40) (.const (.pointer none)) 22) 4) (tm 40) (.const (.pointer none))),
 o1 42 (.mov (tm 41)),
 o5 43 (.mov (tm 11)) 42,
 o5 44 (.eq .ptr false (so (.binOp .eql 22 (tm 43) (.const (.pointer none)) 22) 4) (tm 43) (.const (.pointer none))) 42,
 o1 45 (.pick (tm 42) (.const (.bool true)) (tm 44))]) (.cond (tm 45)
 (.seq (.region [
 o1 6 (.mov (.const (.bool false)))]) .ret)
 .skip)) (.seq (.region [
 o1 46 (.mov (tm 8)),
 o1 47 (.mov (tm 1)),
 o1 48 (.callV (.func 27) [(tm 46), (tm 47)]),
 o1 49 (.mov (tm 8)),
 o1 50 (.mov (tm 2)),
 o1 51 (.callV (.func 27) [(tm 49), (tm 50)]),
 o1 52 (.append 58 5 56 [(.int .i64 0), (.int .i64 0), (.int .i64 0), (.int .i64 0), (.slice none 0 0)] false (tm 48) (tm 51)),
 o1 14 (.mov (tm 52))]) (.seq (.region [
 o1 53 (.mov (tm 11)),
 o1 54 (.mov (tm 2)),
 o1 55 (.callV (.func 27) [(tm 53), (tm 54)]),
 o1 15 (.mov (tm 55))]) (.seq (.seq (.region [
 o1 16 (.mov k0)]) (.block 0 (.loop zmQ_l0))) (.seq (.region [
 o1 70 (.mov (tm 11)),
 o1 71 (.callV (.func 15) [(tm 70)]),
 o1 69 (.mov (tm 71)),
 o1 72 (.extract 0 (tm 69)),
 o1 73 (.extract 1 (tm 69)),
 o1 17 (.mov (tm 72)),
 o1 18 (.mov (tm 73))]) (.seq (.region [
 o1 74 (.mov (tm 7)),
 o1 75 (.mov (tm 74)),
 o4 76 (.mov (tm 14)) 75,
 o4 77 (.mov (tm 15)) 75,
 o4 78 (.callV (.func 21) [(tm 76), (tm 77)]) 75,
 o1 79 (.pick (tm 75) (tm 78) (.const (.bool false))),
 o1 80 (.mov (tm 79)),
 o4 81 (.mov (tm 8)) 80,
 o4 82 (.callV (.func 22) [(tm 81)]) 80,
 o4 83 (.mov (tm 11)) 80,
 o4 84 (.callV (.func 22) [(tm 83)]) 80,
 o4 85 (.callV (.func 21) [(tm 82), (tm 84)]) 80,
 o1 86 (.pick (tm 80) (tm 85) (.const (.bool false))),
 o1 87 (.mov (tm 86)),
 o4 88 (.mov (tm 18)) 87,
 o4 89 (.raw (so (.unOp .not 4 (tm 88)) 4)) 87,
 o4 90 (.mov (tm 89)) 87,
 o5 91 (.mov (tm 17)) 90,
 o5 92 (.mov (tm 2)) 90,
 o5 93 (.bin .gtr (so (.binOp .gtr 3 (tm 91) (tm 92) 3) 4) (tm 91) (tm 92)) 90,
 o4 94 (.pick (tm 90) (.const (.bool true)) (tm 93)) 87,
 o1 95 (.pick (tm 87) (tm 94) (.const (.bool false))),
 o1 6 (.mov (tm 95))]) .ret))))))))))))
def zmQ : AFunc := ⟨96, [(6, none)], zmQ_c, none⟩
theorem zmQ_t0 : tableOf Try.prog 8 = some zmQ := by kernel_rfl
theorem zmQ_t : T0 8 = some zmQ := withKept_t rfl (withTrue_t rfl zmQ_t0)
theorem zmQ_runs {v0 v1 v2 : Value} {h : Heap} {R : RP} {X : XP} (k : RunC Try.prog T0 zmQ_c ⟨[v0, v1, v2, U, U, U, U, U, U, U, U, U, U, U, U, U, U, U, U, U, U, U, U, U, U, U, U, U, U, U, U, U, U, U, U, U, U, U, U, U, U, U, U, U, U, U, U, U, U, U, U, U, U, U, U, U, U, U, U, U, U, U, U, U, U, U, U, U, U, U, U, U, U, U, U, U, U, U, U, U, U, U, U, U, U, U, U, U, U, U, U, U, U, U, U, U], [], h, none⟩ (bodyQ Try.prog T0 [(6, none)] R X)) :
 Runs Try.prog T0 (.fn 8) [v0, v1, v2] h R X := Runs.fn zmQ_t rfl k
abbrev zmQ_l0_M : List Nat := [0, 0, 0, 0, 0, 0, 1, 0, 0, 0, 0, 0, 0, 0, 0, 0, 2, 0, 0, 0, 0, 0, 0, 0, 0, 0, 0, 0, 0, 0, 0, 0, 0, 0, 0, 0, 0, 0, 0, 0, 0, 0, 0, 0, 0, 0, 0, 0, 0, 0, 0, 0, 0, 0, 0, 0, 1, 1, 1, 1, 1, 1, 1, 1, 1, 1, 1, 1, 1, 0, 0, 0, 0, 0, 0, 0, 0, 0, 0, 0, 0, 0, 0, 0, 0, 0, 0, 0, 0, 0, 0, 0, 0, 0, 0, 0]
end Go.Proofs.Ytoadcfjkkoemdaa.A

namespace Go.Proofs.Ytoadcfjkkoemdaa.A
open Go Go.Vm
set_option maxRecDepth 10000
set_option linter.unusedVariables false
section
variable {P : Program} {ts : List Value} {h : Heap} {x y : Operand}
end
end Go.Proofs.Ytoadcfjkkoemdaa.A

namespace Go.Proofs.Ytoadcfjkkoemdaa.A
open Go Go.Vm
set_option maxRecDepth 10000
set_option linter.unusedVariables false
theorem come_twice {s : MS} {a b : Int} (hab : a ≤ b) : comeS (comeS s a) b = comeS s b := by
  unfold comeS
  rw [List.filter_filter]
  congr 1
  refine List.filter_congr fun t _ => ?_
  by_cases h1 : t.due ≤ b
  · simp [h1]
  · have h2 : ¬ t.due ≤ a := by omega
    simp [h1, h2]
theorem came_parts {a b : Int} (hab : a ≤ b) : ∀ {L : List LT}, SrtT L → (L.filter fun t => decide (t.due ≤ a)) ++ ((L.filter fun t => !decide (t.due ≤ a)).filter fun t => decide (t.due ≤ b)) = L.filter fun t => decide (t.due ≤ b)
  | [], _ => rfl
  | x :: L, h => by
    unfold SrtT at h
    rw [List.pairwise_cons] at h
    obtain ⟨h1, h2⟩ := h
    by_cases hx : x.due ≤ a
    · have hxb : x.due ≤ b := by omega
      have := came_parts hab h2
      rw [List.filter_cons_of_pos (by simpa using hx), List.filter_cons_of_neg (by simpa using hx), List.filter_cons_of_pos (by simpa using hxb), List.cons_append, this]
    · have h3 : ∀ t ∈ x :: L, ¬ t.due ≤ a := fun t ht => by
        rcases List.mem_cons.1 ht with e | e
        · rw [e]; exact hx
        · have := h1 t e
          simp only [ltK, decide_eq_true_eq] at this
          omega
      have e1 : (x :: L).filter (fun t => decide (t.due ≤ a)) = [] := List.filter_eq_nil_iff.2 fun t ht => by have := h3 t ht; simpa using this
      have e2 : (x :: L).filter (fun t => !decide (t.due ≤ a)) = x :: L := List.filter_eq_self.2 fun t ht => by have := h3 t ht; simpa using this
      rw [e1, e2, List.nil_append]
theorem all_one {O : List LE} (ho : ∀ e ∈ O, ∃ h : Heap, Rd h 1 e.w (bcells e.bs) e.bs.length) : (ocells O).all Value.oneCell' = true := by
  rw [List.all_eq_true]
  intro x hx
  obtain ⟨e, he, hx⟩ := List.mem_flatMap.1 hx
  obtain ⟨h, hw⟩ := ho e he
  obtain ⟨a, c, ew, _, _⟩ := hw
  simp only [List.mem_cons, List.not_mem_nil, or_false] at hx
  rcases hx with rfl | rfl | rfl | rfl | rfl
  · rfl
  · rfl
  · rfl
  · rfl
  · rw [ew]; rfl
theorem next_of {s : MS} {b : Int} : (nextS (comeS s b).L).2 = false ∧ (nextS (comeS s b).L).1 = 0 ∨ (nextS (comeS s b).L).2 = true ∧ b < (nextS (comeS s b).L).1 := by
  cases hL : (comeS s b).L with
  | nil => exact .inl ⟨rfl, rfl⟩
  | cons t M =>
    refine .inr ⟨rfl, ?_⟩
    have h1 : t ∈ (comeS s b).L := by rw [hL]; simp
    have h2 := (List.mem_filter.1 h1).2
    show b < t.due
    simp only [Bool.not_eq_true', decide_eq_false_iff_not] at h2
    omega
set_option maxHeartbeats 64000000 in
theorem MailParts_true {h : Heap} {v : Value} {l : List AC} {a0 b0 : Int} (hv : Rd h 5 v (acells l) l.length) (hl : ∀ a ∈ l, ARd h a) :
    Runs Try.prog T0 (.fn fn_zmQ) [v, .int .i64 a0, .int .i64 b0] h (fun r h' => r = .bool true) (fun _ _ => False) := by
  refine zmQ_runs ?_
  refine stp ?_
  refine O.call' zlQ_known (fun r h1 hr => ?_)
  obtain ⟨rfl, rfl⟩ := hr
  refine stp ?_
  refine O.call' (mlong_ok hv hl) (fun r h1 hr => ?_)
  obtain ⟨⟨b, rfl, hlong⟩, rfl⟩ := hr
  cases b with
  | true =>
    refine stp ?_
    rfl
  | false =>
  obtain ⟨h40, h60⟩ := hlong rfl
  have hcnt := play_cnt_le h40
  have hC := playL_cnt l
  refine stp ?_
  refine cut2 [0, 2, 2, 0, 0, 0, 0, 0, 0, 0, 0, 0, 0, 0, 0, 0, 0, 0, 0, 0, 0, 0, 0, 0, 0, 0, 1, 1, 0, 0, 0, 0, 0, 0, 0, 0, 0, 0, 0, 0, 0, 0, 0, 0, 0, 0, 0, 0, 0, 0, 0, 0, 0, 0, 0, 0, 0, 0, 0, 0, 0, 0, 0, 0, 0, 0, 0, 0, 0, 0, 0, 0, 0, 0, 0, 0, 0, 0, 0, 0, 0, 0, 0, 0, 0, 0, 0, 0, 0, 0, 0, 0, 0, 0, 0, 0] .normal (fun v w hz => hz = h1 ∧ ∃ a b : Int, a ≤ b ∧ v = .int .i64 a ∧ w = .int .i64 b) ?_ ?_
  · refine C.if (fun hgt => ?_) (fun hgt => ?_)
    · refine stp ?_
      exact cutQ2.out 1 2 ⟨rfl, b0, a0, by omega, rfl, rfl⟩
    · refine stp ?_
      exact cutQ2.out 1 2 ⟨rfl, a0, b0, by omega, rfl, rfl⟩
  intro va vb hz x26 x27 ⟨e0, a, b, hab, e1, e2⟩
  subst e0 e1 e2
  refine stp ?_
  refine O.call' (played_ok hv hl h60 h40) (fun r g1 hr => ?_)
  obtain ⟨p, W, rfl, hm, hW, f1⟩ := hr
  have n1 := f1.n
  refine stp ?_
  refine O.call' (played_ok (hv.keep f1 fun _ _ => id) (fun e he => (hl e he).keep f1 fun _ _ => id) h60 h40) (fun r g2 hr => ?_)
  obtain ⟨q, Y, rfl, hq, hY, f2⟩ := hr
  have n2 := f2.n
  have hWl := fun {i : Nat} (hi : W i) => hm.lt hi
  have hYl := fun {i : Nat} (hi : Y i) => hq.lt hi
  have hm2 := hm.keep f2 fun _ _ => id
  have hso := hC.ok.so
  generalize playL l = t at *
  refine stp ?_
  refine O.call' (Come_ok hm2 (by omega)) (fun r g3 hr => ?_)
  obtain ⟨A1, Wa, hA, hmA, hWa, f3, loA, newA, onA⟩ := hr
  have n3 := f3.n
  have hq3 := hq.keep f3 fun i hi e => by have := hWl e; have := hY i hi; omega
  have hAl : A1.length = (cameS t.1 a).length := by rw [← hA, List.length_map]
  have ltA := fun {i : Nat} (hi : OMine r A1 i) => loA.lt hi
  obtain ⟨aA, cA, rfl, _, _⟩ := id loA.ow.rd
  refine stp ?_
  refine O.call' (Come_ok hmA (by omega)) (fun r g4 hr => ?_)
  obtain ⟨B1, Wb, hB, hmB, hWb, f4, loB, newB, onB⟩ := hr
  have n4 := f4.n
  have hWaY : ∀ i, Wa i → ¬ Y i := fun i h1 h2 => by
    rcases hWa i h1 with h3 | h3
    · have := hWl h3; have := hY i h2; omega
    · have := hYl h2; omega
  have hq4 := hq3.keep f4 fun i hi e => hWaY i e hi
  have loA4 := loA.keep f4 fun i hi e => (onA i hi).2 e
  have hBl : B1.length = (cameS (comeS t.1 a) b).length := by rw [← hB, List.length_map]
  have c1 := come_len t.1 a
  have c2 := come_len (comeS t.1 a) b
  rw [come_twice hab] at hmB c2
  have ltB := fun {i : Nat} (hi : OMine r B1 i) => loB.lt hi
  have hrA : ∀ i, ownedBy (.slice aA A1.length cA) i → g2.n ≤ i ∧ i < g3.n ∧ ¬ Wa i := fun i hi => ⟨newA i hi, ltA (.inl hi), (onA i (.inl hi)).2⟩
  obtain ⟨aB, cB, rfl, _, _⟩ := id loB.ow.rd
  have hone : (ocells B1).all Value.oneCell' = true := all_one fun e he => ⟨_, (loB.wt e he).rd⟩
  refine stp ?_
  refine O.append (n := A1.length) (m := B1.length) (d := ocells B1) loA4.ow (loB.ow.rd.new _) (ocells_len B1) hone (by decide) (by decide) (by omega) (fun v5 g5 o5 f5 m5 => ?_)
  have n5 := f5.n
  have ltp : ∀ i, ownedBy v5 i → i < g5.n := fun i hi => o5.lt hi
  have hparts : LetRd g5 v5 (A1 ++ B1) := ⟨by rw [List.length_append, show ocells (A1 ++ B1) = ocells A1 ++ ocells B1 from by simp [ocells]]; exact o5.rd, fun e he => by
    rcases List.mem_append.1 he with he | he
    · exact ((loA4.wt e he).keep f5 fun i hi k => loA.rw e he i hi k).rd
    · refine ((loB.wt e he).keep f5 fun i hi k => ?_).rd
      have h1 := onB i (.inr ⟨e, he, hi⟩)
      have h2 := hrA i k
      rcases h1.1 with h3 | h3
      · exact h2.2.2 h3
      · omega⟩
  have hmB5 := hmB.keep f5 fun i hi k => by
    have h2 := hrA i k
    rcases hWb i hi with h3 | h3
    · exact h2.2.2 h3
    · omega
  have hq5 := hq4.keep f5 fun i hi k => by have := hrA i k; have := hYl hi; omega
  have htr : (A1 ++ B1).map LE.tr = cameS t.1 b := by
    rw [List.map_append, hA, hB]
    exact came_parts hab hso
  have hpl : (A1 ++ B1).length = A1.length + B1.length := List.length_append
  obtain ⟨a5, c5, rfl, _, _⟩ := id o5.rd
  refine stp ?_
  refine O.call' (Come_ok hq5 (by omega)) (fun r g6 hr => ?_)
  obtain ⟨C1, Yb, hCt, hqB, hYb, f6, loC, newC, onC⟩ := hr
  have n6 := f6.n
  have hWbY : ∀ i, Wb i → ¬ Y i := fun i h1 h2 => by
    rcases hWb i h1 with h3 | h3
    · exact hWaY i h3 h2
    · have := hYl h2; omega
  have hmB6 := hmB5.keep f6 fun i hi k => hWbY i hi k
  have hparts6 : LetRd g6 (.slice a5 (A1.length + B1.length) c5) (A1 ++ B1) := by
    refine ⟨hparts.1.keep f6 fun i hi k => ?_, fun e he => (hparts.2 e he).keep f6 fun i hi k => ?_⟩
    · have hi := block_own hi
      rcases m5 i hi with h1 | h1
      · have := hrA i h1; have := hYl k; omega
      · have := hYl k; omega
    · have hi := block_own hi
      rcases List.mem_append.1 he with he | he
      · rcases (onA i (.inr ⟨e, he, hi⟩)).1 with h1 | h1
        · have := hWl h1; have := hY i k; omega
        · have := hYl k; omega
      · rcases (onB i (.inr ⟨e, he, hi⟩)).1 with h1 | h1
        · exact hWaY i h1 k
        · have := hYl k; omega
  have hCl : C1.length = (cameS t.1 b).length := by rw [← hCt, List.length_map]
  have c3 := come_len t.1 b
  have hdue : ∀ e ∈ C1, e.due ≤ b := fun e he => by
    have h1 : e.tr ∈ cameS t.1 b := by rw [← hCt]; exact List.mem_map.2 ⟨e, he, rfl⟩
    have h2 := (List.mem_filter.1 h1).2
    exact of_decide_eq_true h2
  obtain ⟨aC, cC, rfl, _, hcc⟩ := id loC.ow.rd
  refine stp ?_
  refine loop1 zmQ_l0_M 16 (fun q v16 hx => ∃ k : Nat, q = C1.length - k ∧ v16 = .int .i64 k ∧ hx = g6) ?_ C1.length ⟨0, rfl, rfl, rfl⟩
  rintro m v16 h' x6 x56 x57 x58 x59 x60 x61 x62 x63 x64 x65 x66 x67 x68 ⟨k, rfl, rfl, rfl⟩
  rcases Nat.lt_or_ge k C1.length with hlt | hge
  · haveI q1 : ∀ {ts : List Value} {h : Heap} {O : Oper} {x z : Operand} [Ev ts x (.int .i64 (k : Nat))] [Ev ts z (.int .i64 (C1.length : Nat))], XOp Try.prog ts h (.bin .lss O x z) (.bool true) h := xlss1 (by omega)
    obtain ⟨bb, o, sp, rfl, hb, hc⟩ := hcc (by omega)
    haveI := let_cell (v := .int .i64 (at' C1 k).due) hc rfl hlt (show 3 < 5 by omega) rfl
    have hd := hdue _ (at_mem hlt)
    generalize (at' C1 k).due = d at *
    haveI q2 : ∀ {ts : List Value} {h : Heap} {O : Oper} {x z : Operand} [Ev ts x (.int .i64 d)] [Ev ts z (.int .i64 b)], XOp Try.prog ts h (.bin .gtr O x z) (.bool false) h := xgtr0 (by omega)
    refine stp ?_
    exact loop1a 16 (C1.length - (k + 1)) (by omega) ⟨k + 1, rfl, rfl, rfl⟩
  haveI q1 : ∀ {ts : List Value} {h : Heap} {O : Oper} {x z : Operand} [Ev ts x (.int .i64 (k : Nat))] [Ev ts z (.int .i64 (C1.length : Nat))], XOp Try.prog ts h (.bin .lss O x z) (.bool false) h := xlss0 (by omega)
  refine stp ?_
  refine O.call' (MNext_ok hqB (by omega)) (fun r g7 hr => ?_)
  obtain ⟨rfl, rfl⟩ := hr
  have hnx := next_of (s := t.1) (b := b)
  have hcl : (comeS t.1 b).L.length ≤ 40 := by omega
  generalize (nextS (comeS t.1 b).L).1 = nx at *
  generalize (nextS (comeS t.1 b).L).2 = ix at *
  refine stp ?_
  refine O.callT (SameLs_ok hparts6 loC.lr (htr.trans hCt.symm) (by omega)) (fun r g8 hr => ?_)
  obtain ⟨rfl, rfl⟩ := hr
  refine stp ?_
  refine O.callT (MList_ok hmB6 (by omega) (by omega)) (fun r g9 hr => ?_)
  obtain ⟨P1, hP1, lo1, new1, f9⟩ := hr
  have hP1l : P1.length = (comeS t.1 b).L.length := by rw [← hP1, List.length_map]
  refine stp ?_
  refine O.callT (MList_ok (hqB.keep f9 fun _ _ => id) (by omega) (by omega)) (fun r2 g10 hr => ?_)
  obtain ⟨P2, hP2, lo2, new2, f10⟩ := hr
  refine stp ?_
  refine O.callT (SameLs_ok (lo1.keep f10 fun _ _ => id).lr lo2.lr (hP1.trans hP2.symm) (by omega)) (fun r g11 hr => ?_)
  obtain ⟨rfl, rfl⟩ := hr
  rcases hnx with ⟨rfl, _⟩ | ⟨rfl, hnx⟩
  · refine stp ?_
    rfl
  · haveI q2 : ∀ {ts : List Value} {h : Heap} {O : Oper} {x z : Operand} [Ev ts x (.int .i64 nx)] [Ev ts z (.int .i64 b)], XOp Try.prog ts h (.bin .gtr O x z) (.bool true) h := xgtr1 hnx
    refine stp ?_
    rfl
end Go.Proofs.Ytoadcfjkkoemdaa.A

namespace Go.Proofs.Ytoadcfjkkoemdaa.A
open Go Go.Vm
set_option maxRecDepth 100000
set_option linter.unusedVariables false
theorem fits_bytesS {h : Heap} {m : Nat} {t te : TypeId} {cs : List Value} (ht : Try.prog.underlying t = some (.slice te)) (hu : Try.prog.underlying te = some (.int .u8)) (hs : Try.prog.cellsOf te = 1) (hv : Fits Try.prog h (m + 2) t cs) : ∃ (w : Value) (bs : List UInt8), cs = [w] ∧ Rd h 1 w (bcells bs) bs.length := by
  have h1 : ∃ w, cs = [w] := by
    have h2 := hv
    unfold Fits at h2
    rw [ht] at h2
    rcases h2 with h2 | ⟨b, len, cap, c, h2, _⟩
    · exact ⟨_, h2⟩
    · exact ⟨_, h2⟩
  obtain ⟨w, rfl⟩ := h1
  obtain ⟨bs, h1⟩ := fits_slice ht hu hs (v := w) (by unfold FitsV; rw [ht]; exact hv)
  exact ⟨w, bs, rfl, h1⟩
theorem acts_cells_fit {h : Heap} {m : Nat} {te : TypeId} (f0 : fieldAt Try.prog te 0 = some (0, 3)) (f1 : fieldAt Try.prog te 1 = some (1, 3)) (f2 : fieldAt Try.prog te 2 = some (2, 3)) (f3 : fieldAt Try.prog te 3 = some (3, 3)) (f4 : fieldAt Try.prog te 4 = some (4, 38)) (ui : Try.prog.underlying 3 = some (.int .i64)) (ci : Try.prog.cellsOf 3 = 1) (ub : Try.prog.underlying 38 = some (.slice 5)) (cb : Try.prog.cellsOf 38 = 1) (u5 : Try.prog.underlying 5 = some (.int .u8)) (c5 : Try.prog.cellsOf 5 = 1) :
    ∀ (len : Nat) (c : List Value), c.length = len * 5 → (∀ i, i < len → Fits Try.prog h (m + 3) te ((c.drop (i * 5)).take 5)) → ∃ l : List AC, c = acells l ∧ l.length = len ∧ ∀ a ∈ l, ARd h a
  | 0, c, hl, _ => ⟨[], by simpa [acells] using hl, rfl, by simp⟩
  | len + 1, c, hl, hall => by
    have h0 := hall 0 (by omega)
    rw [Nat.zero_mul, List.drop_zero] at h0
    obtain ⟨a, g0, _⟩ := (h0.field f0).int ui
    obtain ⟨b, g1, _⟩ := (h0.field f1).int ui
    obtain ⟨x, g2, _⟩ := (h0.field f2).int ui
    obtain ⟨d, g3, _⟩ := (h0.field f3).int ui
    obtain ⟨w, bs, g4, hb⟩ := fits_bytesS ub u5 c5 (h0.field f4)
    rw [ci] at g0 g1 g2 g3
    rw [cb] at g4
    obtain ⟨l, e1, e2, e3⟩ := acts_cells_fit f0 f1 f2 f3 f4 ui ci ub cb u5 c5 len (c.drop 5) (by rw [List.length_drop]; omega) fun i hi => by
      have := hall (i + 1) (by omega)
      rw [List.drop_drop]
      rw [show (i + 1) * 5 = 5 + i * 5 from by omega] at this
      exact this
    have hl2 : (c.take 5).length = 5 := by rw [List.length_take]; omega
    have he : c.take 5 = (⟨a, b, x, d, bs, w⟩ : AC).cells := by
      generalize c.take 5 = e at *
      rw [← List.drop_zero (l := e), vsplit e 0 1, g0, vsplit e (0 + 1) 1, g1, vsplit e (0 + 1 + 1) 1, g2, vsplit e (0 + 1 + 1 + 1) 1, g3, vsplit e (0 + 1 + 1 + 1 + 1) 1, g4, show e.drop (0 + 1 + 1 + 1 + 1 + 1) = [] from List.drop_eq_nil_of_le (by omega), List.append_nil]
      rfl
    refine ⟨⟨a, b, x, d, bs, w⟩ :: l, ?_, by simp [e2], fun y hy => (List.mem_cons.1 hy).elim (fun e => by rw [e]; exact hb) (e3 y)⟩
    rw [acells_cons, ← e1, ← he, List.take_append_drop]
theorem fits_actsV {h : Heap} {t te : TypeId} {v : Value} (ht : Try.prog.underlying t = some (.slice te)) (f0 : fieldAt Try.prog te 0 = some (0, 3)) (f1 : fieldAt Try.prog te 1 = some (1, 3)) (f2 : fieldAt Try.prog te 2 = some (2, 3)) (f3 : fieldAt Try.prog te 3 = some (3, 3)) (f4 : fieldAt Try.prog te 4 = some (4, 38)) (ui : Try.prog.underlying 3 = some (.int .i64)) (ci : Try.prog.cellsOf 3 = 1) (ub : Try.prog.underlying 38 = some (.slice 5)) (cb : Try.prog.cellsOf 38 = 1) (u5 : Try.prog.underlying 5 = some (.int .u8)) (c5 : Try.prog.cellsOf 5 = 1) (ce : Try.prog.cellsOf te = 5) (hv : FitsV Try.prog h 8 t v) :
    ∃ l : List AC, Rd h 5 v (acells l) l.length ∧ ∀ a ∈ l, ARd h a := by
  unfold FitsV at hv
  rw [ht] at hv
  unfold Fits at hv
  rw [ht] at hv
  rcases hv with hv | ⟨b, len, cap, c, hv, hb, hlc, hcap, hro, hl, hall⟩
  · injection hv with hv _
    subst hv
    exact ⟨[], Rd.nil, by simp⟩
  · rw [ce] at hl hall
    obtain ⟨l, rfl, e2, e3⟩ := acts_cells_fit (m := 4) f0 f1 f2 f3 f4 ui ci ub cb u5 c5 len c hl hall
    have hal := acells_len l
    injection hv with hv _
    subst hv
    refine ⟨l, ⟨_, _, by rw [e2], hal, fun hn => ⟨b, 0, none, rfl, hb, ?_⟩⟩, e3⟩
    rw [cellsAt_of (c := acells l) (by rw [hro (by omega)]; rfl) (by omega), List.drop_zero, List.take_of_length_le (by omega)]
end Go.Proofs.Ytoadcfjkkoemdaa.A

namespace Go.Proofs.Ytoadcfjkkoemdaa.A
open Go Go.Vm
set_option maxRecDepth 100000
set_option linter.unusedVariables false
theorem MailParts_run (h : Heap) (vs : List Value) (hf : FitsAll Try.prog h 8 [47, 3, 3] vs) : Runs Try.prog T0 (.fn fn_zmQ) vs h (fun r _ => r = .bool true) (fun _ _ => False) := by
  obtain ⟨v1, _, rfl, h1, hf⟩ := hf.cons
  obtain ⟨v2, _, rfl, h2, hf⟩ := hf.cons
  obtain ⟨v3, _, rfl, h3, hf⟩ := hf.cons
  obtain rfl := hf.nil
  obtain ⟨a, rfl, _⟩ := FitsV.int (k := .i64) h2 (by kernel_rfl)
  obtain ⟨b, rfl, _⟩ := FitsV.int (k := .i64) h3 (by kernel_rfl)
  obtain ⟨l, hl, hl2⟩ := fits_actsV (te := 50) (by kernel_rfl) (by kernel_rfl) (by kernel_rfl) (by kernel_rfl) (by kernel_rfl) (by kernel_rfl) (by kernel_rfl) (by kernel_rfl) (by kernel_rfl) (by kernel_rfl) (by kernel_rfl) (by kernel_rfl) (by kernel_rfl) h1
  exact MailParts_true hl hl2
end Go.Proofs.Ytoadcfjkkoemdaa.A

namespace Go.Proofs.Ytoadcfjkkoemdaa.A
open Go Go.Vm
set_option maxRecDepth 100000
theorem ran_3 : allTrue (xcall Try.prog (tableOf Try.prog) 1000 60 (.fn 3) [] Heap.init) = true := by kernel_rfl
theorem has_3 : (tableOf Try.prog 3).isSome = true := by kernel_rfl
theorem known : KnownAll Try.prog prims := ⟨⟨Option.isSome_iff_exists.1 has_3, fun w => known_calls (Checked.mixed Try.checked) tableOf_ok ran_3 w⟩, trivial⟩
theorem T0_ok : TableOK Try.prog T0 := withKept_ok (withTrue_ok known) fun k hk => by simp at hk
end Go.Proofs.Ytoadcfjkkoemdaa.A
