/- Contracts of functions, over the machine. -/
import Derived.Test.YtoadcfjkkoemdaaQMailActs2
import Derived.Test.YtoadcfjkkoemdaaVK
import Derived.Test.YtoadcfjkkoemdaaVJ
set_option linter.unusedSimpArgs false
set_option linter.unusedSectionVars false
noncomputable section
namespace Go.Proofs.Ytoadcfjkkoemdaa.A
open Go Go.Vm
set_option maxRecDepth 10000
set_option linter.unusedVariables false
theorem lookup_any {l : List Ent} {c : Nat} {k : Int} (hn : EntsOK l c) (zero : Value) : ∃ pv b, (b = true → ∃ e ∈ l, e.k = k ∧ pv = e.v) ∧ (b = false → (∀ e ∈ l, e.k ≠ k) ∧ pv = zero) ∧
    ∀ {P : Program} {ts : List Value} {h : Heap} {m x : Operand} {r : Nat} [Ev ts m (.map (some r))] [HGet h r (.map (ents l) c)] [Ev ts x (.int .i64 k)], XOp P ts h (.lookup (.int .i64) zero true m x) (.tuple ⟨[pv, .bool b]⟩) h := by
  by_cases h : ∃ e ∈ l, e.k = k
  · obtain ⟨e, he, hk⟩ := h
    exact ⟨e.v, true, fun _ => ⟨e, he, hk, rfl⟩, fun h => (by cases h), fun {P ts h m x r} _ _ _ => XOp.lookupYes he hn hk⟩
  · have h' : ∀ e ∈ l, e.k ≠ k := fun e he hk => h ⟨e, he, hk⟩
    exact ⟨zero, false, fun h => (by cases h), fun _ => ⟨h', rfl⟩, fun {P ts h m x r} _ _ _ => XOp.lookupNo h'⟩
end Go.Proofs.Ytoadcfjkkoemdaa.A

namespace Go.Proofs.Ytoadcfjkkoemdaa.A
open Go Go.Vm
set_option maxRecDepth 10000
set_option linter.unusedVariables false
structure LT where
  id : Int
  fr : Int
  to : Int
  due : Int
  bs : List UInt8
def LE.tr (e : LE) : LT := ⟨e.id, e.fr, e.to, e.due, e.bs⟩
abbrev LT.key (t : LT) : Int × Int := (t.due, t.id)
abbrev ltT (a b : LT) : Bool := ltK a.key b.key
def SrtT (L : List LT) : Prop := L.Pairwise fun a b => ltT a b = true
def insT (x : LT) (L : List LT) : List LT := (L.filter fun y => ltT y x) ++ x :: (L.filter fun y => !ltT y x)
def lessT (k : Int) (L : List LT) : List LT := L.filter fun y => !decide (y.id = k)
def findT (k : Int) (L : List LT) : Option LT := L.find? fun y => decide (y.id = k)
def moveT (k d : Int) (L : List LT) : List LT := match findT k L with
  | none => L
  | some x => insT { x with due := d } (lessT k L)
structure MS where
  last : Int
  lost : Int
  L : List LT
structure MOK (most : Int) (s : MS) : Prop where
  so : SrtT s.L
  nd : (s.L.map LT.id).Nodup
  id : ∀ t ∈ s.L, 1 ≤ t.id ∧ t.id ≤ s.last
  le : (s.L.length : Int) ≤ most
  rg : ∀ t ∈ s.L, (0 ≤ t.fr ∧ t.fr ≤ 16) ∧ (0 ≤ t.to ∧ t.to ≤ 16) ∧ (0 ≤ t.due ∧ t.due ≤ 1099511627776) ∧ t.bs.length ≤ 65536
  l0 : 0 ≤ s.last
  k0 : 0 ≤ s.lost
def isEnd (x : Int) : Bool := decide (0 ≤ x ∧ x ≤ 16)
def isDue (x : Int) : Bool := decide (0 ≤ x ∧ x ≤ 1099511627776)
def postS (most : Int) (s : MS) (f t d : Int) (bs : List UInt8) : MS × Int × Int :=
  if (isEnd f && isEnd t && isDue d) = false then (s, 0, 3) else if 65536 < bs.length then (s, 0, 4) else if most ≤ s.L.length then (s, 0, 7)
  else (⟨s.last + 1, s.lost, insT ⟨s.last + 1, f, t, d, bs⟩ s.L⟩, s.last + 1, 0)
def loseS (s : MS) (k : Int) : MS × Int := if (findT k s.L).isSome then (⟨s.last, s.lost + 1, lessT k s.L⟩, 0) else (s, 10)
def delayS (s : MS) (k d : Int) : MS × Int := if (findT k s.L).isSome then (if isDue d then (⟨s.last, s.lost, moveT k d s.L⟩, 0) else (s, 3)) else (s, 10)
def swapS (s : MS) (a b : Int) : MS × Int := match findT a s.L, findT b s.L with
  | some x, some y => (⟨s.last, s.lost, moveT b x.due (moveT a y.due s.L)⟩, 0)
  | _, _ => (s, 10)
def twiceS (most : Int) (s : MS) (k d : Int) : MS × Int × Int := match findT k s.L with
  | none => (s, 0, 10)
  | some x => if isDue d = false then (s, 0, 3) else if most ≤ s.L.length then (s, 0, 7) else (⟨s.last + 1, s.lost, insT ⟨s.last + 1, x.fr, x.to, d, x.bs⟩ s.L⟩, s.last + 1, 0)
def comeS (s : MS) (now : Int) : MS := ⟨s.last, s.lost, s.L.filter fun t => !decide (t.due ≤ now)⟩
def cameS (s : MS) (now : Int) : List LT := s.L.filter fun t => decide (t.due ≤ now)
theorem ltT_ord : Ord ltT := ltK_ord LT.key
theorem ltT_tot {a b : LT} (h : a.id ≠ b.id) : ltT a b = true ∨ ltT b a = true := by
  simp only [ltK, decide_eq_true_eq]
  omega
theorem filter_perm {α : Type} (q : α → Bool) (L : List α) : (L.filter q ++ L.filter fun y => !q y).Perm L := by
  induction L with
  | nil => exact .refl _
  | cons a L ih =>
    rw [List.filter_cons, List.filter_cons]
    cases h : q a with
    | true => exact .cons _ ih
    | false => exact (List.perm_middle).trans (.cons _ ih)
theorem ins_perm (x : LT) (L : List LT) : (insT x L).Perm (x :: L) := (List.perm_middle).trans (.cons _ (filter_perm _ L))
theorem SrtT.filter {L : List LT} (h : SrtT L) (q : LT → Bool) : SrtT (L.filter q) := h.sublist List.filter_sublist
theorem ins_so {x : LT} {L : List LT} (h : SrtT L) (hx : ∀ y ∈ L, y.id ≠ x.id) : SrtT (insT x L) := by
  have tr : ∀ a b c : LT, ltT a b = true → ltT b c = true → ltT a c = true := fun a b c h1 h2 => by
    simp only [ltK, decide_eq_true_eq] at h1 h2 ⊢
    omega
  have up : ∀ y ∈ L.filter (fun y => !ltT y x), ltT x y = true := fun y hy => by
    obtain ⟨h1, h2⟩ := List.mem_filter.1 hy
    rcases ltT_tot (hx y h1) with h3 | h3
    · rw [h3] at h2; cases h2
    · exact h3
  unfold SrtT insT
  rw [List.pairwise_append, List.pairwise_cons]
  refine ⟨h.filter _, ⟨up, h.filter _⟩, fun a ha b hb => ?_⟩
  have h1 := (List.mem_filter.1 ha).2
  rcases List.mem_cons.1 hb with hb | hb
  · rw [hb]; exact h1
  · exact tr _ _ _ h1 (up b hb)
theorem find_some {k : Int} {L : List LT} {x : LT} (h : findT k L = some x) : x ∈ L ∧ x.id = k := ⟨List.mem_of_find?_eq_some h, by simpa using List.find?_some h⟩
theorem find_none {k : Int} {L : List LT} (h : findT k L = none) : ∀ y ∈ L, y.id ≠ k := fun y hy e => by
  have := List.find?_eq_none.1 h y hy
  simp [e] at this
theorem find_of {k : Int} {L : List LT} {x : LT} (hn : (L.map LT.id).Nodup) (hx : x ∈ L) (hk : x.id = k) : findT k L = some x := by
  cases h : findT k L with
  | none => exact absurd hk (find_none h x hx)
  | some y =>
    obtain ⟨h1, h2⟩ := find_some h
    rw [nodup_inj hn h1 hx (by rw [h2, hk])]
theorem lessT_perm {k : Int} {L : List LT} {x : LT} (hn : (L.map LT.id).Nodup) (hx : x ∈ L) (hk : x.id = k) : (x :: lessT k L).Perm L := by
  have h1 := filter_perm (fun y : LT => decide (y.id = k)) L
  have h2 : (L.filter fun y => decide (y.id = k)) = [x] := by
    induction L with
    | nil => simp at hx
    | cons a L ih =>
      rw [List.map_cons, List.nodup_cons] at hn
      rw [List.filter_cons]
      rcases List.mem_cons.1 hx with e | e
      · subst e
        rw [if_pos (by simpa using hk)]
        congr 1
        refine List.filter_eq_nil_iff.2 fun y hy => ?_
        simp only [decide_eq_true_eq]
        exact fun q => hn.1 (List.mem_map.2 ⟨y, hy, by rw [q, hk]⟩)
      · rw [if_neg]
        · exact ih hn.2 e (filter_perm _ L)
        · simp only [decide_eq_true_eq]
          exact fun q => hn.1 (List.mem_map.2 ⟨x, e, by rw [q, hk]⟩)
  rw [h2] at h1
  exact h1
def dueT (k d : Int) (L : List LT) : List LT := L.map fun t => if t.id = k then { t with due := d } else t
theorem move_perm {k d : Int} {L : List LT} (hn : (L.map LT.id).Nodup) : (moveT k d L).Perm (dueT k d L) := by
  unfold moveT
  cases h : findT k L with
  | none =>
    have : dueT k d L = L := by
      unfold dueT
      refine (List.map_congr_left fun t ht => ?_).trans (List.map_id L)
      show (if t.id = k then { t with due := d } else t) = t
      rw [if_neg (find_none h t ht)]
    rw [this]
  | some x =>
    obtain ⟨h1, h2⟩ := find_some h
    have h3 := (lessT_perm hn h1 h2).map fun t : LT => if t.id = k then { t with due := d } else t
    have h4 : (lessT k L).map (fun t : LT => if t.id = k then { t with due := d } else t) = lessT k L := by
      refine (List.map_congr_left fun t ht => ?_).trans (List.map_id _)
      show (if t.id = k then { t with due := d } else t) = t
      have h5 := (List.mem_filter.1 ht).2
      simp only [Bool.not_eq_true', decide_eq_false_iff_not] at h5
      rw [if_neg h5]
    rw [List.map_cons, if_pos h2, h4] at h3
    exact (ins_perm _ _).trans h3
theorem due_ids (k d : Int) (L : List LT) : (dueT k d L).map LT.id = L.map LT.id := by
  unfold dueT
  rw [List.map_map]
  refine List.map_congr_left fun t _ => ?_
  show (if t.id = k then { t with due := d } else t : LT).id = t.id
  split <;> rfl
theorem move_so {k d : Int} {L : List LT} (h : SrtT L) (hn : (L.map LT.id).Nodup) : SrtT (moveT k d L) := by
  unfold moveT
  cases hf : findT k L with
  | none => exact h
  | some x =>
    obtain ⟨h1, h2⟩ := find_some hf
    refine ins_so (h.filter _) fun y hy => ?_
    have h5 := (List.mem_filter.1 hy).2
    simp only [Bool.not_eq_true', decide_eq_false_iff_not] at h5
    show y.id ≠ x.id
    rw [h2]
    exact h5
theorem MOK.less {most : Int} {s : MS} (h : MOK most s) (q : LT → Bool) (j : Int) (hj : 0 ≤ j) : MOK most ⟨s.last, j, s.L.filter q⟩ :=
  ⟨h.so.filter _, h.nd.sublist ((List.filter_sublist).map _), fun t ht => h.id t (List.mem_filter.1 ht).1, by have := List.length_filter_le q s.L; have := h.le; show ((s.L.filter q).length : Int) ≤ most; omega, fun t ht => h.rg t (List.mem_filter.1 ht).1, h.l0, hj⟩
theorem MOK.move {most : Int} {s : MS} (h : MOK most s) (k d : Int) (hd : 0 ≤ d ∧ d ≤ 1099511627776) : MOK most ⟨s.last, s.lost, moveT k d s.L⟩ := by
  have hp := move_perm (k := k) (d := d) h.nd
  have hm : ∀ t ∈ moveT k d s.L, ∃ u ∈ s.L, t.id = u.id ∧ t.fr = u.fr ∧ t.to = u.to ∧ t.bs = u.bs ∧ (t.due = u.due ∨ t.due = d) := fun t ht => by
    obtain ⟨u, hu, rfl⟩ := List.mem_map.1 (hp.mem_iff.1 ht)
    refine ⟨u, hu, ?_⟩
    split
    · exact ⟨rfl, rfl, rfl, rfl, .inr rfl⟩
    · exact ⟨rfl, rfl, rfl, rfl, .inl rfl⟩
  refine ⟨move_so h.so h.nd, ?_, fun t ht => ?_, ?_, fun t ht => ?_, h.l0, h.k0⟩
  · rw [((hp.map LT.id).nodup_iff), due_ids]; exact h.nd
  · obtain ⟨u, hu, e, _⟩ := hm t ht
    rw [e]; exact h.id u hu
  · have := hp.length_eq
    unfold dueT at this
    rw [List.length_map] at this
    show ((moveT k d s.L).length : Int) ≤ most
    rw [this]; exact h.le
  · obtain ⟨u, hu, e, e1, e2, e3, e4⟩ := hm t ht
    have := h.rg u hu
    rw [e1, e2, e3]
    refine ⟨this.1, this.2.1, ?_, this.2.2.2⟩
    rcases e4 with e4 | e4
    · rw [e4]; exact this.2.2.1
    · rw [e4]; exact hd
theorem MOK.add {most : Int} {s : MS} (h : MOK most s) {f t d : Int} {bs : List UInt8} (hl : (s.L.length : Int) < most) (hf : 0 ≤ f ∧ f ≤ 16) (ht : 0 ≤ t ∧ t ≤ 16) (hd : 0 ≤ d ∧ d ≤ 1099511627776) (hb : bs.length ≤ 65536) : MOK most ⟨s.last + 1, s.lost, insT ⟨s.last + 1, f, t, d, bs⟩ s.L⟩ := by
  have hp := ins_perm ⟨s.last + 1, f, t, d, bs⟩ s.L
  have hne : ∀ y ∈ s.L, y.id ≠ s.last + 1 := fun y hy => by have := h.id y hy; omega
  have hl0 := h.l0
  refine ⟨ins_so h.so hne, ?_, fun u hu => ?_, ?_, fun u hu => ?_, by show 0 ≤ s.last + 1; omega, h.k0⟩
  · rw [((hp.map LT.id).nodup_iff), List.map_cons, List.nodup_cons]
    refine ⟨fun q => ?_, h.nd⟩
    obtain ⟨y, hy, e⟩ := List.mem_map.1 q
    exact hne y hy e
  · show 1 ≤ u.id ∧ u.id ≤ s.last + 1
    rcases List.mem_cons.1 (hp.mem_iff.1 hu) with e | e
    · rw [e]
      show 1 ≤ s.last + 1 ∧ s.last + 1 ≤ s.last + 1
      omega
    · have := h.id u e
      omega
  · have := hp.length_eq
    rw [List.length_cons] at this
    show ((insT ⟨s.last + 1, f, t, d, bs⟩ s.L).length : Int) ≤ most
    omega
  · rcases List.mem_cons.1 (hp.mem_iff.1 hu) with e | e
    · rw [e]; exact ⟨hf, ht, hd, hb⟩
    · exact h.rg u e
theorem isDue_iff {d : Int} : isDue d = true ↔ 0 ≤ d ∧ d ≤ 1099511627776 := by unfold isDue; simp
theorem isEnd_iff {d : Int} : isEnd d = true ↔ 0 ≤ d ∧ d ≤ 16 := by unfold isEnd; simp
theorem srt_eq {L M : List LT} (h1 : SrtT L) (h2 : SrtT M) (hp : L.Perm M) : L = M := by
  refine List.Perm.eq_of_pairwise (le := fun a b => ltT a b = true) (fun a b _ _ h3 h4 => ?_) h1 h2 hp
  have := ltT_ord.asy a b h3
  rw [this] at h4
  cases h4
end Go.Proofs.Ytoadcfjkkoemdaa.A

namespace Go.Proofs.Ytoadcfjkkoemdaa.A
open Go Go.Vm
set_option maxRecDepth 10000
set_option linter.unusedVariables false
structure MV (h : Heap) (p : Nat) (most : Int) (s : MS) (W : Nat → Prop) : Prop where
  kp : ∃ m c u S l, MAt h p m c most s.last s.lost u S l ∧ (l.map LE.tr).Perm s.L ∧ ∀ i, W i ↔ MMine p m u l i
  iv : MOK most s
def After (h : Heap) (p : Nat) (most : Int) (W : Nat → Prop) (s' : MS) (h' : Heap) : Prop := ∃ W' : Nat → Prop, MV h' p most s' W' ∧ (∀ i, W' i → W i ∨ h.n ≤ i) ∧ Fr W h h'
section
variable {h h' : Heap} {p : Nat} {most : Int} {s : MS} {W : Nat → Prop}
theorem MV.keep {T : Nat → Prop} (hv : MV h p most s W) (hf : Fr T h h') (hn : ∀ i, W i → ¬ T i) : MV h' p most s W := by
  obtain ⟨m, c, u, S, l, h1, h2, h3⟩ := hv.kp
  exact ⟨⟨m, c, u, S, l, h1.keep hf fun i hi => hn i ((h3 i).2 hi), h2, h3⟩, hv.iv⟩
theorem MV.lt (hv : MV h p most s W) {i : Nat} (hi : W i) : i < h.n := by
  obtain ⟨m, c, u, S, l, h1, h2, h3⟩ := hv.kp
  exact h1.mlt ((h3 i).1 hi)
theorem MV.hasP (hv : MV h p most s W) : W p := by
  obtain ⟨m, c, u, S, l, h1, h2, h3⟩ := hv.kp
  exact (h3 p).2 (.inl (.inl rfl))
theorem After.same (hv : MV h p most s W) (hf : Fr (fun _ => False) h h') : After h p most W s h' := ⟨W, hv.keep hf fun _ _ => id, fun i hi => .inl hi, hf.mono fun _ _ e => e.elim⟩
theorem mnone_ok {m c : Nat} {x y z : Int} {u : Value} {S l : List LE} (hs : MAt h p m c x y z u S l) : Runs Try.prog T0 (.fn fn_ztbQ) [.pointer (some ⟨p, 0, none⟩)] h (fun r h' => r = .bool false ∧ h' = h) (fun _ _ => False) := by
  haveI : HGet h p _ := ⟨hs.gp⟩
  refine ztbQ_runs ?_
  refine stp ?_
  exact ⟨rfl, rfl⟩
theorem mends_ok {x : Int} : Runs Try.prog T0 (.fn fn_zybQ) [.int .i64 x] h (fun r h' => r = .bool (isEnd x) ∧ h' = h) (fun _ _ => False) := by
  refine zybQ_runs ?_
  refine stp ?_
  refine O.dec (fun e => ?_) (fun e => ?_)
  · refine stp ?_
    refine ⟨?_, rfl⟩
    unfold isEnd
    congr 1
    rw [decide_eq_decide]
    omega
  · refine stp ?_
    refine ⟨?_, rfl⟩
    unfold isEnd
    congr 1
    exact (decide_eq_false (by omega)).symm
theorem mdue_ok {x : Int} : Runs Try.prog T0 (.fn fn_zxbQ) [.int .i64 x] h (fun r h' => r = .bool (isDue x) ∧ h' = h) (fun _ _ => False) := by
  refine zxbQ_runs ?_
  refine stp ?_
  refine O.dec (fun e => ?_) (fun e => ?_)
  · refine stp ?_
    refine ⟨?_, rfl⟩
    unfold isDue
    congr 1
    rw [decide_eq_decide]
    omega
  · refine stp ?_
    refine ⟨?_, rfl⟩
    unfold isDue
    congr 1
    exact (decide_eq_false (by omega)).symm
set_option maxHeartbeats 4000000 in
theorem mwith_ok {m c : Nat} {x y z k : Int} {u : Value} {S l : List LE} {fd : FuncId} {bs cs : List Value} {R : LE → RP} (hs : MAt h p m c x y z u S l) (hd : ∀ e ∈ l, e.id = k → Runs Try.prog T0 (.fn fd) ((bs ++ [.pointer (some ⟨e.b, 0, none⟩)]) ++ cs) h (R e) (fun _ _ => False)) :
    Runs Try.prog T0 (.fn fn_zubQ) [.pointer (some ⟨p, 0, none⟩), .int .i64 k, .func (.func fd) ⟨bs⟩ ⟨cs⟩] h
      (fun r h' => (∃ e ∈ l, e.id = k ∧ R e r h') ∨ (∀ e ∈ l, e.id ≠ k) ∧ r = .int .i64 10 ∧ h' = h) (fun _ _ => False) := by
  haveI : HGet h p _ := ⟨hs.gp⟩
  haveI : HGet h m _ := ⟨hs.gm⟩
  refine zubQ_runs ?_
  refine stp ?_
  refine O.call' (mnone_ok hs) (fun r h0 hr => ?_)
  obtain ⟨rfl, rfl⟩ := hr
  obtain ⟨pv, b, hb1, hb2, hlk⟩ := lookup_any (k := k) hs.ok (.pointer none)
  refine stp ?_
  cases b with
  | true =>
    obtain ⟨e, he, hk, rfl⟩ := hb1 rfl
    obtain ⟨f, hf, rfl⟩ := List.mem_map.1 he
    refine stp ?_
    refine O.call' (all := (bs ++ [.pointer (some ⟨f.b, 0, none⟩)]) ++ cs) (hd f hf hk) (fun r h1 hr => ?_)
    refine stp ?_
    exact .inl ⟨f, hf, hk, hr⟩
  | false =>
    obtain ⟨hno, rfl⟩ := hb2 rfl
    refine stp ?_
    exact .inr ⟨fun e he => hno _ (List.mem_map.2 ⟨e, he, rfl⟩), rfl, rfl⟩
theorem find_l {l : List LE} {L : List LT} {k : Int} (hp : (l.map LE.tr).Perm L) (hn : (L.map LT.id).Nodup) {e : LE} (he : e ∈ l) (hk : e.id = k) : findT k L = some e.tr :=
  find_of hn (hp.mem_iff.1 (List.mem_map.2 ⟨e, he, rfl⟩)) hk
theorem find_no {l : List LE} {L : List LT} {k : Int} (hp : (l.map LE.tr).Perm L) (hno : ∀ e ∈ l, e.id ≠ k) : findT k L = none := by
  cases h : findT k L with
  | none => rfl
  | some x =>
    obtain ⟨h1, h2⟩ := find_some h
    obtain ⟨e, he, rfl⟩ := List.mem_map.1 (hp.mem_iff.2 h1)
    exact absurd h2 (hno e he)
theorem less_tr {l : List LE} {L : List LT} (hp : (l.map LE.tr).Perm L) (k : Int) : ((lessL k l).map LE.tr).Perm (lessT k L) := by
  have e1 : (lessL k l).map LE.tr = lessT k (l.map LE.tr) := by unfold lessL lessT; rw [List.filter_map]; rfl
  rw [e1]
  exact hp.filter _
theorem due_tr {l : List LE} {L : List LT} (hp : (l.map LE.tr).Perm L) (hn : (L.map LT.id).Nodup) (k d : Int) : ((dueL k d l).map LE.tr).Perm (moveT k d L) := by
  have e1 : (dueL k d l).map LE.tr = dueT k d (l.map LE.tr) := by
    unfold dueL dueT
    rw [List.map_map, List.map_map]
    refine List.map_congr_left fun s _ => ?_
    show (if s.id = k then { s with due := d } else s : LE).tr = if s.tr.id = k then { s.tr with due := d } else s.tr
    show (if s.id = k then { s with due := d } else s : LE).tr = if s.id = k then { s.tr with due := d } else s.tr
    split <;> rfl
  rw [e1]
  exact (hp.map _).trans (move_perm hn).symm
theorem MV.len (hv : MV h p most s W) (hm : most ≤ 4096) : s.L.length ≤ 4096 := by
  have := hv.iv.le
  omega
theorem MAt.reset {m c : Nat} {x y z x' y' z' : Int} {u : Value} {S l : List LE} (hs : MAt h p m c x y z u S l) : MAt (h.set p (.cells (mcells x' y' z' u m) 0)) p m c x' y' z' u S l := by
  have hf : Fr (fun i => i = p) h (h.set p (.cells (mcells x' y' z' u m) 0)) := Fr.refl.set fun _ => rfl
  exact ⟨hf.lt hs.pl, hf.lt hs.ml, hs.pm, by rw [Heap.get_set, if_pos rfl], by rw [hf.get _ hs.ml (fun e => hs.pm e.symm)]; exact hs.gm, hs.ok, hs.pe, hs.hp, hs.ou.keep hf fun i hi => (hs.su i hi).1, fun e he => (hs.ats e he).keep hf fun i hi => (hs.sp e he i hi).1, hs.su, hs.sp, hs.nd, hs.sv, hs.dj⟩
theorem after_of {m c' : Nat} {u u' : Value} {S' l l' : List LE} {s' : MS} (hw : ∀ i, W i ↔ MMine p m u l i) (hs' : MAt h' p m c' most s'.last s'.lost u' S' l') (hp' : (l'.map LE.tr).Perm s'.L) (iv' : MOK most s') (hu : ∀ i, ownedBy u' i → ownedBy u i ∨ h.n ≤ i) (hl : ∀ e ∈ l', ∀ i, e.mine i → (∃ e' ∈ l, e'.mine i) ∨ h.n ≤ i) (hf : Fr (MMine p m u l) h h') : After h p most W s' h' :=
  ⟨MMine p m u' l', ⟨⟨m, c', u', S', l', hs', hp', fun _ => Iff.rfl⟩, iv'⟩, fun i hi => by
    rcases hi with (hi | hi | hi) | ⟨e, he, hi⟩
    · exact .inl ((hw i).2 (.inl (.inl hi)))
    · exact .inl ((hw i).2 (.inl (.inr (.inl hi))))
    · exact (hu i hi).imp (fun q => (hw i).2 (.inl (.inr (.inr q)))) id
    · exact (hl e he i hi).imp (fun q => (hw i).2 (.inr q)) id, hf.mono fun i _ hi => (hw i).2 hi⟩
theorem due_mine {l : List LE} {k d : Int} : ∀ e ∈ dueL k d l, ∀ i, e.mine i → (∃ e' ∈ l, e'.mine i) ∨ h.n ≤ i := fun e he i hi => by
  obtain ⟨s, hs, b1, b2, _⟩ := due_mem he
  refine .inl ⟨s, hs, ?_⟩
  rcases hi with hi | hi
  · exact .inl (by rw [hi, b1])
  · exact .inr (by rw [← b2]; exact hi)
theorem less_mine {l : List LE} {k : Int} : ∀ e ∈ lessL k l, ∀ i, e.mine i → (∃ e' ∈ l, e'.mine i) ∨ h.n ≤ i := fun e he i hi => .inl ⟨e, (List.mem_filter.1 he).1, hi⟩
theorem MV.llen {l : List LE} (hv : MV h p most s W) (hm : most ≤ 4096) (hp : (l.map LE.tr).Perm s.L) : l.length ≤ 4096 := by
  have := hp.length_eq
  rw [List.length_map] at this
  have := hv.len hm
  omega
set_option maxHeartbeats 4000000 in
theorem Lose_ok {k : Int} (hv : MV h p most s W) (hm : most ≤ 4096) (hk0 : s.lost < 1000000) :
    Runs Try.prog T0 (.fn fn_zhbQ) [.pointer (some ⟨p, 0, none⟩), .int .i64 k] h (fun r h' => r = .int .i64 (loseS s k).2 ∧ After h p most W (loseS s k).1 h') (fun _ _ => False) := by
  obtain ⟨m, c, u, S, l, hs, hp, hw⟩ := hv.kp
  have hlen := hv.llen hm hp
  have hl0 := hv.iv.k0
  refine zhbQ_runs ?_
  refine stp ?_
  refine O.call' (mwith_ok hs (k := k) (fd := fn_zqbQ) (bs := [.pointer (some ⟨p, 0, none⟩)]) (cs := []) (R := fun e r h' => r = .int .i64 0 ∧ ∃ u' S', MAt h' p m c most s.last s.lost u' S' (lessL e.id l) ∧ Fr (MW p m u) h h' ∧ ∀ i, ownedBy u' i → ownedBy u i ∨ h.n ≤ i) (fun e he hk => gone_ok hs he (by omega))) (fun r h1 hr => ?_)
  unfold loseS
  rcases hr with ⟨e, he, hk, rfl, u', S', hs1, f1, hu1⟩ | ⟨hno, rfl, rfl⟩
  · rw [find_l hp hv.iv.nd he hk]
    haveI : HGet h1 p _ := ⟨hs1.gp⟩
    refine stp ?_
    refine ⟨rfl, after_of hw hs1.reset ?_ (hv.iv.less _ _ (by omega)) hu1 less_mine ((f1.mono fun _ _ q => .inl q).set fun _ => .inl (.inl rfl))⟩
    rw [hk]
    exact less_tr hp k
  · rw [find_no hp hno]
    refine stp ?_
    exact ⟨rfl, After.same hv Fr.refl⟩
set_option maxHeartbeats 4000000 in
theorem Delay_ok {k d : Int} (hv : MV h p most s W) (hm : most ≤ 4096) :
    Runs Try.prog T0 (.fn fn_zebQ) [.pointer (some ⟨p, 0, none⟩), .int .i64 k, .int .i64 d] h (fun r h' => r = .int .i64 (delayS s k d).2 ∧ After h p most W (delayS s k d).1 h') (fun _ _ => False) := by
  obtain ⟨m, c, u, S, l, hs, hp, hw⟩ := hv.kp
  have hlen := hv.llen hm hp
  refine zebQ_runs ?_
  refine stp ?_
  have F0 : Fr (fun _ => False) h ((h.push (.cells [.pointer (some ⟨p, 0, none⟩)] 0)).push (.cells [.int .i64 d] 0)) := Fr.refl.push.push
  have g1 : ((h.push (.cells [.pointer (some ⟨p, 0, none⟩)] 0)).push (.cells [.int .i64 d] 0)).get h.n = .cells [.pointer (some ⟨p, 0, none⟩)] 0 := by rw [Heap.get_push, if_neg (by simp), Heap.get_push, if_pos rfl]
  have g2 : ((h.push (.cells [.pointer (some ⟨p, 0, none⟩)] 0)).push (.cells [.int .i64 d] 0)).get (h.n + 1) = .cells [.int .i64 d] 0 := HGet.new.eq
  have n0 : ((h.push (.cells [.pointer (some ⟨p, 0, none⟩)] 0)).push (.cells [.int .i64 d] 0)).n = h.n + 2 := rfl
  have nb : (h.push (.cells [.pointer (some ⟨p, 0, none⟩)] 0)).n = h.n + 1 := rfl
  generalize (h.push (.cells [.pointer (some ⟨p, 0, none⟩)] 0)).push (.cells [.int .i64 d] 0) = h0 at *
  try rw [nb]
  have hs0 := hs.keep F0 fun _ _ => id
  refine O.call' (mwith_ok hs0 (k := k) (fd := fn_zfbQ) (bs := []) (cs := [.pointer (some ⟨h.n + 1, 0, none⟩), .pointer (some ⟨h.n, 0, none⟩)]) (R := fun e r h' => isDue d = false ∧ r = .int .i64 3 ∧ h' = h0 ∨ isDue d = true ∧ r = .int .i64 0 ∧ ∃ u' S', MAt h' p m c most s.last s.lost u' S' (dueL e.id d l) ∧ Fr (fun i => MW p m u i ∨ i = e.b) h0 h' ∧ ∀ i, ownedBy u' i → ownedBy u i ∨ h0.n ≤ i) (fun e he hk => ?_)) (fun r h1 hr => ?_)
  · haveI : HGet h0 h.n _ := ⟨g1⟩
    haveI : HGet h0 (h.n + 1) _ := ⟨g2⟩
    refine zfbQ_runs ?_
    refine stp ?_
    refine O.call' mdue_ok (fun r h2 hr => ?_)
    obtain ⟨rfl, rfl⟩ := hr
    cases hd : isDue d with
    | false =>
      refine stp ?_
      exact .inl ⟨rfl, rfl, rfl⟩
    | true =>
      refine stp ?_
      refine O.call' (moved_ok hs0 he (by omega)) (fun r h3 hr => ?_)
      refine stp ?_
      exact .inr ⟨rfl, rfl, hr⟩
  refine stp ?_
  unfold delayS
  rcases hr with ⟨e, he, hk, hr⟩ | ⟨hno, rfl, rfl⟩
  · rw [find_l hp hv.iv.nd he hk]
    rcases hr with ⟨hd, rfl, rfl⟩ | ⟨hd, rfl, u', S', hs1, f1, hu1⟩
    · rw [hd]
      exact ⟨rfl, After.same hv F0⟩
    · rw [hd]
      refine ⟨rfl, after_of hw hs1 ?_ (hv.iv.move k d (isDue_iff.1 hd)) (fun i hi => (hu1 i hi).imp id fun q => by omega) due_mine ((F0.mono fun _ _ e => e.elim).trans' (f1.mono fun i _ q => ?_))⟩
      · rw [hk]
        exact due_tr hp hv.iv.nd k d
      · rcases q with q | q
        · exact .inl q
        · exact .inr ⟨e, he, .inl q⟩
  · rw [find_no hp hno]
    exact ⟨rfl, After.same hv F0⟩
end
end Go.Proofs.Ytoadcfjkkoemdaa.A

namespace Go.Proofs.Ytoadcfjkkoemdaa.A
open Go Go.Vm
set_option maxRecDepth 10000
set_option linter.unusedVariables false
theorem block_own {v : Value} {i : Nat} (h : blockOf v i) : ownedBy v i := by
  match v, h with
  | .slice (some a) n c, h => exact h.1
section
variable {h h' : Heap} {p : Nat} {most : Int} {s : MS} {W : Nat → Prop}
set_option maxHeartbeats 8000000 in
theorem Swap_ok {a b : Int} (hv : MV h p most s W) (hm : most ≤ 4096) :
    Runs Try.prog T0 (.fn fn_zlbQ) [.pointer (some ⟨p, 0, none⟩), .int .i64 a, .int .i64 b] h (fun r h' => r = .int .i64 (swapS s a b).2 ∧ After h p most W (swapS s a b).1 h') (fun _ _ => False) := by
  obtain ⟨m, c, u, S, l, hs, hp, hw⟩ := hv.kp
  have hlen := hv.llen hm hp
  refine zlbQ_runs ?_
  refine stp ?_
  have F0 : Fr (fun _ => False) h ((h.push (.cells [.pointer (some ⟨p, 0, none⟩)] 0)).push (.cells [.int .i64 b] 0)) := Fr.refl.push.push
  have g1 : ((h.push (.cells [.pointer (some ⟨p, 0, none⟩)] 0)).push (.cells [.int .i64 b] 0)).get h.n = .cells [.pointer (some ⟨p, 0, none⟩)] 0 := by rw [Heap.get_push, if_neg (by simp), Heap.get_push, if_pos rfl]
  have g2 : ((h.push (.cells [.pointer (some ⟨p, 0, none⟩)] 0)).push (.cells [.int .i64 b] 0)).get (h.n + 1) = .cells [.int .i64 b] 0 := HGet.new.eq
  have n0 : ((h.push (.cells [.pointer (some ⟨p, 0, none⟩)] 0)).push (.cells [.int .i64 b] 0)).n = h.n + 2 := rfl
  generalize (h.push (.cells [.pointer (some ⟨p, 0, none⟩)] 0)).push (.cells [.int .i64 b] 0) = h0 at *
  have hs0 := hs.keep F0 fun _ _ => id
  refine O.call' (mwith_ok hs0 (k := a) (fd := fn_zmbQ) (bs := []) (cs := [.pointer (some ⟨h.n, 0, none⟩), .pointer (some ⟨h.n + 1, 0, none⟩)]) (R := fun e r h' => (∃ f ∈ l, f.id = b ∧ r = .int .i64 0 ∧ ∃ u' S', MAt h' p m c most s.last s.lost u' S' (dueL b e.due (dueL a f.due l)) ∧ Fr (MMine p m u l) h0 h' ∧ ∀ i, ownedBy u' i → ownedBy u i ∨ h0.n ≤ i) ∨ (∀ f ∈ l, f.id ≠ b) ∧ r = .int .i64 10 ∧ Fr (fun _ => False) h0 h') (fun e he hk => ?_)) (fun r h1 hr => ?_)
  · haveI : HGet h0 h.n _ := ⟨g1⟩
    haveI : HGet h0 (h.n + 1) _ := ⟨g2⟩
    refine zmbQ_runs ?_
    refine stp ?_
    have F1 : Fr (fun _ => False) h0 (h0.push (.cells [.pointer (some ⟨e.b, 0, none⟩)] 0)) := Fr.refl.push
    have g3 : (h0.push (.cells [.pointer (some ⟨e.b, 0, none⟩)] 0)).get h0.n = .cells [.pointer (some ⟨e.b, 0, none⟩)] 0 := HGet.new.eq
    have n1 : (h0.push (.cells [.pointer (some ⟨e.b, 0, none⟩)] 0)).n = h0.n + 1 := rfl
    generalize h0.push (.cells [.pointer (some ⟨e.b, 0, none⟩)] 0) = h1 at *
    have hs1 := hs0.keep F1 fun _ _ => id
    have g11 : h1.get h.n = _ := (F1.get _ (by omega) id).trans g1
    have g12 : h1.get (h.n + 1) = _ := (F1.get _ (by omega) id).trans g2
    haveI : HGet h1 h.n _ := ⟨g11⟩
    haveI : HGet h1 (h.n + 1) _ := ⟨g12⟩
    refine stp ?_
    refine O.call' (mwith_ok hs1 (k := b) (fd := fn_znbQ) (bs := []) (cs := [.pointer (some ⟨h0.n, 0, none⟩), .pointer (some ⟨h.n, 0, none⟩)]) (R := fun f r h' => r = .int .i64 0 ∧ ∃ u' S', MAt h' p m c most s.last s.lost u' S' (dueL b e.due (dueL a f.due l)) ∧ Fr (MMine p m u l) h1 h' ∧ ∀ i, ownedBy u' i → ownedBy u i ∨ h1.n ≤ i) (fun f hf hk2 => ?_)) (fun r h2 hr => ?_)
    · haveI : HGet h1 h0.n _ := ⟨g3⟩
      haveI : HGet h1 h.n _ := ⟨g11⟩
      haveI : HGet h1 e.b _ := ⟨(hs1.ats e he).get⟩
      haveI : HGet h1 f.b _ := ⟨(hs1.ats f hf).get⟩
      refine znbQ_runs ?_
      refine stp ?_
      refine O.call' (moved_ok hs1 he (by omega)) (fun r h3 hr => ?_)
      obtain ⟨u1, S1, hs3, f3, hu3⟩ := hr
      have n3 := f3.n
      have hb0 : ∀ i, MW p m u i ∨ i = e.b → i < h1.n := fun i hi => hs1.mlt (hi.elim .inl fun q => .inr ⟨e, he, .inl q⟩)
      have g31 : h3.get h0.n = _ := (f3.get _ (by omega) (fun q => by
        rcases q with q | q
        · have := hs0.mlt (.inl q); omega
        · have := (hs0.ats e he).lt; omega)).trans g3
      have g32 : h3.get h.n = _ := (f3.get _ (by omega) (fun q => by
        rcases q with q | q
        · have := hs.mlt (.inl q); omega
        · have := (hs.ats e he).lt; omega)).trans g11
      haveI : HGet h3 h0.n _ := ⟨g31⟩
      haveI : HGet h3 h.n _ := ⟨g32⟩
      obtain ⟨f', hf', hfb, hfid⟩ : ∃ f' ∈ dueL e.id f.due l, f'.b = f.b ∧ f'.id = f.id := ⟨_, List.mem_map.2 ⟨f, hf, rfl⟩, by split <;> rfl, by split <;> rfl⟩
      have hmo := moved_ok (d := e.due) hs3 hf' (by rw [due_len]; omega)
      rw [hfb, hfid, hk, hk2] at hmo
      refine stp ?_
      refine O.call' hmo (fun r h4 hr => ?_)
      obtain ⟨u2, S2, hs4, f4, hu4⟩ := hr
      refine stp ?_
      refine ⟨rfl, u2, S2, hs4, (f3.mono fun i _ q => q.elim .inl fun q => .inr ⟨e, he, .inl q⟩).trans f4 fun i hi q => ?_, fun i hi => ?_⟩
      · rcases q with (q | q | q) | q
        · exact .inl (.inl q)
        · exact .inl (.inr (.inl q))
        · rcases hu3 i q with q | q
          · exact .inl (.inr (.inr q))
          · omega
        · exact .inr ⟨f, hf, .inl q⟩
      · rcases hu4 i hi with q | q
        · exact hu3 i q
        · exact .inr (by omega)
    refine stp ?_
    rcases hr with ⟨f, hf, hk2, rfl, u', S', hs4, f4, hu4⟩ | ⟨hno, rfl, rfl⟩
    · exact .inl ⟨f, hf, hk2, rfl, u', S', hs4, (F1.mono fun _ _ e => e.elim).trans' f4, fun i hi => (hu4 i hi).imp id fun q => by omega⟩
    · exact .inr ⟨hno, rfl, F1⟩
  refine stp ?_
  unfold swapS
  rcases hr with ⟨e, he, hk, hr⟩ | ⟨hno, rfl, rfl⟩
  · rw [find_l hp hv.iv.nd he hk]
    rcases hr with ⟨f, hf, hk2, rfl, u', S', hs4, f4, hu4⟩ | ⟨hno, rfl, f1⟩
    · rw [find_l hp hv.iv.nd hf hk2]
      have hrf := (hv.iv.rg f.tr (hp.mem_iff.1 (List.mem_map.2 ⟨f, hf, rfl⟩))).2.2.1
      have hre := (hv.iv.rg e.tr (hp.mem_iff.1 (List.mem_map.2 ⟨e, he, rfl⟩))).2.2.1
      have iv1 := hv.iv.move a f.due hrf
      have iv2 := iv1.move b e.due hre
      refine ⟨rfl, after_of hw hs4 (due_tr (due_tr hp hv.iv.nd a f.due) iv1.nd b e.due) iv2 (fun i hi => (hu4 i hi).imp id fun q => by omega) (fun g hg i hi => ?_) ((F0.mono fun _ _ e => e.elim).trans' f4)⟩
      rcases due_mine (h := h) g hg i hi with ⟨g', hg', hi'⟩ | q
      · exact due_mine g' hg' i hi'
      · exact .inr q
    · rw [find_no hp hno]
      exact ⟨rfl, After.same hv (F0.trans' f1)⟩
  · rw [find_no hp hno]
    exact ⟨rfl, After.same hv F0⟩
set_option maxHeartbeats 8000000 in
theorem Twice_ok {k d : Int} (hv : MV h p most s W) (hm : most ≤ 4096) (hlast : s.last < 1000000) :
    Runs Try.prog T0 (.fn fn_zobQ) [.pointer (some ⟨p, 0, none⟩), .int .i64 k, .int .i64 d] h (fun r h' => r = .tuple ⟨[.int .i64 (twiceS most s k d).2.1, .int .i64 (twiceS most s k d).2.2]⟩ ∧ After h p most W (twiceS most s k d).1 h') (fun _ _ => False) := by
  obtain ⟨m, c, u, S, l, hs, hp, hw⟩ := hv.kp
  have hlen := hv.llen hm hp
  have hLl : s.L.length = l.length := by have := hp.length_eq; rw [List.length_map] at this; exact this.symm
  have hsl := hs.pe.length_eq
  have hid : ∀ e ∈ l, e.id ≤ s.last := fun e he => (hv.iv.id e.tr (hp.mem_iff.1 (List.mem_map.2 ⟨e, he, rfl⟩))).2
  have hl0 := hv.iv.l0
  refine zobQ_runs ?_
  refine stp ?_
  rw [show ((h.push (.cells [.pointer (some ⟨p, 0, none⟩)] 0)).push (.cells [.int .i64 d] 0)).n = h.n + 2 from rfl, show (h.push (.cells [.pointer (some ⟨p, 0, none⟩)] 0)).n = h.n + 1 from rfl]
  have F0 : Fr (fun _ => False) h (((h.push (.cells [.pointer (some ⟨p, 0, none⟩)] 0)).push (.cells [.int .i64 d] 0)).push (.cells [.int .i64 0] 0)) := Fr.refl.push.push.push
  have g1 : (((h.push (.cells [.pointer (some ⟨p, 0, none⟩)] 0)).push (.cells [.int .i64 d] 0)).push (.cells [.int .i64 0] 0)).get h.n = .cells [.pointer (some ⟨p, 0, none⟩)] 0 := by rw [Heap.get_push, if_neg (by simp; omega), Heap.get_push, if_neg (by simp), Heap.get_push, if_pos rfl]
  have g2 : (((h.push (.cells [.pointer (some ⟨p, 0, none⟩)] 0)).push (.cells [.int .i64 d] 0)).push (.cells [.int .i64 0] 0)).get (h.n + 1) = .cells [.int .i64 d] 0 := by rw [Heap.get_push, if_neg (by simp), Heap.get_push, if_pos (by simp)]
  have g3 : (((h.push (.cells [.pointer (some ⟨p, 0, none⟩)] 0)).push (.cells [.int .i64 d] 0)).push (.cells [.int .i64 0] 0)).get (h.n + 2) = .cells [.int .i64 0] 0 := HGet.new.eq
  have n0 : (((h.push (.cells [.pointer (some ⟨p, 0, none⟩)] 0)).push (.cells [.int .i64 d] 0)).push (.cells [.int .i64 0] 0)).n = h.n + 3 := rfl
  generalize ((h.push (.cells [.pointer (some ⟨p, 0, none⟩)] 0)).push (.cells [.int .i64 d] 0)).push (.cells [.int .i64 0] 0) = h0 at *
  have hs0 := hs.keep F0 fun _ _ => id
  refine O.call' (mwith_ok hs0 (k := k) (fd := fn_zpbQ) (bs := []) (cs := [.pointer (some ⟨h.n + 1, 0, none⟩), .pointer (some ⟨h.n, 0, none⟩), .pointer (some ⟨h.n + 2, 0, none⟩)]) (R := fun e r h' =>
      isDue d = false ∧ r = .int .i64 3 ∧ h' = h0 ∨ isDue d = true ∧ most ≤ l.length ∧ r = .int .i64 7 ∧ h' = h0 ∨
      isDue d = true ∧ (l.length : Int) < most ∧ r = .int .i64 0 ∧ h'.get (h.n + 2) = .cells [.int .i64 (s.last + 1)] 0 ∧ h.n + 2 < h'.n ∧ ∃ u' S' b w, MAt h' p m (c + 1) most (s.last + 1) s.lost u' S' (l ++ [⟨b, c, s.last + 1, e.fr, e.to, d, e.bs, w⟩]) ∧ Fr (fun i => MW p m u i ∨ i = h.n + 2) h0 h' ∧ (∀ i, ownedBy u' i → ownedBy u i ∨ h0.n ≤ i) ∧ h0.n ≤ b ∧ ∀ i, ownedBy w i → h0.n ≤ i) (fun e he hk => ?_)) (fun r h1 hr => ?_)
  · have hea := hs0.ats e he
    haveI : HGet h0 h.n _ := ⟨g1⟩
    haveI : HGet h0 (h.n + 1) _ := ⟨g2⟩
    haveI : HGet h0 p _ := ⟨hs0.gp⟩
    haveI : BLt h.n h0 := ⟨by omega⟩
    haveI : BLt (h.n + 1) h0 := ⟨by omega⟩
    haveI : BLt (h.n + 2) h0 := ⟨by omega⟩
    haveI : BLt e.b h0 := ⟨hea.lt⟩
    obtain ⟨aw, cw, ew, _, _⟩ := id hea.own.rd
    have hget : h0.get e.b = .cells (lcells e.id e.fr e.to e.due e.w) 0 := hea.get
    have hown := hea.own
    rw [ew] at hget hown
    haveI : HGet h0 e.b _ := ⟨hget⟩
    obtain ⟨au, cu, rfl, _, _⟩ := id hs0.ou.rd
    refine zpbQ_runs ?_
    refine stp ?_
    refine O.call' mdue_ok (fun r h2 hr => ?_)
    obtain ⟨rfl, rfl⟩ := hr
    cases hd : isDue d with
    | false =>
      refine stp ?_
      exact .inl ⟨rfl, rfl, rfl⟩
    | true =>
      refine stp ?_
      refine C.if (fun hfull => ?_) (fun hfree => ?_)
      · refine stp ?_
        exact .inr (.inl ⟨rfl, by omega, rfl, rfl⟩)
      refine stp ?_
      have F4 : Fr (fun _ => False) h2 (h2.push (.cells (lcells e.id e.fr e.to d (.slice aw e.bs.length cw)) 0)) := Fr.refl.push
      have n4 : (h2.push (.cells (lcells e.id e.fr e.to d (.slice aw e.bs.length cw)) 0)).n = h2.n + 1 := rfl
      generalize h2.push (.cells (lcells e.id e.fr e.to d (.slice aw e.bs.length cw)) 0) = h4 at *
      have hs4 := hs0.keep F4 fun _ _ => id
      have hbl := (hv.iv.rg e.tr (hp.mem_iff.1 (List.mem_map.2 ⟨e, he, rfl⟩))).2.2.2
      have hbl : e.bs.length ≤ 65536 := hbl
      refine O.call' (lay_ok (i0 := e.id) (f := e.fr) (t := e.to) (d := d) hs4 (by omega) ⟨hl0, hlast⟩ hid (hown.keep F4 fun _ _ => id).rd (by omega) (fun i hi => (hs0.sp e he i (.inr (by rw [ew]; exact block_own hi))).1)) (fun r h5 hr => ?_)
      obtain ⟨rfl, u', S', b, w, hs5, f5, hu5, hb5, hw5⟩ := hr
      have n5 := f5.n
      have hold : ∀ {i : Nat}, MMine p m (.slice au S.length cu) l i → i < h.n := fun {i} hi => hs.mlt hi
      have g5 : h5.get (h.n + 2) = .cells [.int .i64 0] 0 := (f5.get _ (by omega) (fun q => by have := hold (.inl q); omega)).trans ((F4.get _ (by omega) id).trans g3)
      haveI : HGet h5 (h.n + 2) _ := ⟨g5⟩
      refine stp ?_
      have fS : Fr (fun i => i = h.n + 2) h5 (h5.set (h.n + 2) (.cells [.int .i64 (s.last + 1)] 0)) := Fr.refl.set fun _ => rfl
      refine .inr (.inr ⟨rfl, by omega, rfl, by rw [Heap.get_set, if_pos rfl], fS.lt (by omega), u', S', b, w, hs5.keep fS fun i hi q => ?_, ((F4.mono fun _ _ e => e.elim).trans' (f5.mono fun i _ q => .inl q)).trans' (fS.mono fun i _ q => .inr q), fun i hi => (hu5 i hi).imp id fun q => by omega, by omega, fun i hi => by have := hw5 i hi; omega⟩)
      rcases hi with (hi | hi | hi) | ⟨f, hf, hi⟩
      · have := hold (.inl (.inl hi)); omega
      · have := hold (.inl (.inr (.inl hi))); omega
      · rcases hu5 i hi with q2 | q2
        · have := hold (.inl (.inr (.inr q2))); omega
        · omega
      · rcases List.mem_append.1 hf with hf | hf
        · have := hold (.inr ⟨f, hf, hi⟩); omega
        · rw [List.mem_singleton.1 hf] at hi
          rcases hi with hi | hi
          · have hi : i = b := hi
            omega
          · have := hw5 i hi; omega
  have add_tr : ∀ {x : LE}, ((l ++ [x]).map LE.tr).Perm (insT x.tr s.L) := fun {x} => by
    rw [List.map_append, List.map_singleton]
    exact (List.perm_append_comm).trans ((List.Perm.cons _ hp).trans (ins_perm _ _).symm)
  unfold twiceS
  rcases hr with ⟨e, he, hk, hr⟩ | ⟨hno, rfl, rfl⟩
  · rw [find_l hp hv.iv.nd he hk]
    have hre := hv.iv.rg e.tr (hp.mem_iff.1 (List.mem_map.2 ⟨e, he, rfl⟩))
    rcases hr with ⟨hd, rfl, rfl⟩ | ⟨hd, hfu, rfl, rfl⟩ | ⟨hd, hfr, rfl, g6, n6, u', S', b, w, hs6, f6, hu6, hb6, hw6⟩
    · haveI : HGet h1 (h.n + 2) _ := ⟨g3⟩
      refine stp ?_
      simp only [hd, if_true]
      exact ⟨trivial, After.same hv (F0.set fun q => absurd q (by omega))⟩
    · haveI : HGet h1 (h.n + 2) _ := ⟨g3⟩
      refine stp ?_
      simp only [hd, Bool.true_eq_false, if_false]
      rw [if_pos (by rw [hLl]; exact hfu)]
      exact ⟨rfl, After.same hv (F0.set fun q => absurd q (by omega))⟩
    · haveI : HGet h1 (h.n + 2) _ := ⟨g6⟩
      refine stp ?_
      simp only [hd, Bool.true_eq_false, if_false]
      rw [if_neg (by rw [hLl]; omega)]
      have fS : ∀ {A : AObj}, Fr (fun i => i = h.n + 2) h1 (h1.set (h.n + 2) A) := fun {A} => Fr.refl.set fun _ => rfl
      have n6' := f6.n
      have hold : ∀ {i : Nat}, MMine p m u l i → i < h.n := fun {i} hi => hs.mlt hi
      refine ⟨rfl, after_of hw (hs6.keep fS fun i hi q => ?_) add_tr (hv.iv.add (by rw [hLl]; exact hfr) hre.1 hre.2.1 (isDue_iff.1 hd) hre.2.2.2) (fun i hi => (hu6 i hi).imp id fun q => by omega) (fun f hf i hi => ?_) (((F0.mono fun _ _ e => e.elim).trans f6 fun i hi q => ?_).trans fS fun i hi q => by omega)⟩
      · rcases hi with (hi | hi | hi) | ⟨f, hf, hi⟩
        · have := hold (.inl (.inl hi)); omega
        · have := hold (.inl (.inr (.inl hi))); omega
        · rcases hu6 i hi with q2 | q2
          · have := hold (.inl (.inr (.inr q2))); omega
          · omega
        · rcases List.mem_append.1 hf with hf | hf
          · have := hold (.inr ⟨f, hf, hi⟩); omega
          · rw [List.mem_singleton.1 hf] at hi
            rcases hi with hi | hi
            · have hi : i = b := hi
              omega
            · have := hw6 i hi; omega
      · rcases List.mem_append.1 hf with hf | hf
        · exact .inl ⟨f, hf, hi⟩
        · rw [List.mem_singleton.1 hf] at hi
          rcases hi with hi | hi
          · have hi : i = b := hi
            exact .inr (by omega)
          · have := hw6 i hi
            exact .inr (by omega)
      · rcases q with q | q
        · exact .inl q
        · omega
  · haveI : HGet h1 (h.n + 2) _ := ⟨g3⟩
    rw [find_no hp hno]
    refine stp ?_
    exact ⟨rfl, After.same hv (F0.set fun q => absurd q (by omega))⟩
end
end Go.Proofs.Ytoadcfjkkoemdaa.A

namespace Go.Proofs.Ytoadcfjkkoemdaa.A
open Go Go.Vm
set_option maxRecDepth 10000
set_option linter.unusedVariables false
section
variable {h h' : Heap} {p : Nat} {most : Int} {s : MS} {W : Nat → Prop}
theorem add_tr {l : List LE} {x : LE} {L : List LT} (hp : (l.map LE.tr).Perm L) : ((l ++ [x]).map LE.tr).Perm (insT x.tr L) := by
  rw [List.map_append, List.map_singleton]
  exact (List.perm_append_comm).trans ((List.Perm.cons _ hp).trans (ins_perm _ _).symm)
theorem MNew_ok {most : Int} : Runs Try.prog T0 (.fn fn_zvbQ) [.int .i64 most] h
    (fun r h' => Fr (fun _ => False) h h' ∧ ((most < 1 ∨ 4096 < most) ∧ r = .tuple ⟨[.pointer none, .int .i64 3]⟩ ∨ (1 ≤ most ∧ most ≤ 4096) ∧ ∃ p W, r = .tuple ⟨[.pointer (some ⟨p, 0, none⟩), .int .i64 0]⟩ ∧ MV h' p most ⟨0, 0, []⟩ W ∧ ∀ i, W i → h.n ≤ i)) (fun _ _ => False) := by
  refine zvbQ_runs ?_
  refine stp ?_
  refine O.dec (fun h1 => ?_) (fun h1 => ?_)
  · refine stp ?_
    exact ⟨Fr.refl, .inl ⟨.inl h1, rfl⟩⟩
  · refine stp ?_
    refine C.if (fun h2 => ?_) (fun h2 => ?_)
    · refine stp ?_
      exact ⟨Fr.refl, .inl ⟨.inr h2, rfl⟩⟩
    · refine stp ?_
      refine ⟨Fr.refl.push.push, .inr ⟨⟨by omega, by omega⟩, _, MMine (h.n + 1) h.n (.slice none 0 0) [], rfl, ⟨⟨h.n, 0, .slice none 0 0, [], [], ⟨by simp, by simp; omega, by show h.n + 1 ≠ h.n; omega, HGet.new.eq, by rw [Heap.get_push, if_neg (by simp), Heap.get_push, if_pos rfl]; rfl, EntsOK.nil, .refl _, fun k h0 hk => by simp at hk, .none, by simp, fun i hi => hi.elim, by simp, by simp, by simp, by simp⟩, .refl _, fun _ => Iff.rfl⟩, ⟨List.Pairwise.nil, by simp, by simp, by simp; omega, by simp, by simp, by simp⟩⟩, fun i hi => ?_⟩⟩
      rcases hi with (q | q | q) | ⟨_, q, _⟩
      · omega
      · omega
      · exact q.elim
      · exact absurd q (by simp)
set_option maxHeartbeats 8000000 in
theorem Post_ok {f t d : Int} {v : Value} {bs : List UInt8} (hv : MV h p most s W) (hm : most ≤ 4096) (hlast : s.last < 1000000) (hr : Rd h 1 v (bcells bs) bs.length) (hb : bs.length < 1000000) (hvW : ∀ i, blockOf v i → ¬ W i) :
    Runs Try.prog T0 (.fn fn_zkbQ) [.pointer (some ⟨p, 0, none⟩), .int .i64 f, .int .i64 t, .int .i64 d, v] h (fun r h' => r = .tuple ⟨[.int .i64 (postS most s f t d bs).2.1, .int .i64 (postS most s f t d bs).2.2]⟩ ∧ After h p most W (postS most s f t d bs).1 h') (fun _ _ => False) := by
  obtain ⟨m, c, u, S, l, hs, hp, hw⟩ := hv.kp
  have hlen := hv.llen hm hp
  have hLl : s.L.length = l.length := by have := hp.length_eq; rw [List.length_map] at this; exact this.symm
  have hsl := hs.pe.length_eq
  have hid : ∀ e ∈ l, e.id ≤ s.last := fun e he => (hv.iv.id e.tr (hp.mem_iff.1 (List.mem_map.2 ⟨e, he, rfl⟩))).2
  have hl0 := hv.iv.l0
  obtain ⟨a, cap, rfl, hlv, _⟩ := id hr
  obtain ⟨au, cu, rfl, _, _⟩ := id hs.ou.rd
  haveI : HGet h p _ := ⟨hs.gp⟩
  unfold postS
  refine zkbQ_runs ?_
  refine stp ?_
  refine O.call' (mnone_ok hs) (fun r h hr => ?_)
  obtain ⟨rfl, rfl⟩ := hr
  refine stp ?_
  refine O.call' mends_ok (fun r h hr => ?_)
  obtain ⟨rfl, rfl⟩ := hr
  cases hf : isEnd f with
  | false =>
    refine stp ?_
    exact ⟨rfl, After.same hv Fr.refl⟩
  | true =>
  refine stp ?_
  refine O.callT mends_ok (fun r h hr => ?_)
  obtain ⟨rfl, rfl⟩ := hr
  cases ht : isEnd t with
  | false =>
    refine stp ?_
    exact ⟨rfl, After.same hv Fr.refl⟩
  | true =>
  refine stp ?_
  refine O.callT mdue_ok (fun r h hr => ?_)
  obtain ⟨rfl, rfl⟩ := hr
  cases hd : isDue d with
  | false =>
    refine stp ?_
    exact ⟨rfl, After.same hv Fr.refl⟩
  | true =>
  simp only [Bool.and_true, Bool.true_eq_false, if_false]
  refine stp ?_
  refine C.if (fun hlong => ?_) (fun hshort => ?_)
  · refine stp ?_
    rw [if_pos (by omega)]
    exact ⟨rfl, After.same hv Fr.refl⟩
  rw [if_neg (by omega)]
  refine stp ?_
  refine C.if (fun hfull => ?_) (fun hfree => ?_)
  · refine stp ?_
    rw [if_pos (by omega)]
    exact ⟨rfl, After.same hv Fr.refl⟩
  rw [if_neg (by omega)]
  refine stp ?_
  refine O.call' (lay_ok (i0 := 0) (f := f) (t := t) (d := d) hs (by omega) ⟨hl0, hlast⟩ hid hr (by omega) (fun i hi q => hvW i hi (by rw [q]; exact hv.hasP))) (fun r h5 hr => ?_)
  obtain ⟨rfl, u', S', b, w, hs5, f5, hu5, hb5, hw5⟩ := hr
  refine stp ?_
  refine ⟨rfl, after_of hw hs5 (add_tr hp) (hv.iv.add (by omega) (isEnd_iff.1 hf) (isEnd_iff.1 ht) (isDue_iff.1 hd) (by omega)) hu5 (fun g hg i hi => ?_) (f5.mono fun i _ q => .inl q)⟩
  rcases List.mem_append.1 hg with hg | hg
  · exact .inl ⟨g, hg, hi⟩
  · rw [List.mem_singleton.1 hg] at hi
    rcases hi with hi | hi
    · have hi : i = b := hi
      exact .inr (by omega)
    · exact .inr (hw5 i hi)
theorem MLost_ok (hv : MV h p most s W) : Runs Try.prog T0 (.fn fn_zibQ) [.pointer (some ⟨p, 0, none⟩)] h (fun r h' => r = .int .i64 s.lost ∧ h' = h) (fun _ _ => False) := by
  obtain ⟨m, c, u, S, l, hs, hp, hw⟩ := hv.kp
  haveI : HGet h p _ := ⟨hs.gp⟩
  refine zibQ_runs ?_
  refine stp ?_
  refine O.call' (mnone_ok hs) (fun r h hr => ?_)
  obtain ⟨rfl, rfl⟩ := hr
  refine stp ?_
  exact ⟨rfl, rfl⟩
theorem head_tr {S l : List LE} {L : List LT} (hh : HeapP ltL 0 S.length S) (hpe : S.Perm l) (hp : (l.map LE.tr).Perm L) (hso : SrtT L) (hn : (L.map LT.id).Nodup) (h0 : 0 < S.length) : ∃ M, L = (at' S 0).tr :: M := by
  have hm : (at' S 0).tr ∈ L := hp.mem_iff.1 (List.mem_map.2 ⟨_, hpe.mem_iff.1 (at_mem h0), rfl⟩)
  cases L with
  | nil => simp at hm
  | cons x M =>
    refine ⟨M, ?_⟩
    rcases List.mem_cons.1 hm with e | e
    · rw [e]
    · unfold SrtT at hso
      rw [List.pairwise_cons] at hso
      have h1 := hso.1 _ e
      obtain ⟨y, hy, rfl⟩ := List.mem_map.1 (hp.mem_iff.2 (List.mem_cons_self ..))
      have h2 := root_le ltL_ord hh (hpe.mem_iff.2 hy)
      have h3 : ltT y.tr (at' S 0).tr = ltL y (at' S 0) := rfl
      rw [h3, h2] at h1
      cases h1
def nextS (L : List LT) : Int × Bool := match L with
  | [] => (0, false)
  | t :: _ => (t.due, true)
set_option maxHeartbeats 4000000 in
theorem MNext_ok (hv : MV h p most s W) (hm : most ≤ 4096) : Runs Try.prog T0 (.fn fn_zjbQ) [.pointer (some ⟨p, 0, none⟩)] h (fun r h' => r = .tuple ⟨[.int .i64 (nextS s.L).1, .bool (nextS s.L).2]⟩ ∧ h' = h) (fun _ _ => False) := by
  obtain ⟨m, c, u, S, l, hs, hp, hw⟩ := hv.kp
  have hlen := hv.llen hm hp
  have hsl := hs.pe.length_eq
  have hLl : s.L.length = l.length := by have := hp.length_eq; rw [List.length_map] at this; exact this.symm
  haveI : HGet h p _ := ⟨hs.gp⟩
  obtain ⟨au, cu, rfl, _, hcu⟩ := id hs.ou.rd
  refine zjbQ_runs ?_
  refine stp ?_
  refine O.call' (mnone_ok hs) (fun r h hr => ?_)
  obtain ⟨rfl, rfl⟩ := hr
  refine stp ?_
  refine C.if (fun h0 => ?_) (fun h0 => ?_)
  · refine stp ?_
    have : s.L = [] := List.length_eq_zero_iff.1 (by omega)
    rw [this]
    exact ⟨rfl, rfl⟩
  · have h0' : 0 < S.length := by omega
    obtain ⟨q, o, sp, rfl, hq, hcc⟩ := hcu (by omega)
    have hml : (S.map LE.b).length = S.length := List.length_map _
    haveI : Cell h q (o + 0) (.pointer (some ⟨(S.map LE.b).getD 0 0, 0, none⟩)) := pcell_at hcc hml h0'
    have e0 : (S.map LE.b).getD 0 0 = (at' S 0).b := at_map LE.b h0'
    have ha := hs.ats _ (hs.pe.mem_iff.1 (at_mem h0'))
    rw [e0] at this
    haveI := this
    haveI : HGet h (at' S 0).b _ := ⟨ha.get⟩
    obtain ⟨M, hM⟩ := head_tr hs.hp hs.pe hp hv.iv.so hv.iv.nd h0'
    refine stp ?_
    rw [hM]
    exact ⟨rfl, rfl⟩
end
end Go.Proofs.Ytoadcfjkkoemdaa.A

namespace Go.Proofs.Ytoadcfjkkoemdaa.A
open Go Go.Vm
set_option maxRecDepth 10000
set_option linter.unusedVariables false
theorem one_let {h : Heap} {a b c d : Int} {v : Value} {es : Nat} : newCells (h.push (.cells (lcells a b c d v) es)) 5 [.int .i64 0, .int .i64 0, .int .i64 0, .int .i64 0, .slice none 0 0] false (.slice (some ⟨h.n, 0, none⟩) 1 1) = some (1, lcells a b c d v) :=
  (Rd.mk (size := 5) (n := 1) (cap := 1) (sp := none) (o := 0) (b := h.n) (c := lcells a b c d v) (by simp) (by rw [cellsAt_of (c := lcells a b c d v) (by rw [Heap.get_push, if_pos rfl]; rfl) (by simp)]; rfl)).new _
def ocells (O : List LE) : List Value := O.flatMap LE.cells
theorem ocells_len (O : List LE) : (ocells O).length = O.length * 5 := by
  induction O with
  | nil => rfl
  | cons a O ih =>
    show (a.cells ++ ocells O).length = _
    rw [List.length_append, ih]
    simp
    omega
theorem ocells_add (O : List LE) (e : LE) : ocells (O ++ [e]) = ocells O ++ e.cells := by simp [ocells]
structure LetOut (h : Heap) (r : Value) (O : List LE) : Prop where
  ow : Own h 5 r (ocells O) O.length
  wt : ∀ e ∈ O, Own h 1 e.w (bcells e.bs) e.bs.length
  rw : ∀ e ∈ O, ∀ i, ownedBy e.w i → ¬ ownedBy r i
  dj : O.Pairwise fun e e' => ∀ i, ownedBy e.w i → ¬ ownedBy e'.w i
def OMine (r : Value) (O : List LE) (i : Nat) : Prop := ownedBy r i ∨ ∃ e ∈ O, ownedBy e.w i
theorem LetOut.keep {T : Nat → Prop} {h h' : Heap} {r : Value} {O : List LE} (ho : LetOut h r O) (hf : Fr T h h') (hn : ∀ i, OMine r O i → ¬ T i) : LetOut h' r O :=
  ⟨ho.ow.keep hf fun i hi => hn i (.inl hi), fun e he => (ho.wt e he).keep hf fun i hi => hn i (.inr ⟨e, he, hi⟩), ho.rw, ho.dj⟩
theorem LetOut.lt {h : Heap} {r : Value} {O : List LE} (ho : LetOut h r O) {i : Nat} (hi : OMine r O i) : i < h.n := by
  rcases hi with hi | ⟨e, he, hi⟩
  · exact ho.ow.lt hi
  · exact (ho.wt e he).lt hi
theorem LetOut.nil {h : Heap} : LetOut h (.slice none 0 0) [] := ⟨.none, by simp, by simp, List.Pairwise.nil⟩
structure ComeI (h : Heap) (p m c : Nat) (most : Int) (s : MS) (W : Nat → Prop) (now : Int) (hx : Heap) (v : Value) (O : List LE) (u : Value) (S l : List LE) (K : List LT) : Prop where
  ms : MAt hx p m c most s.last s.lost u S l
  pe : (l.map LE.tr).Perm K
  sp : s.L = O.map LE.tr ++ K
  du : ∀ e ∈ O, e.due ≤ now
  lo : LetOut hx v O
  mw : ∀ i, MMine p m u l i → W i ∨ h.n ≤ i
  vn : ∀ i, ownedBy v i → h.n ≤ i
  on : ∀ i, OMine v O i → (W i ∨ h.n ≤ i) ∧ ¬ MMine p m u l i
  fr : Fr W h hx
section
variable {h : Heap} {p : Nat} {most : Int} {s : MS} {W : Nat → Prop} {now : Int}
theorem came_done {m c : Nat} {hx : Heap} {v : Value} {O : List LE} {u : Value} {S l : List LE} {K : List LT} (hi : ComeI h p m c most s W now hx v O u S l K) (hK : ∀ t ∈ K, now < t.due) (hv : MOK most s) : O.map LE.tr = cameS s now ∧ K = (comeS s now).L := by
  have h1 : ∀ t ∈ O.map LE.tr, t.due ≤ now := fun t ht => by
    obtain ⟨e, he, rfl⟩ := List.mem_map.1 ht
    exact hi.du e he
  refine ⟨?_, ?_⟩
  · unfold cameS
    rw [hi.sp, List.filter_append, List.filter_eq_self.2 (fun t ht => by simpa using h1 t ht), List.filter_eq_nil_iff.2 (fun t ht => by have := hK t ht; simpa using this), List.append_nil]
  · show K = s.L.filter fun t => !decide (t.due ≤ now)
    rw [hi.sp, List.filter_append, List.filter_eq_nil_iff.2 (fun t ht => by simpa using h1 t ht), List.filter_eq_self.2 (fun t ht => by have := hK t ht; simpa using this), List.nil_append]
set_option maxHeartbeats 16000000 in
theorem Come_ok (hv : MV h p most s W) (hm : most ≤ 4096) :
    Runs Try.prog T0 (.fn fn_zdbQ) [.pointer (some ⟨p, 0, none⟩), .int .i64 now] h (fun r h' => ∃ O W', O.map LE.tr = cameS s now ∧ MV h' p most (comeS s now) W' ∧ (∀ i, W' i → W i ∨ h.n ≤ i) ∧ Fr W h h' ∧ LetOut h' r O ∧ (∀ i, ownedBy r i → h.n ≤ i) ∧ ∀ i, OMine r O i → (W i ∨ h.n ≤ i) ∧ ¬ W' i) (fun _ _ => False) := by
  obtain ⟨m, c, u, S, l, hs, hp, hw⟩ := hv.kp
  have hlen := hv.llen hm hp
  haveI : HGet h p _ := ⟨hs.gp⟩
  have done : ∀ {hx : Heap} {v : Value} {O : List LE} {u : Value} {S l : List LE} {K : List LT}, ComeI h p m c most s W now hx v O u S l K → (∀ t ∈ K, now < t.due) → ∃ O W', O.map LE.tr = cameS s now ∧ MV hx p most (comeS s now) W' ∧ (∀ i, W' i → W i ∨ h.n ≤ i) ∧ Fr W h hx ∧ LetOut hx v O ∧ (∀ i, ownedBy v i → h.n ≤ i) ∧ ∀ i, OMine v O i → (W i ∨ h.n ≤ i) ∧ ¬ W' i := fun {hx v O u S l K} hi hK => by
    obtain ⟨e1, e2⟩ := came_done hi hK hv.iv
    exact ⟨O, MMine p m u l, e1, ⟨⟨m, c, u, S, l, hi.ms, by rw [← e2]; exact hi.pe, fun _ => Iff.rfl⟩, hv.iv.less _ _ hv.iv.k0⟩, hi.mw, hi.fr, hi.lo, hi.vn, hi.on⟩
  refine zdbQ_runs ?_
  refine stp ?_
  refine O.call' (mnone_ok hs) (fun r h hr => ?_)
  obtain ⟨rfl, rfl⟩ := hr
  refine stp ?_
  refine loop1 zdbQ_l0_M 4 (fun q v4 hx => ∃ O u S l K, q = K.length ∧ ComeI h p m c most s W now hx v4 O u S l K) ?_ s.L.length ⟨[], u, S, l, s.L, rfl, hs, hp, rfl, by simp, .nil, fun i hi => .inl ((hw i).2 hi), fun i hi => hi.elim, fun i hi => hi.elim (fun q => q.elim) (fun ⟨_, q, _⟩ => absurd q (by simp)), Fr.refl⟩
  clear hs hp hw hlen
  rintro m v4 h' x5 x8 x9 x10 x11 x12 x13 x14 x15 x16 x17 x18 x19 x20 x21 x22 x23 x24 x25 x26 x27 x28 x29 x30 x31 x32 x33 x34 x35 x36 x37 x38 x39 x40 x41 ⟨Z, u, S, l, K, rfl, hi⟩
  have hs := hi.ms
  have hsl := hs.pe.length_eq
  have hKl : K.length = l.length := by have := hi.pe.length_eq; rw [List.length_map] at this; exact this.symm
  have hsK : SrtT K := by have := hv.iv.so; rw [hi.sp] at this; exact this.sublist (List.sublist_append_right ..)
  have hnK : (K.map LT.id).Nodup := by have := hv.iv.nd; rw [hi.sp, List.map_append] at this; exact this.sublist (List.sublist_append_right ..)
  have hZl : Z.length + K.length = s.L.length := by have := congrArg List.length hi.sp; rw [List.length_append, List.length_map] at this; exact this.symm
  have hsL := hv.len hm
  haveI : HGet h' p _ := ⟨hs.gp⟩
  obtain ⟨au, cu, rfl, _, hcu⟩ := id hs.ou.rd
  obtain ⟨av, cv, rfl, _, _⟩ := id hi.lo.ow.rd
  rcases Nat.eq_zero_or_pos S.length with h0 | h0
  · haveI g1 : ∀ {ts : List Value} {h : Heap} {O : Oper} {x z : Operand} [Ev ts x (.int .i64 (S.length : Nat))] [Ev ts z (.int .i64 0)], XOp Try.prog ts h (.bin .gtr O x z) (.bool false) h := xgtr0 (by omega)
    have hK0 : K = [] := List.length_eq_zero_iff.1 (by omega)
    refine stp ?_
    exact done hi (by rw [hK0]; simp)
  haveI g1 : ∀ {ts : List Value} {h : Heap} {O : Oper} {x z : Operand} [Ev ts x (.int .i64 (S.length : Nat))] [Ev ts z (.int .i64 0)], XOp Try.prog ts h (.bin .gtr O x z) (.bool true) h := xgtr1 (by omega)
  obtain ⟨q, o, sp, rfl, hq, hcc⟩ := hcu (by omega)
  have hml : (S.map LE.b).length = S.length := List.length_map _
  have e0 : (S.map LE.b).getD 0 0 = (at' S 0).b := at_map LE.b h0
  have hc0 : Cell h' q (o + 0) (.pointer (some ⟨(S.map LE.b).getD 0 0, 0, none⟩)) := pcell_at hcc hml h0
  have hel : at' S 0 ∈ l := hs.pe.mem_iff.1 (at_mem h0)
  obtain ⟨M, hM⟩ := head_tr hs.hp hs.pe hi.pe hsK hnK h0
  rw [e0] at hc0
  generalize at' S 0 = e at *
  have ha := hs.ats e hel
  haveI := hc0
  obtain ⟨aw, cw, ew, _, _⟩ := id ha.own.rd
  have hget : h'.get e.b = .cells (lcells e.id e.fr e.to e.due e.w) 0 := ha.get
  rw [ew] at hget
  haveI : HGet h' e.b _ := ⟨hget⟩
  refine stp ?_
  refine C.if (fun hdue => ?_) (fun hdue => ?_)
  case refine_2 =>
    refine stp ?_
    refine done hi (fun t ht => ?_)
    rw [hM] at ht hsK
    unfold SrtT at hsK
    rw [List.pairwise_cons] at hsK
    rcases List.mem_cons.1 ht with e1 | e1
    · rw [e1]
      show now < e.due
      omega
    · have := hsK.1 t e1
      simp only [ltK, decide_eq_true_eq] at this
      have h5 : e.tr.due = e.due := rfl
      rw [h5] at this
      omega
  refine stp ?_
  refine O.call' (gone_ok hs hel (by omega)) (fun r h1 hr => ?_)
  obtain ⟨rfl, u', S', hs1, f1, hu1⟩ := hr
  have n1 := f1.n
  have hspe := hs.sp e hel
  have hebn : ¬ MW p m (.slice (some ⟨q, o, sp⟩) S.length cu) e.b := fun q => by
    have := hspe e.b (.inl rfl)
    exact q.elim this.1 fun q => q.elim this.2.1 this.2.2
  have hewn : ∀ i, ownedBy e.w i → ¬ MW p m (.slice (some ⟨q, o, sp⟩) S.length cu) i := fun i hi2 q => by
    have := hspe i (.inr hi2)
    exact q.elim this.1 fun q => q.elim this.2.1 this.2.2
  have hg1 := (f1.get _ ha.lt hebn).trans hget
  have hlo1 := hi.lo.keep f1 fun i hi2 q => (hi.on i hi2).2 (.inl q)
  have how1 := ha.own.keep f1 hewn
  haveI : HGet h1 e.b _ := ⟨hg1⟩
  haveI : BLt e.b h1 := ⟨f1.lt ha.lt⟩
  refine stp ?_
  refine O.append (n := Z.length) (m := 1) (d := lcells e.id e.fr e.to e.due (.slice aw e.bs.length cw)) (hlo1.ow.keep (Fr.refl.push (S := fun _ => False)) fun _ _ => id) one_let rfl rfl (by decide) (by decide) (by omega) (fun v2 h2 o2 f2 n2 => ?_)
  have ecl : ocells Z ++ lcells e.id e.fr e.to e.due (.slice aw e.bs.length cw) = ocells (Z ++ [e]) := by rw [ocells_add, LE.cells, ew]
  have eln : Z.length + 1 = (Z ++ [e]).length := by simp
  rw [ecl, eln] at o2
  have F2 : Fr (ownedBy (.slice av Z.length cv)) h1 h2 := (Fr.refl.push (S := ownedBy (.slice av Z.length cv))).trans' f2
  have n2' : ∀ i, ownedBy v2 i → ownedBy (.slice av Z.length cv) i ∨ h1.n ≤ i := fun i hi2 => (n2 i hi2).imp id fun q => by simp at q; omega
  obtain ⟨av2, cv2, rfl, _, _⟩ := id o2.rd
  refine stp ?_
  have hlL : ∀ f ∈ lessL e.id l, f ∈ l ∧ f.b ≠ e.b := fun f hf => by
    obtain ⟨k1, k2⟩ := List.mem_filter.1 hf
    simp only [Bool.not_eq_true', decide_eq_false_iff_not] at k2
    exact ⟨k1, fun q => k2 (congrArg LE.id (nodup_inj hs.nd k1 hel q))⟩
  have hnm : ∀ i, MMine p m u' (lessL e.id l) i → MMine p m (.slice (some ⟨q, o, sp⟩) S.length cu) l i ∨ h'.n ≤ i := fun i hi2 => by
    rcases hi2 with (hi2 | hi2 | hi2) | ⟨f, hf, hi2⟩
    · exact .inl (.inl (.inl hi2))
    · exact .inl (.inl (.inr (.inl hi2)))
    · exact (hu1 i hi2).imp (fun q => .inl (.inr (.inr q))) id
    · exact .inl (.inr ⟨f, (hlL f hf).1, hi2⟩)
  have hvno : ∀ i, ownedBy (.slice av Z.length cv) i → ¬ MMine p m u' (lessL e.id l) i := fun i hi2 q => by
    rcases hnm i q with q | q
    · exact (hi.on i (.inl hi2)).2 q
    · have := hi.lo.ow.lt hi2; omega
  have heno : ∀ i, ownedBy e.w i → ¬ MMine p m u' (lessL e.id l) i := fun i hi2 q => by
    have hlt := ha.own.lt hi2
    rcases q with (q | q | q) | ⟨f, hf, q | q⟩
    · exact hewn i hi2 (.inl q)
    · exact hewn i hi2 (.inr (.inl q))
    · rcases hu1 i q with q | q
      · exact hewn i hi2 (.inr (.inr q))
      · omega
    · exact hs.sv e hel f (hlL f hf).1 (by rw [← q]; exact hi2)
    · exact hs.dj e hel f (hlL f hf).1 (fun q2 => (hlL f hf).2 q2.symm) i hi2 q
  have hene : ∀ i, ownedBy e.w i → ¬ ownedBy (.slice av Z.length cv) i := fun i hi2 q => (hi.on i (.inl q)).2 (.inr ⟨e, hel, .inr hi2⟩)
  have hZe : ∀ f ∈ Z ++ [e], f ∈ Z ∨ f = e := fun f hf => (List.mem_append.1 hf).imp id List.mem_singleton.1
  have hMl : M.length < K.length := by rw [hM]; simp
  refine loop1a 4 M.length hMl ⟨Z ++ [e], u', S', lessL e.id l, M, rfl, hs1.keep F2 fun i hi2 q => hvno i q hi2, ?_, ?_, fun f hf => ?_, ⟨o2, fun f hf => ?_, fun f hf i hi2 q => ?_, ?_⟩, fun i hi2 => ?_, fun i hi2 => ?_, fun i hi2 => ?_, ?_⟩
  · have h5 := less_tr hi.pe e.id
    have h6 : lessT e.id K = M := by
      rw [hM] at hnK ⊢
      rw [List.map_cons, List.nodup_cons] at hnK
      unfold lessT
      rw [List.filter_cons]
      have : (!decide (e.tr.id = e.id)) = false := by simp [LE.tr]
      rw [this, if_neg (by decide)]
      refine List.filter_eq_self.2 fun t ht => ?_
      simp only [Bool.not_eq_true', decide_eq_false_iff_not]
      exact fun q => hnK.1 (List.mem_map.2 ⟨t, ht, q⟩)
    rw [h6] at h5
    exact h5
  · rw [hi.sp, hM]; simp
  · rcases hZe f hf with q | q
    · exact hi.du f q
    · rw [q]; exact hdue
  · rcases hZe f hf with q | q
    · exact (hlo1.wt f q).keep F2 fun i hi2 => hi.lo.rw f q i hi2
    · rw [q]; exact how1.keep F2 fun i hi2 => hene i hi2
  · rcases hZe f hf with k1 | k1
    · rcases n2' i q with k2 | k2
      · exact hi.lo.rw f k1 i hi2 k2
      · have := (hi.lo.wt f k1).lt hi2; omega
    · rw [k1] at hi2
      rcases n2' i q with k2 | k2
      · exact hene i hi2 k2
      · have := ha.own.lt hi2; omega
  · rw [List.pairwise_append]
    refine ⟨hi.lo.dj, by simp, fun f hf g hg i hi2 q => ?_⟩
    rw [List.mem_singleton.1 hg] at q
    exact (hi.on i (.inr ⟨f, hf, hi2⟩)).2 (.inr ⟨e, hel, .inr q⟩)
  · rcases hnm i hi2 with q | q
    · exact hi.mw i q
    · have := hi.fr.n
      exact .inr (by omega)
  · rcases n2' i hi2 with q | q
    · exact hi.vn i q
    · have := hi.fr.n
      omega
  · have hfn := hi.fr.n
    rcases hi2 with hi2 | ⟨f, hf, hi2⟩
    · rcases n2' i hi2 with q | q
      · exact ⟨(hi.on i (.inl q)).1, hvno i q⟩
      · exact ⟨.inr (by omega), fun k => by have := hs1.mlt k; omega⟩
    · rcases hZe f hf with k1 | k1
      · have := hi.on i (.inr ⟨f, k1, hi2⟩)
        refine ⟨this.1, fun k => ?_⟩
        rcases hnm i k with k | k
        · exact this.2 k
        · have := (hi.lo.wt f k1).lt hi2; omega
      · rw [k1] at hi2
        exact ⟨hi.mw i (.inr ⟨e, hel, .inr hi2⟩), heno i hi2⟩
  · refine (hi.fr.trans f1 fun i hi2 q => ?_).trans F2 fun i hi2 q => ?_
    · rcases hi.mw i (.inl q) with k | k
      · exact k
      · omega
    · have := hi.vn i q
      omega
end
end Go.Proofs.Ytoadcfjkkoemdaa.A

namespace Go.Proofs.Ytoadcfjkkoemdaa.A
open Go Go.Vm
set_option maxRecDepth 10000
set_option linter.unusedVariables false
theorem insertion0_ok {h : Heap} {v f : Value} {a b : Nat} (hab : b ≤ a) (ha : a < 1000) : Runs Try.prog T0 (.fn fn_zscQ) [v, .int .i64 a, .int .i64 b, f] h (fun r h' => h' = h) (fun _ _ => False) := by
  refine zscQ_runs ?_
  refine stp ?_
  refine loop1 zscQ_l1_M 8 (fun k v8 hx => v8 = .int .i64 ((a : Int) + 1) ∧ hx = h) ?_ 0 ⟨rfl, rfl⟩
  rintro m v8 h' x9 x12 x13 x14 x15 x16 x17 x18 x19 x20 x21 x22 x23 x24 x25 x26 x27 x28 x29 x30 x31 x32 x33 x34 x35 x36 x37 x38 x39 x40 x41 x42 x43 x44 x45 x46 x47 x48 x49 x50 x51 x52 ⟨rfl, rfl⟩
  refine stp ?_
  refine C.if (fun h1 => absurd h1 (by omega)) (fun _ => ?_)
  refine stp ?_
  rfl
theorem pdq0_ok {h : Heap} {v f : Value} {k : Int} {a b : Nat} (hab : b ≤ a) (ha : a < 1000) : Runs Try.prog T0 (.fn fn_zadQ) [v, .int .i64 a, .int .i64 b, .int .i64 k, f] h (fun r h' => h' = h) (fun _ _ => False) := by
  refine zadQ_runs ?_
  refine stp ?_
  refine loop5 zadQ_l0_M 1 2 3 10 11 (fun q v1 v2 v3 v10 v11 hx => v1 = .int .i64 a ∧ v2 = .int .i64 b ∧ v3 = .int .i64 k ∧ hx = h) ?_ 0 ⟨rfl, rfl, rfl, rfl⟩
  rintro m v1 v2 v3 v10 v11 h' x12 x13 x14 x15 x16 x17 x18 x19 x20 x21 x22 x23 x24 x25 x26 x27 x28 x29 x30 x31 x32 x33 x34 x35 x36 x37 x38 x39 x40 x41 x42 x43 x44 x45 x46 x47 x48 x49 x50 x51 x52 x53 x54 x55 x56 x57 x58 x59 x60 x61 x62 x63 x64 x65 x66 x67 x68 x69 x70 x71 x72 x73 x74 x75 x76 x77 x78 x79 x80 x81 x82 x83 x84 x85 x86 x87 x88 x89 x90 x91 x92 x93 x94 x95 x96 x97 x98 x99 x100 x101 x102 x103 x104 x105 x106 x107 x108 x109 x110 x111 x112 x113 x114 x115 x116 x117 x118 x119 x120 x121 x122 x123 x124 x125 x126 x127 x128 x129 x130 x131 x132 x133 x134 x135 x136 x137 x138 x139 x140 x141 x142 x143 x144 x145 x146 x147 ⟨rfl, rfl, rfl, rfl⟩
  refine stp ?_
  refine C.if (fun _ => ?_) (fun h1 => absurd (by omega) h1)
  refine stp ?_
  refine O.call' (insertion0_ok hab ha) (fun r h2 hr => ?_)
  subst hr
  refine stp ?_
  rfl
section
variable {lt : Nat → Nat → Bool} {fd : FuncId} {G : Nat → Prop} {h : Heap} {v : Value} {L : List Nat}
set_option maxHeartbeats 4000000 in
theorem SortF_ok (ho : Own h 1 v (pcells L) L.length) (hl : L.length < 256) (oo : Ord lt) (hd : Dist lt L) (hG : ∀ e ∈ L, G e) (hc : ∀ q, ownedBy v q → CmpI lt fd q G h) :
    Runs Try.prog T0 (.fn fn_zlcQ) [v, .func (.func fd) ⟨[]⟩ ⟨[]⟩] h (fun _ h' => ∃ M, M.Perm L ∧ Srt lt 0 M.length M ∧ Own h' 1 v (pcells M) M.length ∧ Fr (ownedBy v) h h') (fun _ _ => False) := by
  have hnil : L.length = 0 → ∃ M : List Nat, M.Perm L ∧ Srt lt 0 M.length M ∧ Own h 1 v (pcells M) M.length ∧ Fr (ownedBy v) h h := fun h0 => ⟨L, .refl _, fun p q h1 h2 h3 => by omega, ho, Fr.refl⟩
  have hbl := fun {h : Heap} => bLen_ok (h := h) (n := L.length) hl
  have hlt8 := (lenT_ok hl).1
  generalize (lenT.getD L.length 0).toNat = t at *
  have ho0 := ho
  generalize hn : L.length = n at *
  generalize hcc : pcells L = cc at *
  refine zlcQ_runs ?_
  cases ho with
  | none =>
    refine stp ?_
    refine O.call' hbl (fun r h1 hr => ?_)
    obtain ⟨rfl, rfl⟩ := hr
    refine stp ?_
    refine O.call' (pdq0_ok (a := 0) (b := 0) (Nat.le_refl _) (by decide)) (fun r h1 hr => ?_)
    subst hr
    refine stp ?_
    exact hnil rfl
  | lit hq hg =>
    refine stp ?_
    refine O.call' hbl (fun r h1 hr => ?_)
    obtain ⟨rfl, rfl⟩ := hr
    refine stp ?_
    refine O.call' (pdq0_ok (a := 0) (b := 0) (Nat.le_refl _) (by decide)) (fun r h1 hr => ?_)
    subst hr
    refine stp ?_
    exact hnil rfl
  | grown hq hn0 hle hl1 hl2 hg =>
    rename_i q kk cap j
    subst hcc
    have hps : PS q n j G h h L := ⟨hn, hq, hg, Fr.refl, hG⟩
    refine stp ?_
    refine O.call' hbl (fun r h1 hr => ?_)
    obtain ⟨rfl, rfl⟩ := hr
    refine stp ?_
    refine O.call' (pdq_ok (hc q rfl) oo hl n (a := 0) (b := n) (lim := t) (by omega) hps (by omega) (Nat.le_refl _) (by omega) (fun e => absurd e (by omega)) hd) (fun r h2 hr => ?_)
    obtain ⟨M, hps2, hsw, hso⟩ := hr
    refine stp ?_
    have hML : M.length = n := hps2.ln
    refine ⟨M, hsw.perm (by omega), by rw [hML]; exact hso, ?_, hps2.fr.mono fun i _ e => e.symm⟩
    rw [hML]
    exact .grown (j := j) hps2.lt hn0 hle (by rw [pcells_len, hML, Nat.mul_one]) (by rw [List.length_append, pcells_len, hML, ← hn, ← pcells_len, ← List.length_append]; exact hl2) hps2.get
end
def letB (l : List LE) (b : Nat) : LE := (l.find? fun e => decide (e.b = b)).getD default
theorem letB_of {l : List LE} (hn : (l.map LE.b).Nodup) {e : LE} (he : e ∈ l) : letB l e.b = e := by
  unfold letB
  cases h : l.find? fun f => decide (f.b = e.b) with
  | none => exact absurd (List.find?_eq_none.1 h e he) (by simp)
  | some f =>
    have h1 := List.mem_of_find?_eq_some h
    have h2 : f.b = e.b := by simpa using List.find?_some h
    exact nodup_inj hn h1 he h2
abbrev ltB (l : List LE) (a b : Nat) : Bool := ltL (letB l a) (letB l b)
theorem ltB_ord (l : List LE) : Ord (ltB l) := ltK_ord fun b => (letB l b).key
theorem cmpB {l : List LE} {h : Heap} {q : Nat} (hn : (l.map LE.b).Nodup) (ha : ∀ e ∈ l, h.get e.b = .cells e.cells 0 ∧ e.b < h.n ∧ e.b ≠ q) : CmpI (ltB l) fn_zwbQ q (fun b => ∃ e ∈ l, e.b = b) h := ⟨fun {hx x y} hf ⟨e, he, hx1⟩ ⟨f, hf1, hy1⟩ => by
  subst hx1 hy1
  have h1 := ha e he
  have h2 := ha f hf1
  refine (mcompare_ok (x := e) (y := f) (by rw [hf.get _ h1.2.1 h1.2.2]; exact h1.1) (by rw [hf.get _ h2.2.1 h2.2.2]; exact h2.1)).mono (fun r h' ⟨q1, q2⟩ => ⟨⟨_, q1, ?_⟩, q2⟩) fun _ _ h => h
  show _ ↔ ltL (letB l e.b) (letB l f.b) = true
  rw [letB_of hn he, letB_of hn hf1]
  exact ordK _ _ _ _⟩
theorem distB {l S : List LE} (hn : (l.map LE.b).Nodup) (hi : (l.map LE.id).Nodup) (hp : S.Perm l) : Dist (ltB l) (S.map LE.b) := by
  refine ⟨((hp.map LE.b).nodup_iff).2 hn, fun x hx y hy hne => ?_⟩
  obtain ⟨e, he, rfl⟩ := List.mem_map.1 hx
  obtain ⟨f, hf, rfl⟩ := List.mem_map.1 hy
  have he := hp.mem_iff.1 he
  have hf := hp.mem_iff.1 hf
  show ltL (letB l e.b) (letB l f.b) = true ∨ ltL (letB l f.b) (letB l e.b) = true
  rw [letB_of hn he, letB_of hn hf]
  have : e.id ≠ f.id := fun q => hne (congrArg LE.b (nodup_inj hi he hf q))
  simp only [ltK, decide_eq_true_eq]
  omega
theorem srt_lets {l : List LE} {M : List Nat} {L : List LT} (hn : (l.map LE.b).Nodup) (hi : (l.map LE.id).Nodup) (hp : M.Perm (l.map LE.b)) (hs : Srt (ltB l) 0 M.length M) (ht : (l.map LE.tr).Perm L) (hL : SrtT L) : ∃ O : List LE, O.map LE.b = M ∧ O.Perm l ∧ O.map LE.tr = L := by
  have h1 : (M.map (letB l)).Perm l := by
    have := hp.map (letB l)
    rw [List.map_map] at this
    have e : l.map (letB l ∘ LE.b) = l := (List.map_congr_left fun e he => letB_of hn he).trans (List.map_id l)
    rw [e] at this
    exact this
  have h2 : (M.map (letB l)).map LE.b = M := by
    rw [List.map_map]
    refine (List.map_congr_left fun b hb => ?_).trans (List.map_id M)
    obtain ⟨e, he, rfl⟩ := List.mem_map.1 (hp.mem_iff.1 hb)
    show (letB l e.b).b = e.b
    rw [letB_of hn he]
  refine ⟨M.map (letB l), h2, h1, srt_eq ?_ hL ((h1.map LE.tr).trans ht)⟩
  unfold SrtT
  rw [List.pairwise_map, List.pairwise_map, List.pairwise_iff_getElem]
  intro i j hi2 hj hij
  have hd := distB hn hi (.refl l)
  have h3 := hs i j (by omega) hij hj
  have h4 := (hd.perm hp).ahead (by omega) hj (by omega) h3
  have e1 : at' M i = M[i] := by simp only [at', List.getD_eq_getElem?_getD, List.getElem?_eq_getElem (show i < M.length by omega), Option.getD_some]
  have e2 : at' M j = M[j] := by simp only [at', List.getD_eq_getElem?_getD, List.getElem?_eq_getElem hj, Option.getD_some]
  rw [e1, e2] at h4
  exact h4
set_option maxHeartbeats 4000000 in
theorem SortedN_ok {h : Heap} {bx : Nat} {u : Value} {S l : List LE} (hbx : h.get bx = .cells [u] 0) (hb : bx < h.n) (hu : Rd h 1 u (pcells (S.map LE.b)) (S.map LE.b).length) (hpe : S.Perm l) (hlen : l.length < 256) (hn : (l.map LE.b).Nodup) (hi : (l.map LE.id).Nodup) (ha : ∀ e ∈ l, h.get e.b = .cells e.cells 0 ∧ e.b < h.n) :
    Runs Try.prog T0 (.fn fn_zmcQ) [.func (.func fn_zocQ) ⟨[]⟩ ⟨[.pointer (some ⟨bx, 0, none⟩)]⟩, .func (.func fn_zwbQ) ⟨[]⟩ ⟨[]⟩] h
      (fun r h' => ∃ M, M.Perm (l.map LE.b) ∧ Srt (ltB l) 0 M.length M ∧ Own h' 1 r (pcells M) M.length ∧ (∀ i, ownedBy r i → h.n ≤ i) ∧ Fr (fun _ => False) h h') (fun _ _ => False) := by
  have hsl : (S.map LE.b).length = l.length := by rw [List.length_map]; exact hpe.length_eq
  refine zmcQ_runs ?_
  refine stp ?_
  refine O.call' (zjcQ_runs (R := fun r h' => Own h' 1 r (pcells (S.map LE.b)) (S.map LE.b).length ∧ (∀ i, ownedBy r i → h.n ≤ i) ∧ Fr (fun _ => False) h h') (X := fun _ _ => False) ?_) (fun r h1 hr => ?_)
  · refine stp ?_
    refine O.call' (AppendSeq_ok hbx hb hu (by omega)) (fun r h1 hr => ?_)
    refine stp ?_
    exact hr
  · obtain ⟨ho, hnew, f1⟩ := hr
    have hso := SortF_ok (fd := fn_zwbQ) (lt := ltB l) (G := fun b => ∃ e ∈ l, e.b = b) ho (by omega) (ltB_ord l) (distB hn hi hpe) (fun b hb => by
      obtain ⟨e, he, rfl⟩ := List.mem_map.1 hb
      exact ⟨e, hpe.mem_iff.1 he, rfl⟩) (fun q hq => cmpB hn fun e he => ⟨by rw [f1.get _ (ha e he).2 id]; exact (ha e he).1, f1.lt (ha e he).2, fun e2 => by
      have := hnew q hq
      have := (ha e he).2
      omega⟩)
    obtain ⟨a, c, rfl, _, _⟩ := id ho.rd
    refine stp ?_
    refine O.call' hso (fun r h2 hr => ?_)
    obtain ⟨M, hM, hs, hoM, f2⟩ := hr
    refine stp ?_
    have e1 : M.length = (S.map LE.b).length := hM.length_eq
    exact ⟨M, hM.trans (hpe.map _), hs, hoM, hnew, f1.trans f2 fun i hi2 q => by have := hnew i q; omega⟩
end Go.Proofs.Ytoadcfjkkoemdaa.A

namespace Go.Proofs.Ytoadcfjkkoemdaa.A
open Go Go.Vm
set_option maxRecDepth 10000
set_option linter.unusedVariables false
section
variable {h : Heap} {p : Nat} {most : Int} {s : MS} {W : Nat → Prop}
set_option maxHeartbeats 16000000 in
theorem MList_ok (hv : MV h p most s W) (hm : most ≤ 4096) (hL : s.L.length < 256) :
    Runs Try.prog T0 (.fn fn_zgbQ) [.pointer (some ⟨p, 0, none⟩)] h (fun r h' => ∃ P, P.map LE.tr = s.L ∧ LetOut h' r P ∧ (∀ i, OMine r P i → h.n ≤ i) ∧ Fr (fun _ => False) h h') (fun _ _ => False) := by
  obtain ⟨m, c, u, S, l, hs, hp, hw⟩ := hv.kp
  have hLl : s.L.length = l.length := by have := hp.length_eq; rw [List.length_map] at this; exact this.symm
  have hsl := hs.pe.length_eq
  haveI : HGet h p _ := ⟨hs.gp⟩
  obtain ⟨au, cu, rfl, _, _⟩ := id hs.ou.rd
  refine zgbQ_runs ?_
  refine stp ?_
  refine O.call' (mnone_ok hs) (fun r h hr => ?_)
  obtain ⟨rfl, rfl⟩ := hr
  refine stp ?_
  refine O.call' Values_ok (fun r h1 hr => ?_)
  obtain ⟨rfl, n1, g1, f1⟩ := hr
  have hml : (S.map LE.b).length = S.length := List.length_map _
  refine stp ?_
  refine O.call' (SortedN_ok (S := S) (l := l) g1 (by omega) (by rw [hml]; exact (hs.ou.keep f1 fun _ _ => id).rd) hs.pe (by omega) hs.nd hs.ids (fun e he => ⟨by rw [f1.get _ (hs.ats e he).lt id]; exact (hs.ats e he).get, f1.lt (hs.ats e he).lt⟩)) (fun r h2 hr => ?_)
  obtain ⟨M, hM, hso, oM, hnew, f2⟩ := hr
  obtain ⟨O', hOb, hOp, hOt⟩ := srt_lets hs.nd hs.ids hM hso hp hv.iv.so
  have F2 := f1.trans' f2
  have hMO : M.length = O'.length := by rw [← hOb, List.length_map]
  have hOl : O'.length = l.length := hOp.length_eq
  obtain ⟨a2, c2, rfl, _, hc2⟩ := id oM.rd
  have n2 := F2.n
  refine stp ?_
  refine loop2 zgbQ_l0_M 2 15 (fun q v2 v15 hx => ∃ (k : Nat) (P : List LE), k ≤ M.length ∧ q = M.length - k ∧ v15 = .int .i64 k ∧ LetOut hx v2 P ∧ P.map LE.tr = (O'.take k).map LE.tr ∧ (∀ i, OMine v2 P i → h2.n ≤ i) ∧ Fr (fun _ => False) h2 hx) ?_ M.length ⟨0, [], by omega, rfl, rfl, .nil, by simp, fun i hi => hi.elim (fun q => q.elim) (fun ⟨_, q, _⟩ => absurd q (by simp)), Fr.refl⟩
  rintro m v2 v15 h' x4 x5 x16 x17 x18 x19 x20 x21 x22 x23 x24 x25 x26 x27 x28 x29 x30 x31 x32 ⟨k, P, hk, rfl, rfl, ho, hPt, hPn, hF⟩
  have nF := hF.n
  obtain ⟨av, cv, rfl, _, _⟩ := id ho.ow.rd
  have hPl : P.length = k := by have := congrArg List.length hPt; rw [List.length_map, List.length_map, List.length_take] at this; omega
  rcases Nat.lt_or_ge k M.length with hlt | hge
  · haveI q1 : ∀ {ts : List Value} {h : Heap} {O : Oper} {x z : Operand} [Ev ts x (.int .i64 (k : Nat))] [Ev ts z (.int .i64 (M.length : Nat))], XOp Try.prog ts h (.bin .lss O x z) (.bool true) h := xlss1 (by omega)
    obtain ⟨q, o, sp, rfl, hq, hcc⟩ := hc2 (by omega)
    have hccx : cellsAt h' q o (M.length * 1) = some (pcells M) := (cellsAt_keep hF hq id).trans hcc
    have hcell : Cell h' q (o + k) (.pointer (some ⟨M.getD k 0, 0, none⟩)) := pcell_at hccx rfl hlt
    have hkO : k < O'.length := by omega
    have e0 : M.getD k 0 = (at' O' k).b := by rw [← hOb]; exact at_map LE.b hkO
    have hel : at' O' k ∈ l := hOp.mem_iff.1 (at_mem hkO)
    have htk : (O'.take (k + 1)).map LE.tr = (O'.take k).map LE.tr ++ [(at' O' k).tr] := by
      rw [List.take_succ_eq_append_getElem hkO, List.map_append]
      simp only [at', List.getD_eq_getElem?_getD, List.getElem?_eq_getElem hkO, Option.getD_some, List.map_singleton]
    rw [e0] at hcell
    generalize at' O' k = e at *
    have ha := (hs.ats e hel).keep (F2.trans' hF) fun _ _ => id
    have hbl : e.bs.length ≤ 65536 := (hv.iv.rg e.tr (hp.mem_iff.1 (List.mem_map.2 ⟨e, hel, rfl⟩))).2.2.2
    haveI := hcell
    obtain ⟨aw, cw, ew, _, _⟩ := id ha.own.rd
    have hget : h'.get e.b = .cells (lcells e.id e.fr e.to e.due e.w) 0 := ha.get
    have hown := ha.own
    rw [ew] at hget hown
    haveI : HGet h' e.b _ := ⟨hget⟩
    haveI : BLt e.b h' := ⟨ha.lt⟩
    refine stp ?_
    have g3 : (h'.push (.cells (lcells e.id e.fr e.to e.due (.slice aw e.bs.length cw)) 0)).get h'.n = .cells (lcells e.id e.fr e.to e.due (.slice aw e.bs.length cw)) 0 := HGet.new.eq
    have F3 : Fr (fun _ => False) h' (h'.push (.cells (lcells e.id e.fr e.to e.due (.slice aw e.bs.length cw)) 0)) := Fr.refl.push
    have n3 : (h'.push (.cells (lcells e.id e.fr e.to e.due (.slice aw e.bs.length cw)) 0)).n = h'.n + 1 := rfl
    generalize h'.push (.cells (lcells e.id e.fr e.to e.due (.slice aw e.bs.length cw)) 0) = h3 at *
    refine O.call' (Clone_ok ((hown.keep F3 fun _ _ => id).rd) (by omega)) (fun r h4 hr => ?_)
    obtain ⟨o4, f4, m4⟩ := hr
    have n4 := f4.n
    have g4 : h4.get h'.n = .cells (lcells e.id e.fr e.to e.due (.slice aw e.bs.length cw)) 0 := (f4.get _ (by omega) id).trans g3
    haveI : HGet h4 h'.n _ := ⟨g4⟩
    haveI : BLt h'.n h4 := ⟨by omega⟩
    have lt4 := fun {i : Nat} (hi : ownedBy r i) => o4.lt hi
    obtain ⟨a5, c5, rfl, _, _⟩ := id o4.rd
    refine stp ?_
    have F5 : Fr (fun i => i = h'.n) h4 (h4.set h'.n (.cells (lcells e.id e.fr e.to e.due (.slice a5 e.bs.length c5)) 0)) := Fr.refl.set fun _ => rfl
    have n5 : (h4.set h'.n (.cells (lcells e.id e.fr e.to e.due (.slice a5 e.bs.length c5)) 0)).n = h4.n := rfl
    have F35 : Fr (fun _ => False) h' (h4.set h'.n (.cells (lcells e.id e.fr e.to e.due (.slice a5 e.bs.length c5)) 0)) := (F3.trans' f4).trans F5 fun i hi e => by omega
    generalize h4.set h'.n (.cells (lcells e.id e.fr e.to e.due (.slice a5 e.bs.length c5)) 0) = h5 at *
    have ho5 := ho.keep F35 fun _ _ => id
    have o5 := o4.keep F5 fun i hi e => by have := m4 i hi; omega
    refine O.append (n := P.length) (m := 1) (d := lcells e.id e.fr e.to e.due (.slice a5 e.bs.length c5)) (ho5.ow.keep (Fr.refl.push (S := fun _ => False)) fun _ _ => id) one_let rfl rfl (by decide) (by decide) (by omega) (fun v6 h6 o6 f6 n6 => ?_)
    obtain ⟨e', he'⟩ : ∃ e' : LE, e' = ⟨0, 0, e.id, e.fr, e.to, e.due, e.bs, .slice a5 e.bs.length c5⟩ := ⟨_, rfl⟩
    have ecl : ocells P ++ lcells e.id e.fr e.to e.due (.slice a5 e.bs.length c5) = ocells (P ++ [e']) := by rw [ocells_add, he']
    have eln : P.length + 1 = (P ++ [e']).length := by simp
    rw [ecl, eln] at o6
    have F6 : Fr (ownedBy (.slice av P.length cv)) h5 h6 := (Fr.refl.push (S := ownedBy (.slice av P.length cv))).trans' f6
    have n6' : ∀ i, ownedBy v6 i → ownedBy (.slice av P.length cv) i ∨ h5.n ≤ i := fun i hi => (n6 i hi).imp id fun q => by simp at q; omega
    obtain ⟨a7, c7, rfl, _, _⟩ := id o6.rd
    refine stp ?_
    have hwn : ∀ i, ownedBy (.slice a5 e.bs.length c5) i → h'.n < i ∧ i < h5.n := fun i hi => by have := m4 i hi; have := lt4 hi; omega
    have hvl : ∀ i, ownedBy (.slice av P.length cv) i → i < h'.n := fun i hi => ho.ow.lt hi
    have hPe : ∀ f ∈ P ++ [e'], f ∈ P ∨ f = e' := fun f hf => (List.mem_append.1 hf).imp id List.mem_singleton.1
    refine loop2a 2 15 (M.length - (k + 1)) (by omega) ⟨k + 1, P ++ [e'], by omega, rfl, rfl, ⟨o6, fun f hf => ?_, fun f hf i hi q => ?_, ?_⟩, ?_, fun i hi => ?_, ?_⟩
    · rcases hPe f hf with q | q
      · exact (ho5.wt f q).keep F6 fun i hi => ho.rw f q i hi
      · rw [q, he']
        exact o5.keep F6 fun i hi q2 => by have := hwn i hi; have := hvl i q2; omega
    · rcases hPe f hf with k1 | k1
      · rcases n6' i q with k2 | k2
        · exact ho.rw f k1 i hi k2
        · have := (ho.wt f k1).lt hi; omega
      · rw [k1, he'] at hi
        have h7 := hwn i hi
        rcases n6' i q with k2 | k2
        · have := hvl i k2; omega
        · omega
    · rw [List.pairwise_append]
      refine ⟨ho.dj, by simp, fun f hf g hg i hi q => ?_⟩
      rw [List.mem_singleton.1 hg, he'] at q
      have := hwn i q
      have := (ho.wt f hf).lt hi
      omega
    · rw [List.map_append, hPt, htk, he']
      rfl
    · rcases hi with hi | ⟨f, hf, hi⟩
      · rcases n6' i hi with q | q
        · exact hPn i (.inl q)
        · omega
      · rcases hPe f hf with q | q
        · exact hPn i (.inr ⟨f, q, hi⟩)
        · rw [q, he'] at hi
          have := hwn i hi
          omega
    · exact (hF.trans' F35).trans F6 fun i hi q => by
        have h7 := hPn i (.inl q)
        omega
  · haveI q1 : ∀ {ts : List Value} {h : Heap} {O : Oper} {x z : Operand} [Ev ts x (.int .i64 (k : Nat))] [Ev ts z (.int .i64 (M.length : Nat))], XOp Try.prog ts h (.bin .lss O x z) (.bool false) h := xlss0 (by omega)
    refine stp ?_
    refine ⟨P, ?_, ho, fun i hi => by have := hPn i hi; omega, F2.trans' hF⟩
    rw [hPt, List.take_of_length_le (by omega), hOt]
end
end Go.Proofs.Ytoadcfjkkoemdaa.A

namespace Go.Proofs.Ytoadcfjkkoemdaa.A
open Go Go.Vm
set_option maxRecDepth 10000
set_option linter.unusedVariables false
theorem Rd.block_lt {h : Heap} {size n : Nat} {v : Value} {c : List Value} (hv : Rd h size v c n) {i : Nat} (hi : blockOf v i) : i < h.n := by
  obtain ⟨a, cap, rfl, _, hc⟩ := hv
  cases a with
  | none => exact hi.elim
  | some a =>
    obtain ⟨h1, h2⟩ := hi
    obtain ⟨b, o, sp, e, hb, _⟩ := hc h2
    cases e
    subst h1
    exact hb
end Go.Proofs.Ytoadcfjkkoemdaa.A

namespace Go.Proofs.Ytoadcfjkkoemdaa.A
open Go Go.Vm
set_option maxRecDepth 10000
set_option linter.unusedVariables false
theorem all_one {O : List LE} (ho : ∀ e ∈ O, ∃ h : Heap, Rd h 1 e.w (bcells e.bs) e.bs.length) : (ocells O).all Value.oneCell' = true := by
  rw [List.all_eq_true]
  intro x hx
  obtain ⟨e, he, hx⟩ := List.mem_flatMap.1 hx
  obtain ⟨h, hw⟩ := ho e he
  obtain ⟨a, c, ew, _, _⟩ := hw
  simp only [List.mem_cons, List.not_mem_nil, or_false] at hx
  rcases hx with rfl | rfl | rfl | rfl | rfl
  · rfl
  · rfl
  · rfl
  · rfl
  · rw [ew]; rfl
end Go.Proofs.Ytoadcfjkkoemdaa.A

namespace Go.Proofs.Ytoadcfjkkoemdaa.A
open Go Go.Vm
set_option maxRecDepth 10000
set_option linter.unusedVariables false
structure AC where
  kind : Int
  a : Int
  b : Int
  due : Int
  bs : List UInt8
  w : Value
abbrev AC.cells (e : AC) : List Value := lcells e.kind e.a e.b e.due e.w
def acells (l : List AC) : List Value := l.flatMap AC.cells
def zAC : AC := ⟨0, 0, 0, 0, [], .slice none 0 0⟩
def ARd (h : Heap) (e : AC) : Prop := Rd h 1 e.w (bcells e.bs) e.bs.length
theorem acells_cons (a : AC) (l : List AC) : acells (a :: l) = a.cells ++ acells l := rfl
theorem acells_len : ∀ (l : List AC), (acells l).length = l.length * 5
  | [] => rfl
  | a :: l => by
    rw [acells_cons, List.length_append, acells_len l, List.length_cons]
    simp
    omega
theorem acells_at : ∀ {l : List AC} {k : Nat}, k < l.length → ((acells l).drop (k * 5)).take 5 = (l.getD k zAC).cells
  | a :: l, 0, _ => rfl
  | a :: l, k + 1, hk => by
    have h2 := acells_at (l := l) (k := k) (by simpa using hk)
    rw [acells_cons, show (k + 1) * 5 = a.cells.length + k * 5 from by simp; omega, ← List.drop_drop, List.drop_left]
    exact h2
theorem act_mem {l : List AC} {k : Nat} (hk : k < l.length) : l.getD k zAC ∈ l := by
  simp [List.getD, hk]
theorem act_take {l : List AC} {k : Nat} (hk : k < l.length) : l.take (k + 1) = l.take k ++ [l.getD k zAC] := by
  rw [List.take_succ_eq_append_getElem hk]
  simp [List.getD, hk]
theorem act_cells {h : Heap} {b o n k : Nat} {l : List AC} (hc : cellsAt h b o (n * 5) = some (acells l)) (hn : l.length = n) (hk : k < n) : Cells h b (o + k * 5) 5 (l.getD k zAC).cells := ⟨by
  rw [cellsAt_sub hc (by omega), acells_at (by omega)]⟩
def playS (t : MS × Int × Int) (e : AC) : MS × Int × Int :=
  if e.kind = 0 then ((postS 4096 t.1 e.a e.b e.due e.bs).1, if (postS 4096 t.1 e.a e.b e.due e.bs).2.2 = 0 then t.2.1 + 1 else t.2.1, t.2.2)
  else if e.kind = 1 then (comeS t.1 e.due, t.2.1, t.2.2 + (cameS t.1 e.due).length)
  else if e.kind = 2 then ((loseS t.1 e.a).1, t.2.1, t.2.2)
  else if e.kind = 3 then ((delayS t.1 e.a e.due).1, t.2.1, t.2.2)
  else if e.kind = 4 then ((swapS t.1 e.a e.b).1, t.2.1, t.2.2)
  else if e.kind = 5 then ((twiceS 4096 t.1 e.a e.due).1, if (twiceS 4096 t.1 e.a e.due).2.2 = 0 then t.2.1 + 1 else t.2.1, t.2.2)
  else t
structure Cnt (n : Nat) (t : MS × Int × Int) : Prop where
  ok : MOK 4096 t.1
  eq : t.2.1 = t.2.2 + t.1.lost + t.1.L.length
  al : t.2.1 ≤ n
  la : t.1.last ≤ n
  ca : 0 ≤ t.2.2
theorem ins_len (x : LT) (L : List LT) : (insT x L).length = L.length + 1 := by
  rw [(ins_perm x L).length_eq, List.length_cons]
theorem move_len {k d : Int} {L : List LT} (hn : (L.map LT.id).Nodup) : (moveT k d L).length = L.length := by
  rw [(move_perm hn).length_eq]; unfold dueT; rw [List.length_map]
theorem due_nd {k d : Int} {L : List LT} (hn : (L.map LT.id).Nodup) : ((moveT k d L).map LT.id).Nodup := by
  rw [((move_perm hn).map LT.id).nodup_iff, due_ids]; exact hn
theorem less_len {k : Int} {L : List LT} (hn : (L.map LT.id).Nodup) (hf : (findT k L).isSome = true) : (lessT k L).length + 1 = L.length := by
  obtain ⟨x, hx⟩ := Option.isSome_iff_exists.1 hf
  obtain ⟨h1, h2⟩ := find_some hx
  have := (lessT_perm hn h1 h2).length_eq
  rwa [List.length_cons] at this
theorem come_len (s : MS) (now : Int) : (cameS s now).length + (comeS s now).L.length = s.L.length := by
  have := (filter_perm (fun t : LT => decide (t.due ≤ now)) s.L).length_eq
  rw [List.length_append] at this
  exact this
theorem post_ok {most : Int} {s : MS} {f t d : Int} {bs : List UInt8} (h : MOK most s) : MOK most (postS most s f t d bs).1 ∧ ((postS most s f t d bs).2.2 = 0 ∧ (postS most s f t d bs).1.last = s.last + 1 ∧ (postS most s f t d bs).1.L.length = s.L.length + 1 ∧ (postS most s f t d bs).1.lost = s.lost ∨ (postS most s f t d bs).2.2 ≠ 0 ∧ (postS most s f t d bs).1 = s) := by
  unfold postS
  split
  · exact ⟨h, .inr ⟨by simp, rfl⟩⟩
  split
  · exact ⟨h, .inr ⟨by simp, rfl⟩⟩
  split
  · exact ⟨h, .inr ⟨by simp, rfl⟩⟩
  · rename_i h1 h2 h3
    simp only [Bool.not_eq_false, Bool.and_eq_true] at h1
    exact ⟨h.add (by omega) (isEnd_iff.1 h1.1.1) (isEnd_iff.1 h1.1.2) (isDue_iff.1 h1.2) (by omega), .inl ⟨rfl, rfl, ins_len _ _, rfl⟩⟩
theorem twice_ok {most : Int} {s : MS} {k d : Int} (h : MOK most s) : MOK most (twiceS most s k d).1 ∧ ((twiceS most s k d).2.2 = 0 ∧ (twiceS most s k d).1.last = s.last + 1 ∧ (twiceS most s k d).1.L.length = s.L.length + 1 ∧ (twiceS most s k d).1.lost = s.lost ∨ (twiceS most s k d).2.2 ≠ 0 ∧ (twiceS most s k d).1 = s) := by
  unfold twiceS
  split
  · exact ⟨h, .inr ⟨by simp, rfl⟩⟩
  · rename_i x hx
    split
    · exact ⟨h, .inr ⟨by simp, rfl⟩⟩
    split
    · exact ⟨h, .inr ⟨by simp, rfl⟩⟩
    · rename_i h1 h2
      have h3 := h.rg x (find_some hx).1
      simp only [Bool.not_eq_false] at h1
      exact ⟨h.add (by omega) h3.1 h3.2.1 (isDue_iff.1 h1) h3.2.2.2, .inl ⟨rfl, rfl, ins_len _ _, rfl⟩⟩
theorem lose_ok {most : Int} {s : MS} {k : Int} (h : MOK most s) : MOK most (loseS s k).1 ∧ (loseS s k).1.last = s.last ∧ (loseS s k).1.lost + (loseS s k).1.L.length = s.lost + s.L.length := by
  unfold loseS
  have := h.k0
  split
  · rename_i hf
    have := less_len h.nd hf
    exact ⟨h.less _ _ (by omega), rfl, by show s.lost + 1 + ((lessT k s.L).length : Int) = _; omega⟩
  · exact ⟨h, rfl, rfl⟩
theorem delay_ok {most : Int} {s : MS} {k d : Int} (h : MOK most s) : MOK most (delayS s k d).1 ∧ (delayS s k d).1.last = s.last ∧ (delayS s k d).1.lost = s.lost ∧ (delayS s k d).1.L.length = s.L.length := by
  unfold delayS
  split
  · split
    · rename_i hd
      exact ⟨h.move k d (isDue_iff.1 hd), rfl, rfl, move_len h.nd⟩
    · exact ⟨h, rfl, rfl, rfl⟩
  · exact ⟨h, rfl, rfl, rfl⟩
theorem swap_ok {most : Int} {s : MS} {a b : Int} (h : MOK most s) : MOK most (swapS s a b).1 ∧ (swapS s a b).1.last = s.last ∧ (swapS s a b).1.lost = s.lost ∧ (swapS s a b).1.L.length = s.L.length := by
  unfold swapS
  split
  · rename_i x y hx hy
    have h1 := h.rg x (find_some hx).1
    have h2 := h.rg y (find_some hy).1
    have h3 := h.move a y.due h2.2.2.1
    exact ⟨h3.move b x.due h1.2.2.1, rfl, rfl, by show (moveT b x.due (moveT a y.due s.L)).length = _; rw [move_len (due_nd h.nd), move_len h.nd]⟩
  · exact ⟨h, rfl, rfl, rfl⟩
theorem Cnt.step {n : Nat} {t : MS × Int × Int} (h : Cnt n t) (e : AC) : Cnt (n + 1) (playS t e) := by
  obtain ⟨h1, h2, h3, h4, h5⟩ := h
  unfold playS
  split
  · obtain ⟨q1, ⟨q2, q3, q4, q5⟩ | ⟨q2, q3⟩⟩ := post_ok (f := e.a) (t := e.b) (d := e.due) (bs := e.bs) h1
    · rw [if_pos q2]
      exact ⟨q1, by show t.2.1 + 1 = t.2.2 + (postS _ _ _ _ _ _).1.lost + ((postS _ _ _ _ _ _).1.L.length : Nat); rw [q4, q5]; omega, by show t.2.1 + 1 ≤ _; omega, by show (postS _ _ _ _ _ _).1.last ≤ _; omega, h5⟩
    · rw [if_neg q2, q3]
      exact ⟨h1, h2, by show t.2.1 ≤ _; omega, by show t.1.last ≤ _; omega, h5⟩
  split
  · have := come_len t.1 e.due
    exact ⟨h1.less _ _ h1.k0, by show t.2.1 = t.2.2 + ((cameS t.1 e.due).length : Nat) + t.1.lost + ((comeS t.1 e.due).L.length : Nat); omega, by show t.2.1 ≤ _; omega, by show t.1.last ≤ _; omega, by show 0 ≤ t.2.2 + ((cameS t.1 e.due).length : Nat); omega⟩
  split
  · obtain ⟨q1, q2, q3⟩ := lose_ok (k := e.a) h1
    exact ⟨q1, by show t.2.1 = t.2.2 + (loseS _ _).1.lost + ((loseS _ _).1.L.length : Nat); omega, by show t.2.1 ≤ _; omega, by show (loseS _ _).1.last ≤ _; omega, h5⟩
  split
  · obtain ⟨q1, q2, q3, q4⟩ := delay_ok (k := e.a) (d := e.due) h1
    exact ⟨q1, by show t.2.1 = t.2.2 + (delayS _ _ _).1.lost + ((delayS _ _ _).1.L.length : Nat); omega, by show t.2.1 ≤ _; omega, by show (delayS _ _ _).1.last ≤ _; omega, h5⟩
  split
  · obtain ⟨q1, q2, q3, q4⟩ := swap_ok (a := e.a) (b := e.b) h1
    exact ⟨q1, by show t.2.1 = t.2.2 + (swapS _ _ _).1.lost + ((swapS _ _ _).1.L.length : Nat); omega, by show t.2.1 ≤ _; omega, by show (swapS _ _ _).1.last ≤ _; omega, h5⟩
  split
  · obtain ⟨q1, ⟨q2, q3, q4, q5⟩ | ⟨q2, q3⟩⟩ := twice_ok (k := e.a) (d := e.due) h1
    · rw [if_pos q2]
      exact ⟨q1, by show t.2.1 + 1 = t.2.2 + (twiceS _ _ _ _).1.lost + ((twiceS _ _ _ _).1.L.length : Nat); rw [q4, q5]; omega, by show t.2.1 + 1 ≤ _; omega, by show (twiceS _ _ _ _).1.last ≤ _; omega, h5⟩
    · rw [if_neg q2, q3]
      exact ⟨h1, h2, by show t.2.1 ≤ _; omega, by show t.1.last ≤ _; omega, h5⟩
  · exact ⟨h1, h2, by omega, by omega, h5⟩
end Go.Proofs.Ytoadcfjkkoemdaa.A

namespace Go.Proofs.Ytoadcfjkkoemdaa.A
open Go Go.Vm
set_option maxRecDepth 10000
set_option linter.unusedVariables false
set_option maxHeartbeats 4000000 in
theorem mlong_ok {h : Heap} {v : Value} {l : List AC} (hv : Rd h 5 v (acells l) l.length) (hl : ∀ a ∈ l, ARd h a) :
    Runs Try.prog T0 (.fn fn_zrQ) [v] h (fun r h' => (∃ b : Bool, r = .bool b ∧ (b = false → l.length ≤ 40 ∧ ∀ a ∈ l, a.bs.length ≤ 60)) ∧ h' = h) (fun _ _ => False) := by
  obtain ⟨a, cap, rfl, hlen, hc⟩ := hv
  refine zrQ_runs ?_
  refine stp ?_
  refine loop1 zrQ_l0_M 3 (fun q v3 h' => ∃ k : Nat, k ≤ l.length ∧ k ≤ 41 ∧ q = 41 - k ∧ v3 = .int .i64 k ∧ (∀ a ∈ l.take k, a.bs.length ≤ 60) ∧ h' = h) ?_ 41 ⟨0, by omega, by omega, rfl, rfl, by simp, rfl⟩
  rintro m v3 h' x2 x4 x5 x6 x7 x8 x9 x10 x11 x12 x13 x14 x15 x16 x17 x18 x19 x20 ⟨k, hk, hk2, rfl, rfl, hall, rfl⟩
  refine stp ?_
  refine O.dec (fun e1 => ?_) (fun e1 => ?_)
  · have hlt : k < l.length := by omega
    refine stp ?_
    refine C.if (fun e2 => ?_) (fun e2 => ?_)
    · obtain ⟨b, o, sp, rfl, hb, hcc⟩ := hc (by omega)
      have hcel := act_cells hcc rfl hlt
      have hm := hl _ (act_mem hlt)
      have hat := act_take hlt
      generalize l.getD k zAC = A at *
      obtain ⟨aw, cw, ew, _, _⟩ := id hm
      have hcel : Cells h' b (o + k * 5) 5 (lcells A.kind A.a A.b A.due (.slice aw A.bs.length cw)) := by rw [← ew]; exact hcel
      haveI : Cell h' b (o + k * 5 + 4) (.slice aw A.bs.length cw) := ⟨by rw [cellsAt_sub hcel.eq (by omega)]; rfl⟩
      refine stp ?_
      refine C.if (fun e3 => ?_) (fun e3 => ?_)
      · refine stp ?_
        exact ⟨⟨true, rfl, fun e => by cases e⟩, rfl⟩
      · refine stp ?_
        refine loop1a 3 (41 - (k + 1)) (by omega) ⟨k + 1, by omega, by omega, rfl, rfl, ?_, rfl⟩
        rw [hat]
        intro x hx
        rcases List.mem_append.1 hx with hx | hx
        · exact hall x hx
        · rw [List.mem_singleton.1 hx]; omega
    · refine stp ?_
      exact ⟨⟨_, rfl, fun e => by have := of_decide_eq_false e; omega⟩, rfl⟩
  · refine stp ?_
    have hkl : k = l.length := by omega
    exact ⟨⟨_, rfl, fun e => ⟨by have := of_decide_eq_false e; omega, fun a ha => hall a (by rw [List.take_of_length_le (by omega)]; exact ha)⟩⟩, rfl⟩
end Go.Proofs.Ytoadcfjkkoemdaa.A

namespace Go.Proofs.Ytoadcfjkkoemdaa.A
open Go Go.Vm
set_option maxRecDepth 10000
set_option linter.unusedVariables false
section
variable {P : Program} {ts : List Value} {h : Heap} {x y : Operand}
end
theorem ocells_at : ∀ {l : List LE} {k : Nat}, k < l.length → ((ocells l).drop (k * 5)).take 5 = (at' l k).cells
  | a :: l, 0, _ => rfl
  | a :: l, k + 1, hk => by
    have h2 := ocells_at (l := l) (k := k) (by simpa using hk)
    show ((a.cells ++ ocells l).drop ((k + 1) * 5)).take 5 = _
    rw [show (k + 1) * 5 = a.cells.length + k * 5 from by simp; omega, ← List.drop_drop, List.drop_left, h2]
    rfl
theorem let_cell {h : Heap} {b o n k i : Nat} {l : List LE} {v : Value} (hc : cellsAt h b o (n * 5) = some (ocells l)) (hn : l.length = n) (hk : k < n) (hi : i < 5) (hv : ((at' l k).cells.drop i).take 1 = [v]) : Cell h b (o + k * 5 + i) v := ⟨by
  have h1 : cellsAt h b (o + k * 5) 5 = some (at' l k).cells := by rw [cellsAt_sub hc (by omega), ocells_at (by omega)]
  rw [cellsAt_sub h1 (by omega)]
  exact congrArg some hv⟩
end Go.Proofs.Ytoadcfjkkoemdaa.A

namespace Go.Proofs.Ytoadcfjkkoemdaa.A
open Go Go.Vm
set_option maxRecDepth 10000
set_option linter.unusedVariables false
theorem u8nat {n : Nat} (h : n < 256) : (UInt8.ofNat n).toNat = n := by
  rw [UInt8.toNat_ofNat']
  exact Nat.mod_eq_of_lt h
end Go.Proofs.Ytoadcfjkkoemdaa.A

namespace Go.Proofs.Ytoadcfjkkoemdaa.A
open Go Go.Vm
set_option maxRecDepth 10000
set_option linter.unusedVariables false
theorem SameBytes_ok {h : Heap} {v w : Value} {a b : List UInt8} (hv : Rd h 1 v (bcells a) a.length) (hw : Rd h 1 w (bcells b) b.length) :
    Runs Try.prog T0 (.fn fn_znQ) [v, w] h (fun r h' => r = .bool (decide (a = b)) ∧ h' = h) (fun _ _ => False) := by
  refine znQ_runs ?_
  refine stp ?_
  refine O.how (XOp.mkStr hv) ?_
  refine stp ?_
  refine O.how (XOp.mkStr hw) ?_
  refine stp ?_
  refine ⟨?_, rfl⟩
  congr 1
  rw [ByteArray.toList_eq, ByteArray.toList_eq]
  show (a == b) = decide (a = b)
  by_cases e : a = b
  · subst e; simp
  · simp [e]
theorem fits_bytes {h : Heap} {m : Nat} {te : TypeId} {c : List Value} {len : Nat} (hu : Try.prog.underlying te = some (.int .u8)) (hs : Try.prog.cellsOf te = 1) (hl : c.length = len * Try.prog.cellsOf te) (hall : ∀ i, i < len → Fits Try.prog h (m + 1) te ((c.drop (i * Try.prog.cellsOf te)).take (Try.prog.cellsOf te))) : ∃ bs : List UInt8, c = bcells bs ∧ bs.length = len := by
  rw [hs, Nat.mul_one] at hl
  induction c generalizing len with
  | nil => exact ⟨[], rfl, by simpa using hl⟩
  | cons v c ih =>
    cases len with
    | zero => simp at hl
    | succ len =>
      have h0 := hall 0 (by omega)
      rw [hs] at h0
      unfold Fits at h0
      rw [hu] at h0
      simp only [Nat.zero_mul, List.drop_zero, List.take_succ_cons, List.take_zero] at h0
      obtain ⟨x, hx, hwf⟩ := h0
      injection hx with hx _
      obtain ⟨bs, rfl, hb⟩ := ih (len := len) (by simpa using hl) fun i hi => by
        have := hall (i + 1) (by omega)
        rw [hs] at this ⊢
        simpa using this
      have hr : 0 ≤ x ∧ x ≤ 255 := by
        simp [Lit.wf, IntKind.min, IntKind.max, IntKind.signed, IntKind.bits] at hwf
        omega
      refine ⟨UInt8.ofNat x.toNat :: bs, ?_, by simp [hb]⟩
      rw [hx]
      show Value.int .u8 x :: bcells bs = Value.int .u8 ((UInt8.ofNat x.toNat).toNat : Nat) :: bcells bs
      rw [u8nat (by omega)]
      congr 2
      omega
theorem fits_slice {h : Heap} {m : Nat} {t te : TypeId} {v : Value} (ht : Try.prog.underlying t = some (.slice te)) (hu : Try.prog.underlying te = some (.int .u8)) (hs : Try.prog.cellsOf te = 1) (hv : FitsV Try.prog h (m + 2) t v) : ∃ bs : List UInt8, Rd h 1 v (bcells bs) bs.length := by
  unfold FitsV at hv
  rw [ht] at hv
  unfold Fits at hv
  rw [ht] at hv
  rcases hv with hv | ⟨b, len, cap, c, hv, hb, hlc, hcap, hro, hl, hall⟩
  · injection hv with hv
    subst hv
    exact ⟨[], Rd.nil⟩
  · injection hv with hv
    subst hv
    obtain ⟨bs, rfl, hbl⟩ := fits_bytes hu hs hl hall
    refine ⟨bs, _, _, by rw [hbl], by simp [bcells], fun hn => ⟨b, 0, none, rfl, hb, ?_⟩⟩
    rw [cellsAt_of (c := bcells bs) (by rw [hro (by omega)]; rfl) (by simp [bcells]), List.drop_zero, List.take_of_length_le (by simp [bcells])]
end Go.Proofs.Ytoadcfjkkoemdaa.A

namespace Go.Proofs.Ytoadcfjkkoemdaa.A
open Go Go.Vm
set_option maxRecDepth 10000
set_option linter.unusedVariables false
theorem CopyBytes_ok {h : Heap} {v : Value} {l : List UInt8} (hr : Rd h 1 v (bcells l) l.length) (hs : l.length < 1048576) :
    Runs Try.prog T0 (.fn fn_ziQ) [v] h (fun r h' => Own h' 1 r (bcells l) l.length ∧ (∀ i, ownedBy r i → h.n ≤ i) ∧ Fr (fun _ => False) h h') (fun _ _ => False) := by
  refine ziQ_runs ?_
  refine stp ?_
  have hz : Own (h.push (.cells [] 0)) 1 (.slice (some ⟨h.n, 0, none⟩) 0 0) [] 0 := .lit (by simp) (by rw [Heap.get_push, if_pos rfl])
  refine O.append hz ((hr.keep (S := fun _ => False) Fr.refl.push fun _ _ => id).new [.int .u8 0]) (by rw [bcells_len]; omega) (bcells_one l) (by omega) (by omega) (by omega) (fun v' h' h1 h2 h3 => ?_)
  refine stp ?_
  rw [Nat.zero_add, List.nil_append] at h1
  refine ⟨h1, fun i hi => ?_, Fr.trans (S := fun _ => False) Fr.refl.push h2 fun i hi ho => ?_⟩
  · rcases h3 i hi with h4 | h4
    · rw [← h4]; exact Nat.le_refl _
    · simp at h4; omega
  · have : h.n = i := ho
    omega
end Go.Proofs.Ytoadcfjkkoemdaa.A

namespace Go.Proofs.Ytoadcfjkkoemdaa.A
open Go Go.Vm
set_option maxRecDepth 10000
set_option linter.unusedVariables false
def LetRd (h : Heap) (r : Value) (O : List LE) : Prop := Rd h 5 r (ocells O) O.length ∧ ∀ e ∈ O, Rd h 1 e.w (bcells e.bs) e.bs.length
theorem LetOut.lr {h : Heap} {r : Value} {O : List LE} (ho : LetOut h r O) : LetRd h r O := ⟨ho.ow.rd, fun e he => (ho.wt e he).rd⟩
set_option maxHeartbeats 16000000 in
theorem SameLs_ok {h : Heap} {r s : Value} {X Y : List LE} (hr : LetRd h r X) (hs : LetRd h s Y) (he : X.map LE.tr = Y.map LE.tr) (hl : X.length < 1000000) :
    Runs Try.prog T0 (.fn fn_zoQ) [r, s] h (fun r h' => r = .bool true ∧ h' = h) (fun _ _ => False) := by
  obtain ⟨hr, hrb⟩ := hr
  obtain ⟨hs, hsb⟩ := hs
  obtain ⟨a1, c1, rfl, _, hc1⟩ := id hr
  obtain ⟨a2, c2, rfl, _, hc2⟩ := id hs
  have hXY : X.length = Y.length := by have := congrArg List.length he; rwa [List.length_map, List.length_map] at this
  haveI qs : ∀ {ts : List Value} {h : Heap} {O : Oper} {x z : Operand} {p : Int} [Ev ts x (.int .i64 p)] [Ev ts z (.int .i64 p)], XOp Try.prog ts h (.bin .eql O x z) (.bool true) h := xeql1 rfl
  haveI q0 : ∀ {ts : List Value} {h : Heap} {O : Oper} {x z : Operand} [Ev ts x (.int .i64 (X.length : Nat))] [Ev ts z (.int .i64 (Y.length : Nat))], XOp Try.prog ts h (.bin .eql O x z) (.bool true) h := xeql1 (by omega)
  refine zoQ_runs ?_
  refine stp ?_
  refine loop2 zoQ_l0_M 5 6 (fun q v5 v6 hx => ∃ k : Nat, k ≤ X.length ∧ q = X.length - k ∧ v5 = .bool true ∧ v6 = .int .i64 k ∧ hx = h) ?_ X.length ⟨0, by omega, rfl, rfl, rfl, rfl⟩
  rintro m v5 v6 h' x12 x13 x14 x15 x16 x17 x18 x19 x20 x21 x22 x23 x24 x25 x26 x27 x28 x29 x30 x31 x32 x33 x34 x35 x36 x37 x38 x39 x40 x41 x42 x43 x44 x45 x46 x47 x48 x49 x50 x51 x52 x53 x54 x55 x56 x57 x58 x59 x60 x61 x62 x63 x64 x65 x66 x67 x68 x69 x70 x71 x72 x73 x74 x75 x76 x77 x78 x79 x80 x81 x82 x83 ⟨k, hk, rfl, rfl, rfl, rfl⟩
  rcases Nat.lt_or_ge k X.length with hlt | hge
  · haveI q1 : ∀ {ts : List Value} {h : Heap} {O : Oper} {x z : Operand} [Ev ts x (.int .i64 (k : Nat))] [Ev ts z (.int .i64 (X.length : Nat))], XOp Try.prog ts h (.bin .lss O x z) (.bool true) h := xlss1 (by omega)
    obtain ⟨b1, o1, sp1, rfl, hb1, hcc1⟩ := hc1 (by omega)
    obtain ⟨b2, o2, sp2, rfl, hb2, hcc2⟩ := hc2 (by omega)
    have hkY : k < Y.length := by omega
    have e1 : (at' X k).tr = (at' Y k).tr := by
      have h1 : (X.map LE.tr)[k]? = (Y.map LE.tr)[k]? := by rw [he]
      rw [List.getElem?_map, List.getElem?_map, List.getElem?_eq_getElem hlt, List.getElem?_eq_getElem hkY] at h1
      simp only [Option.map_some, Option.some.injEq] at h1
      rw [show at' X k = X[k] from by simp [at', List.getD, hlt], show at' Y k = Y[k] from by simp [at', List.getD, hkY]]
      exact h1
    have m1 := hrb _ (at_mem hlt)
    have m2 := hsb _ (at_mem hkY)
    have c0 := fun {i : Nat} {v : Value} (hi : i < 5) (hv : ((at' X k).cells.drop i).take 1 = [v]) => let_cell hcc1 rfl hlt hi hv
    have d0 := fun {i : Nat} {v : Value} (hi : i < 5) (hv : ((at' Y k).cells.drop i).take 1 = [v]) => let_cell hcc2 rfl hkY hi hv
    generalize at' X k = e at *
    generalize at' Y k = f at *
    obtain ⟨eb, et, i, fr, to, d, bs, w⟩ := e
    obtain ⟨fb, ft, i', fr', to', d', bs', w'⟩ := f
    simp only [LE.tr, LT.mk.injEq] at e1
    obtain ⟨rfl, rfl, rfl, rfl, rfl⟩ := e1
    haveI := c0 (i := 0) (v := .int .i64 i) (by omega) rfl
    haveI := c0 (i := 1) (v := .int .i64 fr) (by omega) rfl
    haveI := c0 (i := 2) (v := .int .i64 to) (by omega) rfl
    haveI := c0 (i := 3) (v := .int .i64 d) (by omega) rfl
    haveI := c0 (i := 4) (v := w) (by omega) rfl
    haveI := d0 (i := 0) (v := .int .i64 i) (by omega) rfl
    haveI := d0 (i := 1) (v := .int .i64 fr) (by omega) rfl
    haveI := d0 (i := 2) (v := .int .i64 to) (by omega) rfl
    haveI := d0 (i := 3) (v := .int .i64 d) (by omega) rfl
    haveI := d0 (i := 4) (v := w') (by omega) rfl
    refine stp ?_
    repeat (refine D.howT (XOp.mkIndexSl (by omega)) rfl ?_; refine stp ?_)
    refine D.callT (Runs.mono (SameBytes_ok m1 m2) (fun r h' hh => (⟨by rw [hh.1]; simp, hh.2⟩ : r = .bool true ∧ h' = _)) (fun _ _ h => h)) (fun r h3 hr => rfl) (fun r h3 hr => ?_)
    obtain ⟨rfl, rfl⟩ := hr
    refine stp ?_
    exact loop2a 5 6 (X.length - (k + 1)) (by omega) ⟨k + 1, by omega, rfl, rfl, rfl, rfl⟩
  · haveI q1 : ∀ {ts : List Value} {h : Heap} {O : Oper} {x z : Operand} [Ev ts x (.int .i64 (k : Nat))] [Ev ts z (.int .i64 (X.length : Nat))], XOp Try.prog ts h (.bin .lss O x z) (.bool false) h := xlss0 (by omega)
    refine stp ?_
    exact ⟨rfl, rfl⟩
end Go.Proofs.Ytoadcfjkkoemdaa.A

namespace Go.Proofs.Ytoadcfjkkoemdaa.A
open Go Go.Vm
set_option maxRecDepth 10000
set_option linter.unusedVariables false
theorem rd_lit {h : Heap} {c : List Value} {n es : Nat} (hc : c.length = n) : Rd (h.push (.cells c es)) 1 (.slice (some ⟨h.n, 0, none⟩) n n) c n := by
  refine Rd.mk (by simp) ?_
  rw [cellsAt_of (c := c) (by rw [Heap.get_push, if_pos rfl]; rfl) (by omega), List.drop_zero, List.take_of_length_le (by omega)]
end Go.Proofs.Ytoadcfjkkoemdaa.A

namespace Go.Proofs.Ytoadcfjkkoemdaa.A
open Go Go.Vm
set_option maxRecDepth 10000
set_option linter.unusedVariables false
theorem bcells_set : ∀ {l : List UInt8} {i : Nat} {b : UInt8}, i < l.length → over (bcells l) i [.int .u8 (b.toNat : Nat)] = bcells (l.set i b)
  | [], i, b, h => by simp at h
  | v :: l, 0, b, _ => by
    show _ :: over (bcells l) 0 [] = _
    rw [over_nil]; rfl
  | v :: l, i + 1, b, h => by
    show _ :: over (bcells l) i _ = _
    rw [bcells_set (by simpa using h)]; rfl
end Go.Proofs.Ytoadcfjkkoemdaa.A

namespace Go.Proofs.Ytoadcfjkkoemdaa.A
open Go Go.Vm
set_option maxRecDepth 10000
set_option linter.unusedVariables false
def u8of (n : Int) : UInt8 := UInt8.ofNat (IntKind.u8.wrap n).toNat
theorem u8of_eq (n : Int) : IntKind.u8.wrap n = ((u8of n).toNat : Nat) := by
  unfold u8of
  rw [wrap_u8, UInt8.toNat_ofNat']
  omega
theorem over_pre : ∀ (l m : List Value) (k : Nat) (v : Value), k < l.length → over (l ++ m) k [v] = over l k [v] ++ m
  | [], _, _, _, h => by simp at h
  | a :: l, m, 0, v, _ => by
    show v :: over (l ++ m) 0 [] = (v :: over l 0 []) ++ m
    rw [over_nil, over_nil]; rfl
  | a :: l, m, k + 1, v, h => by
    show a :: over (l ++ m) k [v] = (a :: over l k [v]) ++ m
    rw [over_pre l m k v (by simpa using h)]; rfl
theorem lget_pre : ∀ (l m : List Value) (k : Nat), k < l.length → lget (l ++ m) k = lget l k
  | [], _, _, h => by simp at h
  | a :: l, m, 0, _ => rfl
  | a :: l, m, k + 1, h => lget_pre l m k (by simpa using h)
theorem byte_cell {h : Heap} {q es k : Nat} {l : List UInt8} {j : List Value} (hg : h.get q = .cells (bcells l ++ j) es) (hk : k < l.length) : Cell h q k (.int .u8 ((l.getD k 0).toNat : Nat)) := ⟨by
  rw [cellsAt_of (c := bcells l ++ j) (by rw [hg]; rfl) (by simp [bcells_len]; omega), take_one _ _ (by simp [bcells_len]; omega), lget_pre _ _ _ (by rw [bcells_len]; exact hk), (bcells_get hk).eq]⟩
theorem byte_put {h : Heap} {q es k : Nat} {l : List UInt8} {j : List Value} (hg : h.get q = .cells (bcells l ++ j) es) (hk : k < l.length) (n : Int) : Put h q k [.int .u8 (IntKind.u8.wrap n)] (h.set q (.cells (bcells (l.set k (u8of n)) ++ j) es)) := ⟨by
  simp only [putAt, hg]
  rw [if_pos ⟨by simp [bcells_len]; omega, rfl⟩, over_pre _ _ _ _ (by rw [bcells_len]; exact hk), u8of_eq, bcells_set hk]⟩
theorem OverBytes_ok {h : Heap} {v : Value} {l : List UInt8} {n : Nat} (ho : Own h 1 v (bcells l) n) (hs : n < 1048576) : Runs Try.prog T0 (.fn fn_zlQ) [v] h
    (fun r h' => Fr (ownedBy v) h h') (fun _ _ => False) := by
  have hlen := ho.len
  rw [bcells_len, Nat.mul_one] at hlen
  refine zlQ_runs ?_
  refine stp ?_
  have hsl : ∃ a cap, v = .slice a n cap ∧ (0 < n → ∃ q k, a = some ⟨q, 0, some k⟩) := by
    clear hlen
    generalize bcells l = c at ho
    cases ho with
    | none => exact ⟨_, _, rfl, fun h => by omega⟩
    | lit _ _ => exact ⟨_, _, rfl, fun h => by omega⟩
    | grown _ _ _ _ _ _ => exact ⟨_, _, rfl, fun _ => ⟨_, _, rfl⟩⟩
  have hin : ∃ j es, ∀ q k cap, v = .slice (some ⟨q, 0, some k⟩) n cap → q < h.n ∧ h.get q = .cells (bcells l ++ j) es := by
    clear hlen hsl
    generalize bcells l = c at ho
    cases ho with
    | none => exact ⟨[], 0, fun q k cap h => by cases h⟩
    | lit _ _ => exact ⟨[], 0, fun q k cap h => by cases h⟩
    | grown hq _ _ _ _ hg => exact ⟨_, _, fun q k cap h => by cases h; exact ⟨hq, hg⟩⟩
  obtain ⟨a, cap, rfl, ha⟩ := hsl
  obtain ⟨j, es, hin⟩ := hin
  refine loop1 zlQ_l0_M 2 (fun m v2 h' => ∃ k : Nat, k ≤ n ∧ m = n - k ∧ v2 = .int .i64 k ∧ (∃ l' : List UInt8, l'.length = n ∧ ∀ q s, a = some ⟨q, 0, some s⟩ → h'.get q = .cells (bcells l' ++ j) es) ∧ Fr (ownedBy (.slice a n cap)) h h') ?_ n ⟨0, by omega, rfl, rfl, ⟨l, hlen, fun q s e => by subst e; exact (hin q s cap rfl).2⟩, Fr.refl⟩
  rintro m v2 h' x3 x4 x5 x6 x7 x8 x9 x10 x11 x12 x13 x14 x15 x16 ⟨k, hk, rfl, rfl, ⟨l', hl', hg⟩, hf⟩
  refine stp ?_
  refine C.if (fun hlt => ?_) (fun hge => ?_)
  · have hk : k < n := by omega
    obtain ⟨q, s, rfl⟩ := ha (by omega)
    have hgq := hg q s rfl
    have hq := (hin q s cap rfl).1
    haveI := byte_cell hgq (k := k) (by omega)
    haveI := byte_put hgq (k := k) (by omega)
    haveI : BLt q h' := ⟨hf.lt hq⟩
    have hw : ∀ z : UInt8, (l'.set k z).length = n := fun z => by rw [List.length_set]; exact hl'
    refine stp ?_
    refine O.how XOp.xorI ?_
    refine stp ?_
    refine loop1a 2 (n - (k + 1)) (by omega) ⟨k + 1, by omega, rfl, rfl, ⟨_, hw _, fun q' s' e => by cases e; rw [Heap.get_set, if_pos rfl]⟩, hf.set fun _ => rfl⟩
  · refine stp ?_
    exact hf
end Go.Proofs.Ytoadcfjkkoemdaa.A

namespace Go.Proofs.Ytoadcfjkkoemdaa.A
open Go Go.Vm
set_option maxRecDepth 10000
set_option linter.unusedVariables false
theorem Kept_code {h : Heap} {q c' : Nat} {l : List UInt8} {u : Value} (hq : h.get q = .ro (bcells l ++ bcells lentTail)) (hlt : q < h.n) (hc : l.length + 4 ≤ c') (hs : l.length < 1048576) (hu : Rd h 1 u (bcells l) l.length) :
    Runs Try.prog (tableOf  Try.prog) (.fn fn_zjQ) [.slice (some ⟨q, 0, none⟩) l.length c', u] h (fun r _ => r = .bool true) (fun _ _ => False) := by
  have hu' := hu
  obtain ⟨au, capu, rfl, _, _⟩ := hu
  have hcells : (h.get q).cellsOf = some (bcells l ++ bcells lentTail) := by rw [hq]; rfl
  have hlen : (bcells l ++ bcells lentTail).length = l.length + 4 := by simp [bcells, lentTail]
  have hbl : (bcells l).length = l.length := by simp [bcells]
  have hv : Rd h 1 (.slice (some ⟨q, 0, none⟩) l.length c') (bcells l) l.length := Rd.mk hlt (by
    rw [Nat.mul_one, cellsAt_of hcells (by omega), List.drop_zero, ← hbl, List.take_left])
  refine zjQ_runs ?_
  refine stpP ?_
  refine O.by (v := .slice (some ⟨q, 0, none⟩) c' c') (h' := h) ?_ rfl ?_
  · show sliceOf _ 1 (.slice (some ⟨q, 0, none⟩) l.length c') none (some _) none _ = _
    simp only [sliceOf, bnd, eval, lget]
    rw [show idx (c' + 1) (.int .i64 ((c' : Nat) : Int)) = some c' from by rw [idx_in (by omega)]; simp]
    simp
  refine stpP ?_
  refine D.dec (fun _ => ?_) (fun h => absurd rfl h)
  refine stpP ?_
  refine D.howT (XOp.mkStr hv) rfl ?_
  refine stpP ?_
  refine D.howT (XOp.mkStr hu') rfl ?_
  refine stpP ?_
  refine D.decB (fun _ => ?_) (fun h => absurd h (by simp))
  refine stpP ?_
  refine D.dec (fun _ => ?_) (fun h => by omega)
  refine stpP ?_
  have hsl : ∀ (ts : List Value) (h' : Heap) (x y z : Operand), eval ts x = .slice (some ⟨q, 0, none⟩) c' c' → eval ts y = .int .i64 l.length → eval ts z = .int .i64 (l.length + 4 : Int) →
      XOp Try.prog ts h' (.sliceSl 1 x (some y) (some z) none) (.slice (some ⟨q, l.length, none⟩) 4 (c' - l.length)) h' := fun ts h' x y z e1 e2 e3 => ⟨rfl, by
    simp only [xop, e1, sliceOf, bnd, e2, e3]
    rw [show idx (c' + 1) (.int .i64 ((l.length : Int) + 4)) = some (l.length + 4) from by rw [idx_in (by omega)]; congr 1]
    simp only
    rw [show idx (l.length + 4 + 1) (.int .i64 (l.length : Int)) = some l.length from by rw [idx_in (by omega)]; simp]
    simp only
    rw [if_neg (by omega), if_neg (by omega)]
    simp⟩
  refine D.howT (hsl _ _ _ _ _ rfl rfl rfl) rfl ?_
  have hv2 : ∀ {h' : Heap}, Fr (fun _ => False) h h' → Rd h' 1 (.slice (some ⟨q, l.length, none⟩) 4 (c' - l.length)) (bcells lentTail) 4 := fun {h'} hf => (Rd.mk hlt (by
    rw [cellsAt_of hcells (by omega), ← hbl, List.drop_left]; rfl)).keep hf fun _ _ => id
  refine D.howT (XOp.mkStr (bs := lentTail) (hv2 Fr.refl)) rfl ?_
  refine D.oneT ?_ ?_
  · refine stab_consT (XOp.mkStr (bs := lentTail) (hv2 Fr.refl.push)) ?_
    refine stab_consT (hsl _ _ _ _ _ rfl rfl rfl) ?_
    refine stab_consT (XOp.addI (by omega)) ?_
    exact StabL.ok
  have hv3 : Rd (h.push (.cells [.int .u8 201, .int .u8 202, .int .u8 203, .int .u8 204] 0)) 1 (.slice (some ⟨h.n, 0, none⟩) 4 4) (bcells lentTail) 4 := rd_lit rfl
  refine D.howT (XOp.mkStr (bs := lentTail) hv3) rfl ?_
  refine stpP ?_
  simp [lentTail]
structure Lent (h : Heap) (lo : Nat) (v : Value) (l : List UInt8) : Prop where
  ex : ∃ q k cap j, v = .slice (some ⟨q, 0, some k⟩) l.length cap ∧ h.get q = .cells (bcells l ++ (bcells lentTail ++ j)) 1 ∧ l.length + 4 ≤ cap ∧ (l.length + (4 + j.length)) = cap ∧ lo ≤ q ∧ q < h.n
theorem Lent.rd {h : Heap} {lo : Nat} {v : Value} {l : List UInt8} (hv : Lent h lo v l) : Rd h 1 v (bcells l) l.length := by
  obtain ⟨q, k, cap, j, rfl, hq, hc, _, _, hlt⟩ := hv.ex
  refine Rd.mk hlt ?_
  have hbl : (bcells l).length = l.length := by simp [bcells]
  rw [Nat.mul_one, cellsAt_of (c := bcells l ++ (bcells lentTail ++ j)) (by rw [hq]; rfl) (by simp only [List.length_append, hbl]; omega), List.drop_zero, ← hbl, List.take_left]
theorem Lent.keep {S : Nat → Prop} {h h' : Heap} {lo : Nat} {v : Value} {l : List UInt8} (hv : Lent h lo v l) (hf : Fr S h h') (hs : ∀ i, S i → i < lo ∨ h.n ≤ i) : Lent h' lo v l := by
  obtain ⟨q, k, cap, j, rfl, hq, hc, hc2, hlo, hlt⟩ := hv.ex
  exact ⟨q, k, cap, j, rfl, by rw [hf.get q hlt fun h => by have := hs _ h; omega, hq], hc, hc2, hlo, hf.lt hlt⟩
theorem Lent.kept {h : Heap} {lo : Nat} {v w : Value} {l : List UInt8} (hv : Lent h lo v l) (hw : Rd h 1 w (bcells l) l.length) (hs : l.length < 1048576) : KeptPre [v, w] h := by
  obtain ⟨q, k, cap, j, rfl, hq, hc, _, _, _⟩ := hv.ex
  exact ⟨q, k, cap, l, w, j, rfl, hq, hc, hw, hs⟩
theorem LentBytes_ok {h : Heap} {v : Value} {l : List UInt8} (hr : Rd h 1 v (bcells l) l.length) (hs : l.length + 4 < 1048576) :
    Runs Try.prog T0 (.fn fn_zkQ) [v] h (fun r h' => Lent h' h.n r l ∧ Fr (fun _ => False) h h') (fun _ _ => False) := by
  have hr' := hr
  obtain ⟨a0, cap0, rfl, _, _⟩ := hr
  refine zkQ_runs ?_
  refine stpP ?_
  have hz : Own (h.push (.cells [] 0)) 1 (.slice (some ⟨h.n, 0, none⟩) 0 0) [] 0 := .lit (by simp) (by rw [Heap.get_push, if_pos rfl])
  refine O.append hz ((hr'.keep (S := fun _ => False) Fr.refl.push fun _ _ => id).new [.int .u8 0]) (by rw [bcells_len]; omega) (bcells_one l) (by omega) (by omega) (by omega) (fun v1 h1 ho1 hf1 hn1 => ?_)
  rw [Nat.zero_add, List.nil_append] at ho1
  refine stpP ?_
  have hlit : newCells (h1.push (.cells [.int .u8 201, .int .u8 202, .int .u8 203, .int .u8 204] 0)) 1 [.int .u8 0] false (.slice (some ⟨h1.n, 0, none⟩) 4 4) = some (4, bcells lentTail) := (rd_lit rfl).new [.int .u8 0]
  refine O.append (ho1.keep (S := fun _ => False) Fr.refl.push fun _ _ => id) hlit rfl (bcells_one _) (by omega) (by omega) (by omega) (fun v2 h2 ho2 hf2 hn2 => ?_)
  have hnew1 : ∀ i, ownedBy v1 i → h.n ≤ i := fun i hi => by
    rcases hn1 i hi with h3 | h3
    · have : h.n = i := h3
      omega
    · simp at h3; omega
  have hfr1 : Fr (fun _ => False) h h1 := Fr.trans (S := fun _ => False) Fr.refl.push hf1 fun i hi ho => by
    have : h.n = i := ho
    omega
  have hnn1 := hfr1.n
  have hnew2 : ∀ i, ownedBy v2 i → h.n ≤ i := fun i hi => by
    rcases hn2 i hi with h3 | h3
    · exact hnew1 i h3
    · simp at h3; omega
  have hfr2 : Fr (fun _ => False) h h2 := Fr.trans (S := fun _ => False) hfr1 (Fr.trans (S := ownedBy v1) Fr.refl.push hf2 fun i _ ho => ho) fun i hi ho => by
    have := hnew1 i ho
    omega
  generalize hcc : bcells l ++ bcells lentTail = cc at ho2
  generalize hnn : l.length + 4 = nn at ho2
  cases ho2 with
  | none => omega
  | lit hq hg => omega
  | grown hq hn hle hl hl2 hg =>
    rename_i q k cap j
    subst hcc
    subst hnn
    refine stpP ?_
    refine O.by (v := .slice (some ⟨q, 0, some k⟩) l.length cap) (h' := h2) ?_ rfl ?_
    · show sliceOf _ 1 (.slice (some ⟨q, 0, some k⟩) (l.length + 4) cap) none (some _) none _ = _
      simp only [sliceOf, bnd, eval, lget]
      rw [show idx (cap + 1) (.int .i64 ((l.length : Nat) : Int)) = some l.length from by rw [idx_in (by omega)]; simp]
      simp only
      rw [if_neg (by omega), if_pos trivial]
    refine stpP ?_
    refine ⟨⟨q, k, cap, j, rfl, by rw [hg, List.append_assoc], hle, ?_, hnew2 q rfl, hq⟩, hfr2⟩
    simp only [List.length_append, bcells_len] at hl2
    simp [lentTail] at hl2
    omega
end Go.Proofs.Ytoadcfjkkoemdaa.A

namespace Go.Proofs.Ytoadcfjkkoemdaa.A
open Go Go.Vm
set_option maxRecDepth 10000
set_option linter.unusedVariables false
class OwnI (h : Heap) (size : Nat) (v : Value) : Prop where
  ok : ∃ c n, Own h size v c n
instance {h : Heap} {size : Nat} {v : Value} {o : AObj} [k : OwnI h size v] : OwnI (h.push o) size v := ⟨by
  obtain ⟨c, n, h1⟩ := k.ok
  exact ⟨c, n, h1.keep (S := fun _ => False) Fr.refl.push fun _ _ => id⟩⟩
section
variable {P : Program} {ts : List Value} {h h' : Heap} {size n i : Nat} {v : Value} {c : List Value} {x lo hi : Operand} {p : Int}
theorem own_lo (hs : size ≠ 0) (ho : Own h size v c n) (i : Nat) (hi : i ≤ n) (hp : p = i) :
    ∃ v', (∀ b, blockOf v' b → ownedBy v b) ∧ Rd h size v' (c.drop (i * size)) (n - i) ∧ ∀ {P : Program} {ts : List Value} {h' : Heap} {x lo : Operand} [Ev ts x v] [Ev ts lo (.int .i64 p)] [OwnI h' size v], XOp P ts h' (.sliceSl size x (some lo) none none) v' h' := by
  have ix : ∀ {lim : Nat} {i : Nat}, i ≤ lim → idx (lim + 1) (.int .i64 i) = some i := fun hl => by rw [idx_in (by omega)]; simp
  subst hp
  cases ho with
  | none =>
    obtain rfl : i = 0 := by omega
    refine ⟨.slice none 0 0, fun b hb => hb.elim, by simpa using Rd.nil, fun {P ts h' x lo} e1 e2 k => ⟨rfl, ?_⟩⟩
    simp only [xop, e1.eq, sliceOf, bnd, e2.eq, ix (Nat.le_refl 0)]
    rfl
  | lit hq hg =>
    rename_i q es
    obtain rfl : i = 0 := by omega
    refine ⟨.slice (some ⟨q, 0, none⟩) 0 0, fun b hb => absurd rfl hb.2, by simpa using Rd.nil, fun {P ts h' x lo} e1 e2 k => ⟨rfl, ?_⟩⟩
    simp only [xop, e1.eq, sliceOf, bnd, e2.eq, ix (Nat.le_refl 0)]
    rfl
  | grown hq hn hle hl hl2 hg =>
    rename_i q k cap jj
    have hl3 := hl2
    rw [List.length_append] at hl3
    have hca : cellsAt h q 0 (n * size) = some c := by
      rw [cellsAt_of (by rw [hg]; rfl) (by rw [List.length_append]; omega), List.drop_zero, ← hl, List.take_left]
    have hmul : i * size + (n - i) * size = n * size := by rw [← Nat.add_mul]; congr 1; omega
    have nb1 : ∀ {e : Operand → Value}, bnd e cap n none = some n := rfl
    by_cases hi0 : i = 0
    · subst hi0
      refine ⟨.slice (some ⟨q, 0, some k⟩) n cap, fun b hb => hb.1, ?_, fun {P ts h' x lo} e1 e2 k => ⟨rfl, ?_⟩⟩
      · rw [Nat.zero_mul, List.drop_zero]
        exact Rd.mk hq hca
      · simp only [xop, e1.eq, sliceOf, bnd, e2.eq, ix (Nat.zero_le n)]
        rw [if_neg (by omega)]
        simp
    · by_cases hin : i = cap
      · refine ⟨.slice (some ⟨0, 0, some k⟩) 0 0, fun b hb => absurd rfl hb.2, ?_, fun {P ts h' x lo} e1 e2 k => ⟨rfl, ?_⟩⟩
        · have : n - i = 0 := by omega
          rw [this, List.drop_eq_nil_of_le (by rw [hl]; have := Nat.mul_le_mul_right size (show n ≤ i by omega); omega)]
          exact Rd.nil
        · simp only [xop, e1.eq, sliceOf, bnd, e2.eq, ix hi]
          rw [if_neg (by omega)]
          simp only [hi0, if_false]
          rw [if_pos hin.symm]
      · refine ⟨.slice (some ⟨q, 0 + i * size, some k⟩) (n - i) (cap - i), fun b hb => hb.1, ?_, fun {P ts h' x lo} e1 e2 kk => ⟨rfl, ?_⟩⟩
        · refine Rd.mk hq ?_
          have h5 := cellsAt_sub (k := i * size) (m := (n - i) * size) hca (by omega)
          rw [h5, List.take_of_length_le (by rw [List.length_drop]; omega)]
        · obtain ⟨c', n', ho'⟩ := kk.ok
          simp only [xop, e1.eq, sliceOf, bnd, e2.eq, ix hi]
          rw [if_neg (by omega)]
          cases ho' with
          | grown hq' hn' hle' hl' hl2' hg' => simp only [hi0, if_false, if_neg (Ne.symm hin), hg', if_true]
theorem own_hi (ho : Own h size v c n) (i : Nat) (hi : i ≤ n) (hp : p = i) :
    ∃ v', (∀ b, blockOf v' b → ownedBy v b) ∧ Rd h size v' (c.take (i * size)) i ∧ ∀ {P : Program} {ts : List Value} {h' : Heap} {x hi : Operand} [Ev ts x v] [Ev ts hi (.int .i64 p)], XOp P ts h' (.sliceSl size x none (some hi) none) v' h' := by
  have ix : ∀ {lim : Nat} {i : Nat}, i ≤ lim → idx (lim + 1) (.int .i64 i) = some i := fun hl => by rw [idx_in (by omega)]; simp
  subst hp
  cases ho with
  | none =>
    obtain rfl : i = 0 := by omega
    refine ⟨.slice none 0 0, fun b hb => hb.elim, by simpa using Rd.nil, fun {P ts h' x lo} e1 e2 => ⟨rfl, ?_⟩⟩
    simp only [xop, e1.eq, sliceOf, bnd, e2.eq, ix (Nat.le_refl 0)]
    rfl
  | lit hq hg =>
    rename_i q es
    obtain rfl : i = 0 := by omega
    refine ⟨.slice (some ⟨q, 0, none⟩) 0 0, fun b hb => absurd rfl hb.2, by simpa using Rd.nil, fun {P ts h' x lo} e1 e2 => ⟨rfl, ?_⟩⟩
    simp only [xop, e1.eq, sliceOf, bnd, e2.eq, ix (Nat.le_refl 0)]
    rfl
  | grown hq hn hle hl hl2 hg =>
    rename_i q k cap jj
    have h3 : i ≤ cap := by omega
    have hmul : i * size ≤ n * size := Nat.mul_le_mul_right _ hi
    refine ⟨.slice (some ⟨q, 0, some k⟩) i cap, fun b hb => hb.1, ?_, fun {P ts h' x lo} e1 e2 => ⟨rfl, ?_⟩⟩
    · refine Rd.mk hq ?_
      have hca : cellsAt h q 0 (n * size) = some c := by
        rw [cellsAt_of (by rw [hg]; rfl) (by rw [List.length_append]; omega), List.drop_zero, ← hl, List.take_left]
      have h5 := cellsAt_sub (k := 0) (m := i * size) hca (by omega)
      simpa using h5
    · simp only [xop, e1.eq, sliceOf, bnd, e2.eq, ix h3]
      rw [if_neg (by omega)]
      simp
end
end Go.Proofs.Ytoadcfjkkoemdaa.A

namespace Go.Proofs.Ytoadcfjkkoemdaa.A
open Go Go.Vm
set_option maxRecDepth 10000
set_option linter.unusedVariables false
abbrev rcells (a b c : Int) (u : Value) : List Value := [.int .i64 a, .int .i64 b, .int .i64 c, u]
theorem oc_take (l : List LE) (i : Nat) : (ocells l).take (i * 5) = ocells (l.take i) := by
  induction l generalizing i with
  | nil => simp [ocells]
  | cons e l ih =>
    cases i with
    | zero => simp [ocells]
    | succ i =>
      show (e.cells ++ ocells l).take ((i + 1) * 5) = e.cells ++ ocells (l.take i)
      rw [show (i + 1) * 5 = e.cells.length + i * 5 from by simp; omega, List.take_length_add_append, ih]
theorem oc_drop (l : List LE) (i : Nat) : (ocells l).drop (i * 5) = ocells (l.drop i) := by
  induction l generalizing i with
  | nil => simp [ocells]
  | cons e l ih =>
    cases i with
    | zero => simp
    | succ i =>
      show (e.cells ++ ocells l).drop ((i + 1) * 5) = ocells (l.drop i)
      rw [show (i + 1) * 5 = e.cells.length + i * 5 from by simp; omega, ← List.drop_drop, List.drop_left, ih]
theorem oc_app (l m : List LE) : ocells l ++ ocells m = ocells (l ++ m) := by simp [ocells]
instance cellsPush {h : Heap} {b off n : Nat} {c : List Value} {o : AObj} [k : Cells h b off n c] [l : BLt b h] : Cells (h.push o) b off n c := ⟨by
  rw [cellsAt_keep (S := fun _ => False) Fr.refl.push l.lt id]
  exact k.eq⟩
structure DMt (h : Heap) (p : Nat) (most n gone : Int) (u : Value) (Ls : List LE) : Prop where
  pl : p < h.n
  gp : h.get p = .cells (rcells most n gone u) 0
  ou : Own h 5 u (ocells Ls) Ls.length
  rd : ∀ e ∈ Ls, Rd h 1 e.w (bcells e.bs) e.bs.length
  up : ∀ i, ownedBy u i → i ≠ p
  wp : ∀ e ∈ Ls, ∀ i, blockOf e.w i → i ≠ p
def DOw (p : Nat) (u : Value) (Ls : List LE) (i : Nat) : Prop := i = p ∨ ownedBy u i ∨ ∃ e ∈ Ls, blockOf e.w i
section
variable {h h' : Heap} {p : Nat} {most n gone : Int} {u : Value} {Ls : List LE}
theorem DMt.keep {T : Nat → Prop} (hs : DMt h p most n gone u Ls) (hf : Fr T h h') (hn : ∀ i, DOw p u Ls i → ¬ T i) : DMt h' p most n gone u Ls :=
  ⟨hf.lt hs.pl, by rw [hf.get _ hs.pl (hn _ (.inl rfl))]; exact hs.gp, hs.ou.keep hf fun i hi => hn i (.inr (.inl hi)), fun e he => (hs.rd e he).keep hf fun i hi => hn i (.inr (.inr ⟨e, he, hi⟩)), hs.up, hs.wp⟩
theorem DMt.lt (hs : DMt h p most n gone u Ls) {i : Nat} (hi : DOw p u Ls i) : i < h.n := by
  rcases hi with rfl | hi | ⟨e, he, hi⟩
  · exact hs.pl
  · exact hs.ou.lt hi
  · exact Rd.block_lt (hs.rd e he) hi
theorem DMt.ones (hs : DMt h p most n gone u Ls) {Z : List LE} (hZ : ∀ e ∈ Z, e ∈ Ls) : (ocells Z).all Value.oneCell' = true := all_one fun e he => ⟨h, hs.rd e (hZ e he)⟩
theorem dwithin_ok {x : Int} : Runs Try.prog T0 (.fn fn_zcbQ) [.int .i64 x] h (fun r h' => r = .bool (isDue x) ∧ h' = h) (fun _ _ => False) := by
  refine zcbQ_runs ?_
  refine stp ?_
  refine O.dec (fun e => ?_) (fun e => ?_)
  · refine stp ?_
    refine ⟨?_, rfl⟩
    unfold isDue
    congr 1
    rw [decide_eq_decide]
    omega
  · refine stp ?_
    refine ⟨?_, rfl⟩
    unfold isDue
    rw [decide_eq_false (by omega)]
set_option maxHeartbeats 4000000 in
theorem dat_ok {k : Int} (hs : DMt h p most n gone u Ls) (hl : Ls.length < 100000) :
    Runs Try.prog T0 (.fn fn_zyQ) [.pointer (some ⟨p, 0, none⟩), .int .i64 k] h (fun r h' => h' = h ∧ ((∃ i : Nat, i < Ls.length ∧ r = .int .i64 i ∧ (at' Ls i).id = k) ∨ r = .int .i64 (-1) ∧ ∀ e ∈ Ls, e.id ≠ k)) (fun _ _ => False) := by
  haveI : HGet h p _ := ⟨hs.gp⟩
  obtain ⟨a, c, rfl, _, hc⟩ := id hs.ou.rd
  refine zyQ_runs ?_
  refine stp ?_
  refine loop1 zyQ_l0_M 5 (fun q v5 hx => ∃ j : Nat, j ≤ Ls.length ∧ q = Ls.length - j ∧ v5 = .int .i64 j ∧ hx = h ∧ ∀ e ∈ Ls.take j, e.id ≠ k) ?_ Ls.length ⟨0, by omega, rfl, rfl, rfl, by simp⟩
  rintro m v5 h' x4 x6 x7 x8 x9 x10 x11 x12 x13 x14 x15 x16 x17 x18 x19 x20 x21 x22 x23 x24 x25 ⟨j, hj, rfl, rfl, rfl, hno⟩
  rcases Nat.lt_or_ge j Ls.length with hlt | hge
  · haveI q1 : ∀ {ts : List Value} {h : Heap} {Q : Oper} {x z : Operand} [Ev ts x (.int .i64 (j : Nat))] [Ev ts z (.int .i64 (Ls.length : Nat))], XOp Try.prog ts h (.bin .lss Q x z) (.bool true) h := xlss1 (by omega)
    obtain ⟨b, o, sp, rfl, hb, hcc⟩ := hc (by omega)
    haveI := let_cell (v := .int .i64 (at' Ls j).id) hcc rfl hlt (show 0 < 5 by omega) rfl
    refine stp ?_
    refine C.if (fun hk => ?_) (fun hk => ?_)
    · refine stp ?_
      exact ⟨rfl, .inl ⟨j, hlt, rfl, hk⟩⟩
    · refine stp ?_
      refine loop1a 5 (Ls.length - (j + 1)) (by omega) ⟨j + 1, by omega, rfl, rfl, rfl, fun e he => ?_⟩
      rw [List.take_succ_eq_append_getElem hlt] at he
      rcases List.mem_append.1 he with he | he
      · exact hno e he
      · rw [List.mem_singleton.1 he, show Ls[j] = at' Ls j from by simp [at', List.getD, hlt]]
        exact hk
  · haveI q1 : ∀ {ts : List Value} {h : Heap} {Q : Oper} {x z : Operand} [Ev ts x (.int .i64 (j : Nat))] [Ev ts z (.int .i64 (Ls.length : Nat))], XOp Try.prog ts h (.bin .lss Q x z) (.bool false) h := xlss0 (by omega)
    refine stp ?_
    exact ⟨rfl, .inr ⟨rfl, fun e he => hno e (by rw [List.take_of_length_le (by omega)]; exact he)⟩⟩
set_option maxHeartbeats 16000000 in
theorem dtake_ok {i : Nat} (hs : DMt h p most n gone u Ls) (hl : Ls.length < 100000) (hi : i < Ls.length) :
    Runs Try.prog T0 (.fn fn_zabQ) [.pointer (some ⟨p, 0, none⟩), .int .i64 i] h
      (fun r h' => r = .agg ⟨(at' Ls i).cells⟩ ∧ ∃ u', DMt h' p most n gone u' (Ls.take i ++ Ls.drop (i + 1)) ∧ Fr (fun j => j = p) h h' ∧ (∀ j, ownedBy u' j → h.n ≤ j)) (fun _ _ => False) := by
  have hp := hs.pl
  have hou := hs.ou
  have hgp := hs.gp
  have hsum0 : 0 + i < 1048576 := by omega
  have hsum : 0 + i + (Ls.length - (i + 1)) < 1048576 := by omega
  obtain ⟨w1, b1, r1, x1⟩ := own_hi hou (p := (i : Int)) i (by omega) rfl
  obtain ⟨w2, b2, r2, x2⟩ := own_lo (by decide) hou (p := (i : Int) + 1) (i + 1) (by omega) (by omega)
  rw [oc_take] at r1
  rw [oc_drop] at r2
  have m1 : ∀ e ∈ Ls.take i, e ∈ Ls := fun e he => List.mem_of_mem_take he
  have m2 : ∀ e ∈ Ls.drop (i + 1), e ∈ Ls := fun e he => List.mem_of_mem_drop he
  have z1 := hs.ones m1
  have z2 := hs.ones m2
  have l1 : (Ls.take i).length = i := by rw [List.length_take]; omega
  have l2 : (Ls.drop (i + 1)).length = Ls.length - (i + 1) := List.length_drop
  have he := at_mem hi
  have hrd := hs.rd _ he
  obtain ⟨a, c, eu, _, hc⟩ := id hou.rd
  subst eu
  obtain ⟨q, o, sp, rfl, hq, hcc⟩ := hc (by omega)
  have hcel : Cells h q (o + i * 5) 5 (at' Ls i).cells := ⟨by rw [cellsAt_sub hcc (by omega), ocells_at hi]⟩
  generalize at' Ls i = e at *
  obtain ⟨aw, cw, ew, _, _⟩ := id hrd
  have ec : e.cells = lcells e.id e.fr e.to e.due (.slice aw e.bs.length cw) := by rw [← ew]
  rw [ec] at hcel ⊢
  haveI := hcel
  haveI : BLt q h := ⟨hq⟩
  haveI : HGet h p _ := ⟨hgp⟩
  haveI : BLt p h := ⟨hp⟩
  haveI := @x1
  haveI := @x2
  haveI : InR .i64 ((i : Int) + 1) := inr_i64 (by omega)
  haveI oB0 : OwnI h 5 (.slice (some ⟨q, o, sp⟩) Ls.length c) := ⟨_, _, hou⟩
  refine zabQ_runs ?_
  refine stp ?_
  have F0 : Fr (fun _ => False) h ((h.push (.cells [.int .i64 0, .int .i64 0, .int .i64 0, .int .i64 0, .slice none 0 0] 0)).push (.cells [.int .i64 e.id, .int .i64 e.fr, .int .i64 e.to, .int .i64 e.due, .slice aw e.bs.length cw] 0)) := Fr.refl.push.push
  have gB : ((h.push (.cells [.int .i64 0, .int .i64 0, .int .i64 0, .int .i64 0, .slice none 0 0] 0)).push (.cells [.int .i64 e.id, .int .i64 e.fr, .int .i64 e.to, .int .i64 e.due, .slice aw e.bs.length cw] 0)).get (h.n + 1) = .cells (lcells e.id e.fr e.to e.due (.slice aw e.bs.length cw)) 0 := HGet.new.eq
  have gA : ((h.push (.cells [.int .i64 0, .int .i64 0, .int .i64 0, .int .i64 0, .slice none 0 0] 0)).push (.cells [.int .i64 e.id, .int .i64 e.fr, .int .i64 e.to, .int .i64 e.due, .slice aw e.bs.length cw] 0)).get h.n = .cells (lcells 0 0 0 0 (.slice none 0 0)) 0 := by rw [Heap.get_push, if_neg (by simp), Heap.get_push, if_pos rfl]
  have n0 : ((h.push (.cells [.int .i64 0, .int .i64 0, .int .i64 0, .int .i64 0, .slice none 0 0] 0)).push (.cells [.int .i64 e.id, .int .i64 e.fr, .int .i64 e.to, .int .i64 e.due, .slice aw e.bs.length cw] 0)).n = h.n + 2 := rfl
  have nA : (h.push (.cells [.int .i64 0, .int .i64 0, .int .i64 0, .int .i64 0, .slice none 0 0] 0)).n = h.n + 1 := rfl
  simp only [nA]
  generalize (h.push (.cells [.int .i64 0, .int .i64 0, .int .i64 0, .int .i64 0, .slice none 0 0] 0)).push (.cells [.int .i64 e.id, .int .i64 e.fr, .int .i64 e.to, .int .i64 e.due, .slice aw e.bs.length cw] 0) = h0 at *
  have hou0 := hou.keep F0 fun _ _ => id
  have gp0 : h0.get p = _ := (F0.get p hp id).trans hgp
  have r1 := r1.keep F0 fun _ _ => id
  have r2 := r2.keep F0 fun _ _ => id
  haveI : HGet h0 p _ := ⟨gp0⟩
  haveI : BLt p h0 := ⟨by omega⟩
  haveI : OwnI h0 5 (.slice (some ⟨q, o, sp⟩) Ls.length c) := ⟨_, _, hou0⟩
  refine D.one ?_ ?_
  · repeat refine stab_cons inferInstance ?_
    rfl
  have G0 : Fr (fun _ => False) h0 (h0.push (.cells [] 0)) := Fr.refl.push
  have hn : (h0.push (.cells [] 0)).n = h0.n + 1 := rfl
  refine D.appendC (n := 0) (m := i) (c := []) (d := ocells (Ls.take i)) (Own.lit (by simp) HGet.new.eq) ((r1.keep G0 fun _ _ => id).new _) (by rw [ocells_len, l1]) z1 (by decide) (by decide) hsum0 (fun v1 h1 o1 f1 n1 => ?_)
  have o1' : ∀ {j}, ownedBy v1 j → h0.n ≤ j := fun {j} hj => (n1 j hj).elim (fun e => by have e : h0.n = j := e; omega) (fun e => by rw [hn] at e; omega)
  have F1 : Fr (fun _ => False) h0 h1 := G0.trans f1 fun j hj e => by have e : h0.n = j := e; omega
  haveI : HGet h1 p _ := F1.keep ⟨gp0⟩ (by omega) id
  haveI : OwnI h1 5 (.slice (some ⟨q, o, sp⟩) Ls.length c) := ⟨_, _, hou0.keep F1 fun _ _ => id⟩
  obtain ⟨q1, q2, rfl, _, _⟩ := id o1.rd
  refine ⟨?_, ?_⟩
  · repeat refine stab_cons inferInstance ?_
    rfl
  refine D.appendC o1 ((r2.keep F1 fun _ _ => id).new _) (by rw [ocells_len, l2]) z2 (by decide) (by decide) hsum (fun v2 h2 o2 f2 n2 => ⟨?_, ?_⟩)
  · repeat refine stab_cons inferInstance ?_
    rfl
  have o2' : ∀ {j}, ownedBy v2 j → h0.n ≤ j := fun {j} hj => (n2 j hj).elim (fun e => o1' e) (fun e => by have := F1.n; omega)
  have F2 : Fr (fun _ => False) h0 h2 := F1.trans f2 fun j hj e => by have := o1' e; omega
  have gp2 : h2.get p = _ := (F2.get p (by omega) id).trans gp0
  have gA2 : h2.get h.n = _ := (F2.get h.n (by omega) id).trans gA
  have gB2 : h2.get (h.n + 1) = _ := (F2.get (h.n + 1) (by omega) id).trans gB
  have m2n := F2.n
  rw [List.nil_append, oc_app, Nat.zero_add] at o2
  obtain ⟨q3, q4, rfl, _, _⟩ := id o2.rd
  haveI : HGet h2 p _ := ⟨gp2⟩
  haveI : BLt p h2 := ⟨by omega⟩
  refine stp ?_
  have len2 : i + (Ls.length - (i + 1)) = (Ls.take i ++ Ls.drop (i + 1)).length := by rw [List.length_append, l1, l2]
  rw [len2] at o2 o2' ⊢
  have o3 := o2.keep (S := fun j => j = p) (Fr.refl.set (b := p) (o := .cells (rcells most n gone (.slice q3 (Ls.take i ++ Ls.drop (i + 1)).length q4)) 0) fun _ => rfl) fun j hj e => by have := o2' hj; omega
  have g3 : (h2.set p (.cells (rcells most n gone (.slice q3 (Ls.take i ++ Ls.drop (i + 1)).length q4)) 0)).get p = .cells (rcells most n gone (.slice q3 (Ls.take i ++ Ls.drop (i + 1)).length q4)) 0 := by rw [Heap.get_set, if_pos rfl]
  have F3 : Fr (fun j => j = p) h (h2.set p (.cells (rcells most n gone (.slice q3 (Ls.take i ++ Ls.drop (i + 1)).length q4)) 0)) := ((F0.trans' F2).mono fun _ _ e => e.elim).trans' (Fr.refl.set fun _ => rfl)
  have gA3 : (h2.set p (.cells (rcells most n gone (.slice q3 (Ls.take i ++ Ls.drop (i + 1)).length q4)) 0)).get h.n = .cells (lcells 0 0 0 0 (.slice none 0 0)) 0 := by rw [Heap.get_set, if_neg (by omega)]; exact gA2
  have gB3 : (h2.set p (.cells (rcells most n gone (.slice q3 (Ls.take i ++ Ls.drop (i + 1)).length q4)) 0)).get (h.n + 1) = .cells (lcells e.id e.fr e.to e.due (.slice aw e.bs.length cw)) 0 := by rw [Heap.get_set, if_neg (by omega)]; exact gB2
  have n3 : (h2.set p (.cells (rcells most n gone (.slice q3 (Ls.take i ++ Ls.drop (i + 1)).length q4)) 0)).n = h2.n := rfl
  generalize h2.set p (.cells (rcells most n gone (.slice q3 (Ls.take i ++ Ls.drop (i + 1)).length q4)) 0) = h3 at *
  haveI : HGet h3 h.n _ := ⟨gA3⟩
  haveI : HGet h3 (h.n + 1) _ := ⟨gB3⟩
  haveI : BLt h.n h3 := ⟨by omega⟩
  haveI : BLt (h.n + 1) h3 := ⟨by omega⟩
  refine stp ?_
  have F4 : Fr (fun j => j = h.n) h3 (h3.set h.n (.cells (lcells e.id e.fr e.to e.due (.slice aw e.bs.length cw)) 0)) := Fr.refl.set fun _ => rfl
  have hgo : ∀ j, ownedBy (.slice q3 (Ls.take i ++ Ls.drop (i + 1)).length q4) j → h0.n ≤ j := fun j hj => o2' hj
  refine ⟨rfl, _, ⟨by show p < h3.n; omega, by rw [Heap.get_set, if_neg (by omega)]; exact g3, o3.keep F4 fun j hj e => by have := hgo j hj; omega, fun e' he' => ?_, fun j hj e => by have := hgo j hj; omega, fun e' he' => hs.wp e' ((List.mem_append.1 he').elim (m1 e') (m2 e'))⟩, F3.trans F4 fun j hj e => by omega, fun j hj => by have := hgo j hj; omega⟩
  have hm' := (List.mem_append.1 he').elim (m1 e') (m2 e')
  exact ((hs.rd e' hm').keep F3 fun j hj => hs.wp e' hm' j hj).keep F4 fun j hj e => by have := Rd.block_lt (hs.rd e' hm') hj; omega
end
end Go.Proofs.Ytoadcfjkkoemdaa.A

namespace Go.Proofs.Ytoadcfjkkoemdaa.A
open Go Go.Vm
set_option maxRecDepth 10000
set_option linter.unusedVariables false
theorem srt_drop {L : List LT} {x : LT} {k : Nat} (hs : SrtT L) (hk : k < L.length) (hn : ltT L[k] x = false) : ∀ y ∈ L.drop k, ltT y x = false := fun y hy => by
  obtain ⟨j, hj, rfl⟩ := List.mem_iff_getElem.1 hy
  rw [List.length_drop] at hj
  rw [List.getElem_drop]
  rcases Nat.eq_zero_or_pos j with e | e
  · subst e
    exact hn
  · have h1 := List.pairwise_iff_getElem.1 hs k (k + j) hk (by omega) (by omega)
    simp only [ltK, decide_eq_true_eq, decide_eq_false_iff_not] at h1 hn ⊢
    omega
theorem ins_at {L : List LT} {x : LT} {k : Nat} (hs : SrtT L) (hk : k ≤ L.length) (h1 : ∀ y ∈ L.take k, ltT y x = true) (h2 : ∀ hk : k < L.length, ltT L[k] x = false) : L.take k ++ x :: L.drop k = insT x L := by
  have h3 : ∀ y ∈ L.drop k, ltT y x = false := fun y hy => by
    rcases Nat.lt_or_ge k L.length with q | q
    · exact srt_drop hs q (h2 q) y hy
    · rw [List.drop_eq_nil_of_le q] at hy; simp at hy
  have e1 : L.filter (fun y => ltT y x) = L.take k := by
    conv => lhs; rw [← List.take_append_drop k L]
    rw [List.filter_append, List.filter_eq_self.2 h1, List.filter_eq_nil_iff.2 (fun y hy => by rw [h3 y hy]; simp), List.append_nil]
  have e2 : L.filter (fun y => !ltT y x) = L.drop k := by
    conv => lhs; rw [← List.take_append_drop k L]
    rw [List.filter_append, List.filter_eq_nil_iff.2 (fun y hy => by rw [h1 y hy]; simp), List.filter_eq_self.2 (fun y hy => by rw [h3 y hy]; rfl), List.nil_append]
  unfold insT
  rw [e1, e2]
section
variable {h h' : Heap} {p : Nat} {most n gone : Int} {u : Value} {Ls : List LE}
set_option maxHeartbeats 64000000 in
theorem dlay_ok {x : LE} (hs : DMt h p most n gone u Ls) (hl : Ls.length < 100000) (hso : SrtT (Ls.map LE.tr)) (hx : Rd h 1 x.w (bcells x.bs) x.bs.length) (hxp : ∀ i, blockOf x.w i → i ≠ p) :
    Runs Try.prog T0 (.fn fn_zzQ) [.pointer (some ⟨p, 0, none⟩), .agg ⟨x.cells⟩] h
      (fun r h' => ∃ u' O', DMt h' p most n gone u' O' ∧ O'.map LE.tr = insT x.tr (Ls.map LE.tr) ∧ (∀ e ∈ O', e ∈ Ls ∨ e = x) ∧ Fr (fun j => j = p) h h' ∧ (∀ j, ownedBy u' j → h.n ≤ j)) (fun _ _ => False) := by
  have hp := hs.pl
  have hou := hs.ou
  have hgp := hs.gp
  have hones := fun {Z : List LE} (hZ : ∀ e ∈ Z, e ∈ Ls) => hs.ones hZ
  obtain ⟨aw, cw, ew, _, _⟩ := id hx
  have hx' := hx
  have ec : x.cells = (lcells x.id x.fr x.to x.due (.slice aw x.bs.length cw)) := by rw [← ew]
  rw [ec]
  obtain ⟨a, c, eu, _, hc⟩ := id hou.rd
  subst eu
  haveI : HGet h p _ := ⟨hgp⟩
  haveI : BLt p h := ⟨hp⟩
  refine zzQ_runs ?_
  refine stp ?_
  have g0 : (h.push (.cells (lcells x.id x.fr x.to x.due (.slice aw x.bs.length cw)) 0)).get h.n = .cells (lcells x.id x.fr x.to x.due (.slice aw x.bs.length cw)) 0 := HGet.new.eq
  have F0 : Fr (fun _ => False) h (h.push (.cells (lcells x.id x.fr x.to x.due (.slice aw x.bs.length cw)) 0)) := Fr.refl.push
  have n0 : (h.push (.cells (lcells x.id x.fr x.to x.due (.slice aw x.bs.length cw)) 0)).n = h.n + 1 := rfl
  generalize h.push (.cells (lcells x.id x.fr x.to x.due (.slice aw x.bs.length cw)) 0) = h0 at *
  have gp0 : h0.get p = .cells (rcells most n gone (.slice a Ls.length c)) 0 := (F0.get _ hp id).trans hgp
  have hou0 := hou.keep F0 fun _ _ => id
  haveI : HGet h0 h.n _ := ⟨g0⟩
  haveI : HGet h0 p _ := ⟨gp0⟩
  haveI : BLt h.n h0 := ⟨by omega⟩
  haveI : BLt p h0 := ⟨by omega⟩
  refine loop1 zzQ_l0_M 4 (fun q v4 hx => ∃ k : Nat, k ≤ Ls.length ∧ q = Ls.length - k ∧ v4 = .int .i64 k ∧ hx = h0 ∧ ∀ y ∈ (Ls.map LE.tr).take k, ltT y x.tr = true) ?_ Ls.length ⟨0, by omega, rfl, rfl, rfl, by simp⟩
  rintro m v4 h' x6 x7 x8 x9 x10 x11 x12 x13 x14 x15 x16 x17 x18 x19 x20 x21 x22 x23 x24 x25 x26 x27 x28 x29 x30 x31 x32 x33 x34 x35 x36 x37 x38 x39 x40 x41 x42 x43 x44 x45 x46 x47 x48 x49 x50 x51 x52 x53 ⟨k, hk, rfl, rfl, rfl, hbe⟩
  have hOl : (Ls.map LE.tr).length = Ls.length := List.length_map _
  by_cases hgo : ∃ hk : k < Ls.length, ltT (Ls.map LE.tr)[k] x.tr = true
  · obtain ⟨hlt, hgo⟩ := hgo
    have hmo : ∀ y ∈ (Ls.map LE.tr).take (k + 1), ltT y x.tr = true := fun y hy => by
      rw [List.take_succ_eq_append_getElem (by omega)] at hy
      rcases List.mem_append.1 hy with hy | hy
      · exact hbe y hy
      · rw [List.mem_singleton.1 hy]; exact hgo
    haveI q1 : ∀ {ts : List Value} {h : Heap} {Q : Oper} {x z : Operand} [Ev ts x (.int .i64 (k : Nat))] [Ev ts z (.int .i64 (Ls.length : Nat))], XOp Try.prog ts h (.bin .lss Q x z) (.bool true) h := xlss1 (by omega)
    have hcx := (hou0.rd)
    obtain ⟨a', c', e9, _, hc0⟩ := id hcx
    injection e9 with e9 _ e9'
    subst e9 e9'
    obtain ⟨b, o, sp, rfl, hb, hcc⟩ := hc0 (by omega)
    have hgo : ltL (at' Ls k) x = true := by
      rw [List.getElem_map] at hgo
      rw [show at' Ls k = Ls[k] from by simp [at', List.getD, hlt]]
      exact hgo
    haveI := let_cell (v := .int .i64 (at' Ls k).due) hcc rfl hlt (show 3 < 5 by omega) rfl
    haveI := let_cell (v := .int .i64 (at' Ls k).id) hcc rfl hlt (show 0 < 5 by omega) rfl
    simp only [ltK, decide_eq_true_eq] at hgo
    generalize (at' Ls k).due = d1 at *
    generalize (at' Ls k).id = i1 at *
    rcases Classical.em (d1 < x.due) with hd | hd
    · haveI q2 : ∀ {ts : List Value} {h : Heap} {Q : Oper} {y z : Operand} [Ev ts y (.int .i64 d1)] [Ev ts z (.int .i64 x.due)], XOp Try.prog ts h (.bin .lss Q y z) (.bool true) h := xlss1 hd
      refine stp ?_
      repeat (refine D.howT (XOp.mkIndexSl (by omega)) rfl ?_; refine stp ?_)
      exact loop1a 4 (Ls.length - (k + 1)) (by omega) ⟨k + 1, by omega, rfl, rfl, rfl, hmo⟩
    · haveI q2 : ∀ {ts : List Value} {h : Heap} {Q : Oper} {y z : Operand} [Ev ts y (.int .i64 d1)] [Ev ts z (.int .i64 x.due)], XOp Try.prog ts h (.bin .lss Q y z) (.bool false) h := xlss0 hd
      haveI q3 : ∀ {ts : List Value} {h : Heap} {Q : Oper} {y z : Operand} [Ev ts y (.int .i64 d1)] [Ev ts z (.int .i64 x.due)], XOp Try.prog ts h (.bin .eql Q y z) (.bool true) h := xeql1 (by omega)
      haveI q4 : ∀ {ts : List Value} {h : Heap} {Q : Oper} {y z : Operand} [Ev ts y (.int .i64 i1)] [Ev ts z (.int .i64 x.id)], XOp Try.prog ts h (.bin .lss Q y z) (.bool true) h := xlss1 (by omega)
      refine stp ?_
      repeat (refine D.howT (XOp.mkIndexSl (by omega)) rfl ?_; refine stp ?_)
      exact loop1a 4 (Ls.length - (k + 1)) (by omega) ⟨k + 1, by omega, rfl, rfl, rfl, hmo⟩
  have hend : ∀ hk : k < (Ls.map LE.tr).length, ltT (Ls.map LE.tr)[k] x.tr = false := fun hk => by
    cases hq : ltT (Ls.map LE.tr)[k] x.tr with
    | false => rfl
    | true => exact absurd ⟨by omega, hq⟩ hgo
  have hins := ins_at hso (by omega) hbe hend
  rw [← List.map_take, ← List.map_drop] at hins
  refine RunC.seq ?_
  refine cut1 zzQ_l0_M (.exit 0) (fun v hz => v = .int .i64 k ∧ hz = h') ?_ ?_
  · rcases Nat.lt_or_ge k Ls.length with hlt | hge
    · haveI q1 : ∀ {ts : List Value} {h : Heap} {Q : Oper} {x z : Operand} [Ev ts x (.int .i64 (k : Nat))] [Ev ts z (.int .i64 (Ls.length : Nat))], XOp Try.prog ts h (.bin .lss Q x z) (.bool true) h := xlss1 (by omega)
      obtain ⟨a', c', e9, _, hc0⟩ := id hou0.rd
      injection e9 with e9 _ e9'
      subst e9 e9'
      obtain ⟨b, o, sp, rfl, hb, hcc⟩ := hc0 (by omega)
      have hgo := hend (by omega)
      rw [List.getElem_map, show Ls[k] = at' Ls k from by simp [at', List.getD, hlt]] at hgo
      haveI := let_cell (v := .int .i64 (at' Ls k).due) hcc rfl hlt (show 3 < 5 by omega) rfl
      haveI := let_cell (v := .int .i64 (at' Ls k).id) hcc rfl hlt (show 0 < 5 by omega) rfl
      have hgo : ¬ ((at' Ls k).due < x.due ∨ (at' Ls k).due = x.due ∧ (at' Ls k).id < x.id) := of_decide_eq_false hgo
      generalize (at' Ls k).due = d1 at *
      generalize (at' Ls k).id = i1 at *
      haveI q2 : ∀ {ts : List Value} {h : Heap} {Q : Oper} {y z : Operand} [Ev ts y (.int .i64 d1)] [Ev ts z (.int .i64 x.due)], XOp Try.prog ts h (.bin .lss Q y z) (.bool false) h := xlss0 (by omega)
      rcases Classical.em (d1 = x.due) with hd | hd
      · haveI q3 : ∀ {ts : List Value} {h : Heap} {Q : Oper} {y z : Operand} [Ev ts y (.int .i64 d1)] [Ev ts z (.int .i64 x.due)], XOp Try.prog ts h (.bin .eql Q y z) (.bool true) h := xeql1 hd
        haveI q4 : ∀ {ts : List Value} {h : Heap} {Q : Oper} {y z : Operand} [Ev ts y (.int .i64 i1)] [Ev ts z (.int .i64 x.id)], XOp Try.prog ts h (.bin .lss Q y z) (.bool false) h := xlss0 (by omega)
        refine stp ?_
        repeat (refine D.howT (XOp.mkIndexSl (by omega)) rfl ?_; refine stp ?_)
        exact cutQ1.out 4 ⟨rfl, rfl⟩
      · haveI q3 : ∀ {ts : List Value} {h : Heap} {Q : Oper} {y z : Operand} [Ev ts y (.int .i64 d1)] [Ev ts z (.int .i64 x.due)], XOp Try.prog ts h (.bin .eql Q y z) (.bool false) h := xeql0 hd
        refine stp ?_
        repeat (refine D.howT (XOp.mkIndexSl (by omega)) rfl ?_; refine stp ?_)
        exact cutQ1.out 4 ⟨rfl, rfl⟩
    · haveI q1 : ∀ {ts : List Value} {h : Heap} {Q : Oper} {x z : Operand} [Ev ts x (.int .i64 (k : Nat))] [Ev ts z (.int .i64 (Ls.length : Nat))], XOp Try.prog ts h (.bin .lss Q x z) (.bool false) h := xlss0 (by omega)
      refine stp ?_
      exact cutQ1.out 4 ⟨rfl, rfl⟩
  intro vk hz x6 x7 x8 x9 x10 x11 x12 x13 x14 x15 x16 x17 x18 x19 x20 x21 x22 x23 x24 x25 x26 x27 x28 x29 x30 x31 x32 x33 x34 x35 x36 x37 x38 x39 x40 x41 x42 x43 x44 x45 x46 x47 x48 x49 x50 x51 x52 x53 ⟨e1, e2⟩
  subst e1 e2
  clear hgo hend hbe
  obtain ⟨w1, b1, r1, x1⟩ := own_hi hou0 (p := (k : Int)) k (by omega) rfl
  obtain ⟨w2, b2, r2, x2⟩ := own_lo (by decide) hou0 (p := (k : Int)) k (by omega) rfl
  rw [oc_take] at r1
  rw [oc_drop] at r2
  have z1 := hones (Z := Ls.take k) fun e he => List.mem_of_mem_take he
  have z2 := hones (Z := Ls.drop k) fun e he => List.mem_of_mem_drop he
  have l1 : (Ls.take k).length = k := by rw [List.length_take]; omega
  have l2 : (Ls.drop k).length = Ls.length - k := List.length_drop
  have l1' : (ocells (Ls.take k)).length = k * 5 := by rw [ocells_len, l1]
  have l2' : (ocells (Ls.drop k)).length = (Ls.length - k) * 5 := by rw [ocells_len, l2]
  haveI := @x1
  haveI := @x2
  haveI oB0 : OwnI hz 5 (.slice a Ls.length c) := ⟨_, _, hou0⟩
  refine stp ?_
  refine O.append (n := 0) (m := Ls.length - k) (c := []) (d := ocells (Ls.drop k)) (.lit (by simp) (by rw [Heap.get_push, if_pos rfl])) ((r2.keep (Fr.refl.push (S := fun _ => False)) fun _ _ => id).new _) l2' z2 (by omega) (by omega) (by omega) (fun vr h2 o2 f2 m2 => ?_)
  simp only [Heap.n_push] at *
  have G0 : Fr (fun _ => False) hz (hz.push (.cells [] 0)) := Fr.refl.push
  have Fx : Fr (fun _ => False) hz h2 := G0.trans f2 fun i hi e => by
    have e : hz.n = i := e
    omega
  have F2 : Fr (fun _ => False) h h2 := F0.trans' Fx
  have gp2 : h2.get p = .cells (rcells most n gone (.slice a Ls.length c)) 0 := by rw [Fx.get _ (by omega) id]; exact gp0
  have g2 : h2.get h.n = .cells (lcells x.id x.fr x.to x.due (.slice aw x.bs.length cw)) 0 := by rw [Fx.get _ (by omega) id]; exact g0
  have q2 := Fx.n
  have r1 := r1.keep Fx fun _ _ => id
  haveI : HGet h2 p _ := ⟨gp2⟩
  haveI : HGet h2 h.n _ := ⟨g2⟩
  haveI : BLt p h2 := ⟨by omega⟩
  haveI : BLt h.n h2 := ⟨by omega⟩
  have keepP : ∀ {hx : Heap}, Fr (fun _ => False) h2 hx → HGet hx p (.cells (rcells most n gone (.slice a Ls.length c)) 0) ∧ HGet hx h.n (.cells (lcells x.id x.fr x.to x.due (.slice aw x.bs.length cw)) 0) ∧ BLt p hx ∧ BLt h.n hx := fun G => ⟨G.keep ⟨gp2⟩ (by omega) id, G.keep ⟨g2⟩ (by omega) id, ⟨G.lt (by omega)⟩, ⟨G.lt (by omega)⟩⟩
  have elen : 0 + k + 1 + (0 + (Ls.length - k)) = (Ls.take k ++ x :: Ls.drop k).length := by rw [List.length_append, List.length_cons, l1, l2]; omega
  have ecells : ([] ++ ocells (Ls.take k)) ++ (lcells x.id x.fr x.to x.due (.slice aw x.bs.length cw)) ++ ([] ++ ocells (Ls.drop k)) = ocells (Ls.take k ++ x :: Ls.drop k) := by
    rw [← ec, List.nil_append, List.nil_append, ← oc_app, List.append_assoc]
    rfl
  have hmem : ∀ e ∈ Ls.take k ++ x :: Ls.drop k, e ∈ Ls ∨ e = x := fun e he => by
    rcases List.mem_append.1 he with he | he
    · exact .inl (List.mem_of_mem_take he)
    · rcases List.mem_cons.1 he with he | he
      · exact .inr he
      · exact .inl (List.mem_of_mem_drop he)
  have fin : ∀ {hx : Heap} {v : Value}, Fr (fun _ => False) h2 hx → Own hx 5 v (([] ++ ocells (Ls.take k)) ++ (lcells x.id x.fr x.to x.due (.slice aw x.bs.length cw)) ++ ([] ++ ocells (Ls.drop k))) (0 + k + 1 + (0 + (Ls.length - k))) → (∀ i, ownedBy v i → h2.n ≤ i) → ∃ u' O', DMt (hx.set p (.cells (rcells most n gone v) 0)) p most n gone u' O' ∧ O'.map LE.tr = insT x.tr (Ls.map LE.tr) ∧ (∀ e ∈ O', e ∈ Ls ∨ e = x) ∧ Fr (fun j => j = p) h (hx.set p (.cells (rcells most n gone v) 0)) ∧ (∀ j, ownedBy u' j → h.n ≤ j) := fun {hx v} G ho hm => by
    have fS : Fr (fun i => i = p) hx (hx.set p (.cells (rcells most n gone v) 0)) := Fr.refl.set fun _ => rfl
    rw [ecells, elen] at ho
    have hnp : ∀ i, ownedBy v i → i ≠ p := fun i hi e => by have := hm i hi; omega
    refine ⟨v, Ls.take k ++ x :: Ls.drop k, ⟨?_, by rw [Heap.get_set, if_pos rfl], ho.keep fS fun i hi e => hnp i hi e, fun e he => ?_, hnp, fun e he => ?_⟩, ?_, hmem, ((F2.trans' G).mono fun _ _ e => e.elim).trans' fS, fun j hj => by have := hm j hj; omega⟩
    · exact fS.lt (G.lt (F2.lt hp))
    · rcases hmem e he with q | q
      · exact ((hs.rd e q).keep (F2.trans' G) fun _ _ => id).keep fS fun i hi => hs.wp e q i hi
      · rw [q]
        exact (hx'.keep (F2.trans' G) fun _ _ => id).keep fS fun i hi => hxp i hi
    · rcases hmem e he with q | q
      · exact hs.wp e q
      · rw [q]; exact hxp
    · rw [List.map_append, List.map_cons]
      exact hins
  refine stp ?_
  refine RunC.regionM ?_ (RunC.regionM ?_ (RunC.regionM ?_ RunC.regionM0))
  · refine stp ?_
    have G_0 : Fr (fun _ => False) h2 h2 := Fr.refl
    refine D.one ?_ ?_
    · repeat refine stab_cons inferInstance ?_
      rfl
    have G_1 : Fr (fun _ => False) h2 ((h2).push (.cells [] 0)) := G_0.push
    have N63 : h2.n ≤ (h2).n := G_0.n
    have o63 : Own ((h2).push (.cells [] 0)) 5 (.slice (some ⟨(h2).n, 0, none⟩) 0 0) [] 0 := .lit (by simp) (by rw [Heap.get_push, if_pos rfl])
    refine stp ?_
    have M63 : ∀ i, ownedBy (.slice (some ⟨(h2).n, 0, none⟩) 0 0) i → h2.n ≤ i := fun i hi => by
      have hi : (h2).n = i := hi
      omega
    refine D.appendC o63 ((r1.keep G_1 fun _ _ => id).new _) l1' z1 (by omega) (by omega) (by omega) (fun v70 h70 o70 f70 m70 => ?_)
    have G_2 : Fr (fun _ => False) h2 h70 := G_1.trans f70 fun i hi e => by have := M63 i e; omega
    have M70 : ∀ i, ownedBy v70 i → h2.n ≤ i := fun i hi => by
      have := G_1.n
      rcases m70 i hi with e | e
      · exact M63 i e
      · (try simp only [Heap.n_push] at e this)
        omega
    obtain ⟨i1, i2, i3, i4⟩ := keepP G_2
    refine ⟨?_, ?_⟩
    · repeat refine stab_cons inferInstance ?_
      rfl
    refine stp ?_
    refine D.one ?_ ?_
    · repeat refine stab_cons inferInstance ?_
      rfl
    have G_3 : Fr (fun _ => False) h2 ((h70).push (.cells (lcells x.id x.fr x.to x.due (.slice aw x.bs.length cw)) 0)) := G_2.push
    have l72 : Rd ((h70).push (.cells (lcells x.id x.fr x.to x.due (.slice aw x.bs.length cw)) 0)) 5 (.slice (some ⟨(h70).n, 0, none⟩) 1 1) (lcells x.id x.fr x.to x.due (.slice aw x.bs.length cw)) 1 := Rd.mk (size := 5) (n := 1) (cap := 1) (sp := none) (o := 0) (by simp) (by rw [cellsAt_of (c := (lcells x.id x.fr x.to x.due (.slice aw x.bs.length cw))) (by rw [Heap.get_push, if_pos rfl]; rfl) (by simp)]; rfl)
    have o70 := o70.keep (S := fun _ => False) (h' := (h70).push (.cells (lcells x.id x.fr x.to x.due (.slice aw x.bs.length cw)) 0)) Fr.refl.push fun _ _ => id
    refine stp ?_
    refine D.appendC o70 (l72.new _) rfl rfl (by omega) (by omega) (by omega) (fun v73 h73 o73 f73 m73 => ?_)
    have G_4 : Fr (fun _ => False) h2 h73 := G_3.trans f73 fun i hi e => by have := M70 i e; omega
    have M73 : ∀ i, ownedBy v73 i → h2.n ≤ i := fun i hi => by
      have := G_3.n
      rcases m73 i hi with e | e
      · exact M70 i e
      · (try simp only [Heap.n_push] at e this)
        omega
    obtain ⟨i1, i2, i3, i4⟩ := keepP G_4
    refine ⟨?_, ?_⟩
    · repeat refine stab_cons inferInstance ?_
      rfl
    refine stp ?_
    refine D.appendC o73 ((o2.keep G_4 fun _ _ => id).rd.new _) (by rw [List.nil_append, l2']; omega) (by rw [List.nil_append]; exact z2) (by omega) (by omega) (by omega) (fun v75 h75 o75 f75 m75 => ?_)
    have G_5 : Fr (fun _ => False) h2 h75 := G_4.trans f75 fun i hi e => by have := M73 i e; omega
    have M75 : ∀ i, ownedBy v75 i → h2.n ≤ i := fun i hi => by
      have := G_4.n
      rcases m75 i hi with e | e
      · exact M73 i e
      · (try simp only [Heap.n_push] at e this)
        omega
    obtain ⟨i1, i2, i3, i4⟩ := keepP G_5
    refine ⟨?_, ?_⟩
    · repeat refine stab_cons inferInstance ?_
      rfl
    obtain ⟨a9, c9, e9, _, _⟩ := id o75.rd
    subst e9
    refine stp ?_
    exact fin G_5 o75 M75
  · refine stp ?_
    have G_0 : Fr (fun _ => False) h2 h2 := Fr.refl
    refine D.one ?_ ?_
    · repeat refine stab_cons inferInstance ?_
      rfl
    have G_1 : Fr (fun _ => False) h2 ((h2).push (.cells [] 0)) := G_0.push
    have N63 : h2.n ≤ (h2).n := G_0.n
    have o63 : Own ((h2).push (.cells [] 0)) 5 (.slice (some ⟨(h2).n, 0, none⟩) 0 0) [] 0 := .lit (by simp) (by rw [Heap.get_push, if_pos rfl])
    refine stp ?_
    have M63 : ∀ i, ownedBy (.slice (some ⟨(h2).n, 0, none⟩) 0 0) i → h2.n ≤ i := fun i hi => by
      have hi : (h2).n = i := hi
      omega
    refine D.one ?_ ?_
    · repeat refine stab_cons inferInstance ?_
      rfl
    have G_2 : Fr (fun _ => False) h2 (((h2).push (.cells [] 0)).push (.cells (lcells x.id x.fr x.to x.due (.slice aw x.bs.length cw)) 0)) := G_1.push
    have l72 : Rd (((h2).push (.cells [] 0)).push (.cells (lcells x.id x.fr x.to x.due (.slice aw x.bs.length cw)) 0)) 5 (.slice (some ⟨((h2).push (.cells [] 0)).n, 0, none⟩) 1 1) (lcells x.id x.fr x.to x.due (.slice aw x.bs.length cw)) 1 := Rd.mk (size := 5) (n := 1) (cap := 1) (sp := none) (o := 0) (by simp) (by rw [cellsAt_of (c := (lcells x.id x.fr x.to x.due (.slice aw x.bs.length cw))) (by rw [Heap.get_push, if_pos rfl]; rfl) (by simp)]; rfl)
    have o63 := o63.keep (S := fun _ => False) (h' := ((h2).push (.cells [] 0)).push (.cells (lcells x.id x.fr x.to x.due (.slice aw x.bs.length cw)) 0)) Fr.refl.push fun _ _ => id
    refine stp ?_
    refine D.appendC o63 ((r1.keep G_2 fun _ _ => id).new _) l1' z1 (by omega) (by omega) (by omega) (fun v70 h70 o70 f70 m70 => ?_)
    have G_3 : Fr (fun _ => False) h2 h70 := G_2.trans f70 fun i hi e => by have := M63 i e; omega
    have M70 : ∀ i, ownedBy v70 i → h2.n ≤ i := fun i hi => by
      have := G_2.n
      rcases m70 i hi with e | e
      · exact M63 i e
      · (try simp only [Heap.n_push] at e this)
        omega
    have l72 := l72.keep f70 fun i hi e => by
      have e : _ = i := e
      have hi := hi.1
      simp only [Heap.n_push] at e hi
      omega
    obtain ⟨i1, i2, i3, i4⟩ := keepP G_3
    refine ⟨?_, ?_⟩
    · repeat refine stab_cons inferInstance ?_
      rfl
    refine stp ?_
    refine D.appendC o70 (l72.new _) rfl rfl (by omega) (by omega) (by omega) (fun v73 h73 o73 f73 m73 => ?_)
    have G_4 : Fr (fun _ => False) h2 h73 := G_3.trans f73 fun i hi e => by have := M70 i e; omega
    have M73 : ∀ i, ownedBy v73 i → h2.n ≤ i := fun i hi => by
      have := G_3.n
      rcases m73 i hi with e | e
      · exact M70 i e
      · (try simp only [Heap.n_push] at e this)
        omega
    obtain ⟨i1, i2, i3, i4⟩ := keepP G_4
    refine ⟨?_, ?_⟩
    · repeat refine stab_cons inferInstance ?_
      rfl
    refine stp ?_
    refine D.appendC o73 ((o2.keep G_4 fun _ _ => id).rd.new _) (by rw [List.nil_append, l2']; omega) (by rw [List.nil_append]; exact z2) (by omega) (by omega) (by omega) (fun v75 h75 o75 f75 m75 => ?_)
    have G_5 : Fr (fun _ => False) h2 h75 := G_4.trans f75 fun i hi e => by have := M73 i e; omega
    have M75 : ∀ i, ownedBy v75 i → h2.n ≤ i := fun i hi => by
      have := G_4.n
      rcases m75 i hi with e | e
      · exact M73 i e
      · (try simp only [Heap.n_push] at e this)
        omega
    obtain ⟨i1, i2, i3, i4⟩ := keepP G_5
    refine ⟨?_, ?_⟩
    · repeat refine stab_cons inferInstance ?_
      rfl
    obtain ⟨a9, c9, e9, _, _⟩ := id o75.rd
    subst e9
    refine stp ?_
    exact fin G_5 o75 M75
  · refine stp ?_
    have G_0 : Fr (fun _ => False) h2 h2 := Fr.refl
    refine D.one ?_ ?_
    · repeat refine stab_cons inferInstance ?_
      rfl
    have G_1 : Fr (fun _ => False) h2 ((h2).push (.cells (lcells x.id x.fr x.to x.due (.slice aw x.bs.length cw)) 0)) := G_0.push
    have l72 : Rd ((h2).push (.cells (lcells x.id x.fr x.to x.due (.slice aw x.bs.length cw)) 0)) 5 (.slice (some ⟨(h2).n, 0, none⟩) 1 1) (lcells x.id x.fr x.to x.due (.slice aw x.bs.length cw)) 1 := Rd.mk (size := 5) (n := 1) (cap := 1) (sp := none) (o := 0) (by simp) (by rw [cellsAt_of (c := (lcells x.id x.fr x.to x.due (.slice aw x.bs.length cw))) (by rw [Heap.get_push, if_pos rfl]; rfl) (by simp)]; rfl)
    refine stp ?_
    refine D.one ?_ ?_
    · repeat refine stab_cons inferInstance ?_
      rfl
    have G_2 : Fr (fun _ => False) h2 (((h2).push (.cells (lcells x.id x.fr x.to x.due (.slice aw x.bs.length cw)) 0)).push (.cells [] 0)) := G_1.push
    have N63 : h2.n ≤ ((h2).push (.cells (lcells x.id x.fr x.to x.due (.slice aw x.bs.length cw)) 0)).n := G_1.n
    have o63 : Own (((h2).push (.cells (lcells x.id x.fr x.to x.due (.slice aw x.bs.length cw)) 0)).push (.cells [] 0)) 5 (.slice (some ⟨((h2).push (.cells (lcells x.id x.fr x.to x.due (.slice aw x.bs.length cw)) 0)).n, 0, none⟩) 0 0) [] 0 := .lit (by simp) (by rw [Heap.get_push, if_pos rfl])
    have l72 := l72.keep (S := fun _ => False) (h' := ((h2).push (.cells (lcells x.id x.fr x.to x.due (.slice aw x.bs.length cw)) 0)).push (.cells [] 0)) Fr.refl.push fun _ _ => id
    refine stp ?_
    have M63 : ∀ i, ownedBy (.slice (some ⟨((h2).push (.cells (lcells x.id x.fr x.to x.due (.slice aw x.bs.length cw)) 0)).n, 0, none⟩) 0 0) i → h2.n ≤ i := fun i hi => by
      have hi : ((h2).push (.cells (lcells x.id x.fr x.to x.due (.slice aw x.bs.length cw)) 0)).n = i := hi
      omega
    refine D.appendC o63 ((r1.keep G_2 fun _ _ => id).new _) l1' z1 (by omega) (by omega) (by omega) (fun v70 h70 o70 f70 m70 => ?_)
    have G_3 : Fr (fun _ => False) h2 h70 := G_2.trans f70 fun i hi e => by have := M63 i e; omega
    have M70 : ∀ i, ownedBy v70 i → h2.n ≤ i := fun i hi => by
      have := G_2.n
      rcases m70 i hi with e | e
      · exact M63 i e
      · (try simp only [Heap.n_push] at e this)
        omega
    have l72 := l72.keep f70 fun i hi e => by
      have e : _ = i := e
      have hi := hi.1
      simp only [Heap.n_push] at e hi
      omega
    obtain ⟨i1, i2, i3, i4⟩ := keepP G_3
    refine ⟨?_, ?_⟩
    · repeat refine stab_cons inferInstance ?_
      rfl
    refine stp ?_
    refine D.appendC o70 (l72.new _) rfl rfl (by omega) (by omega) (by omega) (fun v73 h73 o73 f73 m73 => ?_)
    have G_4 : Fr (fun _ => False) h2 h73 := G_3.trans f73 fun i hi e => by have := M70 i e; omega
    have M73 : ∀ i, ownedBy v73 i → h2.n ≤ i := fun i hi => by
      have := G_3.n
      rcases m73 i hi with e | e
      · exact M70 i e
      · (try simp only [Heap.n_push] at e this)
        omega
    obtain ⟨i1, i2, i3, i4⟩ := keepP G_4
    refine ⟨?_, ?_⟩
    · repeat refine stab_cons inferInstance ?_
      rfl
    refine stp ?_
    refine D.appendC o73 ((o2.keep G_4 fun _ _ => id).rd.new _) (by rw [List.nil_append, l2']; omega) (by rw [List.nil_append]; exact z2) (by omega) (by omega) (by omega) (fun v75 h75 o75 f75 m75 => ?_)
    have G_5 : Fr (fun _ => False) h2 h75 := G_4.trans f75 fun i hi e => by have := M73 i e; omega
    have M75 : ∀ i, ownedBy v75 i → h2.n ≤ i := fun i hi => by
      have := G_4.n
      rcases m75 i hi with e | e
      · exact M73 i e
      · (try simp only [Heap.n_push] at e this)
        omega
    obtain ⟨i1, i2, i3, i4⟩ := keepP G_5
    refine ⟨?_, ?_⟩
    · repeat refine stab_cons inferInstance ?_
      rfl
    obtain ⟨a9, c9, e9, _, _⟩ := id o75.rd
    subst e9
    refine stp ?_
    exact fin G_5 o75 M75
end
end Go.Proofs.Ytoadcfjkkoemdaa.A

namespace Go.Proofs.Ytoadcfjkkoemdaa.A
open Go Go.Vm
set_option maxRecDepth 10000
set_option linter.unusedVariables false
structure DV (h : Heap) (p : Nat) (most : Int) (s : MS) (Dp : Nat → Prop) : Prop where
  kp : ∃ u Ls, DMt h p most s.last s.lost u Ls ∧ Ls.map LE.tr = s.L ∧ ∀ i, Dp i ↔ DOw p u Ls i
  iv : MOK most s
def DAfter (h : Heap) (p : Nat) (most : Int) (Dp : Nat → Prop) (s' : MS) (h' : Heap) : Prop := ∃ D' : Nat → Prop, DV h' p most s' D' ∧ (∀ i, D' i → Dp i ∨ h.n ≤ i) ∧ Fr (fun i => i = p) h h'
theorem less_at {L : List LT} {i : Nat} {k : Int} (hn : (L.map LT.id).Nodup) (hi : i < L.length) (hk : L[i].id = k) : L.take i ++ L.drop (i + 1) = lessT k L := by
  have ne : ∀ j (hj : j < L.length), j ≠ i → L[j].id ≠ k := fun j hj hji e => by
    have h0 := List.pairwise_iff_getElem.1 hn
    rcases Nat.lt_or_gt_of_ne hji with q | q
    · exact h0 j i (by simpa using hj) (by simpa using hi) q (by rw [List.getElem_map, List.getElem_map, e, hk])
    · exact h0 i j (by simpa using hi) (by simpa using hj) q (by rw [List.getElem_map, List.getElem_map, e, hk])
  have e : L = L.take i ++ L[i] :: L.drop (i + 1) := by rw [List.getElem_cons_drop, List.take_append_drop]
  unfold lessT
  conv => rhs; rw [e]
  rw [List.filter_append, List.filter_cons_of_neg (by simpa using hk), List.filter_eq_self.2 (fun y hy => ?_), List.filter_eq_self.2 (fun y hy => ?_)]
  · obtain ⟨j, hj, rfl⟩ := List.mem_iff_getElem.1 hy
    rw [List.length_drop] at hj
    rw [List.getElem_drop]
    simpa using ne (i + 1 + j) (by omega) (by omega)
  · obtain ⟨j, hj, rfl⟩ := List.mem_iff_getElem.1 hy
    rw [List.length_take] at hj
    rw [List.getElem_take]
    simpa using ne j (by omega) (by omega)
theorem dl_find {Ls : List LE} {L : List LT} {i : Nat} {k : Int} (ho : Ls.map LE.tr = L) (hn : (L.map LT.id).Nodup) (hi : i < Ls.length) (hk : (at' Ls i).id = k) : findT k L = some (at' Ls i).tr := by
  subst ho
  exact find_of hn (List.mem_map.2 ⟨_, at_mem hi, rfl⟩) hk
theorem dl_none {Ls : List LE} {L : List LT} {k : Int} (ho : Ls.map LE.tr = L) (hno : ∀ e ∈ Ls, e.id ≠ k) : findT k L = none := by
  subst ho
  unfold findT
  rw [List.find?_eq_none]
  intro y hy
  obtain ⟨e, he, rfl⟩ := List.mem_map.1 hy
  have h1 := hno e he
  show ¬ (decide (e.id = k)) = true
  simpa using h1
theorem dl_less {Ls : List LE} {L : List LT} {i : Nat} {k : Int} (ho : Ls.map LE.tr = L) (hn : (L.map LT.id).Nodup) (hi : i < Ls.length) (hk : (at' Ls i).id = k) : (Ls.take i ++ Ls.drop (i + 1)).map LE.tr = lessT k L := by
  subst ho
  rw [List.map_append, List.map_take, List.map_drop]
  refine less_at hn (by rw [List.length_map]; exact hi) ?_
  rw [List.getElem_map, show Ls[i] = at' Ls i from by simp [at', List.getD, hi]]
  exact hk
section
variable {h h' : Heap} {p : Nat} {most : Int} {s : MS} {Dp : Nat → Prop}
theorem DV.keep {T : Nat → Prop} (hv : DV h p most s Dp) (hf : Fr T h h') (hn : ∀ i, Dp i → ¬ T i) : DV h' p most s Dp := by
  obtain ⟨u, Ls, h1, h2, h3⟩ := hv.kp
  exact ⟨⟨u, Ls, h1.keep hf fun i hi => hn i ((h3 i).2 hi), h2, h3⟩, hv.iv⟩
theorem DV.lt (hv : DV h p most s Dp) {i : Nat} (hi : Dp i) : i < h.n := by
  obtain ⟨u, Ls, h1, h2, h3⟩ := hv.kp
  exact h1.lt ((h3 i).1 hi)
theorem DV.hasP (hv : DV h p most s Dp) : Dp p := by
  obtain ⟨u, Ls, h1, h2, h3⟩ := hv.kp
  exact (h3 p).2 (.inl rfl)
theorem DV.len (hv : DV h p most s Dp) (hm : most ≤ 4096) : s.L.length ≤ 4096 := by have := hv.iv.le; omega
theorem DAfter.same (hv : DV h p most s Dp) (hf : Fr (fun _ => False) h h') : DAfter h p most Dp s h' := ⟨Dp, hv.keep hf fun _ _ => id, fun i hi => .inl hi, hf.mono fun _ _ e => e.elim⟩
theorem dafter_of {u u' : Value} {Ls O' : List LE} {s' : MS} (hD : ∀ i, Dp i ↔ DOw p u Ls i) (hs' : DMt h' p most s'.last s'.lost u' O') (ho' : O'.map LE.tr = s'.L) (iv' : MOK most s') (hu : ∀ i, ownedBy u' i → Dp i ∨ h.n ≤ i) (hl : ∀ e ∈ O', ∀ i, blockOf e.w i → (∃ e0 ∈ Ls, blockOf e0.w i) ∨ h.n ≤ i) (hf : Fr (fun i => i = p) h h') : DAfter h p most Dp s' h' :=
  ⟨DOw p u' O', ⟨⟨u', O', hs', ho', fun _ => Iff.rfl⟩, iv'⟩, fun i hi => by
    rcases hi with hi | hi | ⟨e, he, hi⟩
    · exact .inl ((hD i).2 (.inl hi))
    · exact hu i hi
    · rcases hl e he i hi with q | q
      · exact .inl ((hD i).2 (.inr (.inr q)))
      · exact .inr q, hf⟩
theorem DAfter.trans {s'' : MS} {D' : Nat → Prop} {h'' : Heap} (hm : ∀ i, D' i → Dp i ∨ h.n ≤ i) (hf : Fr (fun i => i = p) h h') (h2 : DAfter h' p most D' s'' h'') : DAfter h p most Dp s'' h'' := by
  obtain ⟨D2, k1, k2, k3⟩ := h2
  have := hf.n
  exact ⟨D2, k1, fun i hi => (k2 i hi).elim (hm i) fun q => .inr (by omega), hf.trans' k3⟩
theorem DNew_ok {most : Int} : Runs Try.prog T0 (.fn fn_zbbQ) [.int .i64 most] h
    (fun r h' => Fr (fun _ => False) h h' ∧ ((most < 1 ∨ 4096 < most) ∧ r = .tuple ⟨[.pointer none, .int .i64 3]⟩ ∨ (1 ≤ most ∧ most ≤ 4096) ∧ ∃ p Dp, r = .tuple ⟨[.pointer (some ⟨p, 0, none⟩), .int .i64 0]⟩ ∧ DV h' p most ⟨0, 0, []⟩ Dp ∧ ∀ i, Dp i → h.n ≤ i)) (fun _ _ => False) := by
  refine zbbQ_runs ?_
  refine stp ?_
  refine O.dec (fun h1 => ?_) (fun h1 => ?_)
  · refine stp ?_
    exact ⟨Fr.refl, .inl ⟨.inl h1, rfl⟩⟩
  · refine stp ?_
    refine C.if (fun h2 => ?_) (fun h2 => ?_)
    · refine stp ?_
      exact ⟨Fr.refl, .inl ⟨.inr h2, rfl⟩⟩
    · refine stp ?_
      refine ⟨Fr.refl.push, .inr ⟨⟨by omega, by omega⟩, _, DOw h.n (.slice none 0 0) [], rfl, ⟨⟨.slice none 0 0, [], ⟨by simp, HGet.new.eq, .none, by simp, fun i hi => hi.elim, by simp⟩, rfl, fun _ => Iff.rfl⟩, ⟨List.Pairwise.nil, by simp, by simp, by simp; omega, by simp, by simp, by simp⟩⟩, fun i hi => ?_⟩⟩
      rcases hi with q | q | ⟨_, q, _⟩
      · omega
      · exact q.elim
      · exact absurd q (by simp)
set_option maxHeartbeats 8000000 in
theorem DLose_ok {k : Int} (hv : DV h p most s Dp) (hm : most ≤ 4096) (hk0 : s.lost < 1000000) :
    Runs Try.prog T0 (.fn fn_zuQ) [.pointer (some ⟨p, 0, none⟩), .int .i64 k] h (fun r h' => r = .int .i64 (loseS s k).2 ∧ DAfter h p most Dp (loseS s k).1 h') (fun _ _ => False) := by
  obtain ⟨u, Ls, hs, ho, hD⟩ := hv.kp
  have hlen := hv.len hm
  have hOl : Ls.length = s.L.length := by rw [← ho, List.length_map]
  have hl0 := hv.iv.k0
  refine zuQ_runs ?_
  refine stp ?_
  refine O.call' (dat_ok hs (k := k) (by omega)) (fun r h1 hr => ?_)
  unfold loseS
  obtain ⟨rfl, ⟨i, hi, rfl, hk⟩ | ⟨rfl, hno⟩⟩ := hr
  · haveI q1 : ∀ {ts : List Value} {h : Heap} {Q : Oper} {x z : Operand} [Ev ts x (.int .i64 (i : Nat))] [Ev ts z (.int .i64 0)], XOp Try.prog ts h (.bin .lss Q x z) (.bool false) h := xlss0 (by omega)
    rw [dl_find ho hv.iv.nd hi hk]
    simp only [Option.isSome_some, if_true]
    refine stp ?_
    refine O.call' (dtake_ok hs (by omega) hi) (fun r h2 hr => ?_)
    obtain ⟨rfl, u', hs2, f2, hu'⟩ := hr
    haveI : HGet h2 p _ := ⟨hs2.gp⟩
    refine stp ?_
    have f3 : Fr (fun i => i = p) h2 (h2.set p (.cells (rcells most s.last (s.lost + 1) u') 0)) := Fr.refl.set fun _ => rfl
    refine ⟨rfl, dafter_of hD (u' := u') (O' := Ls.take i ++ Ls.drop (i + 1)) ⟨f3.lt hs2.pl, by rw [Heap.get_set, if_pos rfl], hs2.ou.keep f3 hs2.up, fun e he => (hs2.rd e he).keep f3 (hs2.wp e he), hs2.up, hs2.wp⟩ (dl_less ho hv.iv.nd hi hk) (hv.iv.less _ _ (by omega)) (fun j hj => .inr (hu' j hj)) (fun e he j hj => ?_) (f2.trans' f3)⟩
    exact .inl ⟨e, (List.mem_append.1 he).elim List.mem_of_mem_take List.mem_of_mem_drop, hj⟩
  · haveI q1 : ∀ {ts : List Value} {h : Heap} {Q : Oper} {x z : Operand} [Ev ts x (.int .i64 (-1))] [Ev ts z (.int .i64 0)], XOp Try.prog ts h (.bin .lss Q x z) (.bool true) h := xlss1 (by omega)
    rw [dl_none ho hno]
    refine stp ?_
    exact ⟨rfl, DAfter.same hv Fr.refl⟩
set_option maxHeartbeats 8000000 in
theorem DDelay_ok {k d : Int} (hv : DV h p most s Dp) (hm : most ≤ 4096) :
    Runs Try.prog T0 (.fn fn_ztQ) [.pointer (some ⟨p, 0, none⟩), .int .i64 k, .int .i64 d] h (fun r h' => r = .int .i64 (delayS s k d).2 ∧ DAfter h p most Dp (delayS s k d).1 h') (fun _ _ => False) := by
  obtain ⟨u, Ls, hs, ho, hD⟩ := hv.kp
  have hlen := hv.len hm
  have hOl : Ls.length = s.L.length := by rw [← ho, List.length_map]
  refine ztQ_runs ?_
  refine stp ?_
  refine O.call' (dat_ok hs (k := k) (by omega)) (fun r h1 hr => ?_)
  unfold delayS
  obtain ⟨rfl, ⟨i, hi, rfl, hk⟩ | ⟨rfl, hno⟩⟩ := hr
  · haveI q1 : ∀ {ts : List Value} {h : Heap} {Q : Oper} {x z : Operand} [Ev ts x (.int .i64 (i : Nat))] [Ev ts z (.int .i64 0)], XOp Try.prog ts h (.bin .lss Q x z) (.bool false) h := xlss0 (by omega)
    rw [dl_find ho hv.iv.nd hi hk]
    simp only [Option.isSome_some, if_true]
    refine stp ?_
    refine O.call' dwithin_ok (fun r h1 hr => ?_)
    obtain ⟨rfl, rfl⟩ := hr
    cases hd : isDue d with
    | false =>
      simp only [Bool.false_eq_true, if_false]
      refine stp ?_
      exact ⟨rfl, DAfter.same hv Fr.refl⟩
    | true =>
    simp only [if_true]
    refine stp ?_
    refine O.call' (dtake_ok hs (by omega) hi) (fun r h2 hr => ?_)
    obtain ⟨rfl, u', hs2, f2, hu'⟩ := hr
    have hem := at_mem hi
    have hmove : moveT k d s.L = insT { (at' Ls i).tr with due := d } (lessT k s.L) := by
      unfold moveT
      rw [dl_find ho hv.iv.nd hi hk]
    have hless := dl_less ho hv.iv.nd hi hk
    generalize at' Ls i = e at *
    have hrd := (hs.rd e hem).keep f2 (hs.wp e hem)
    have hwp := hs.wp e hem
    obtain ⟨eb, et, i', fr, to, d', bs, w⟩ := e
    have hrd : Rd h2 1 w (bcells bs) bs.length := hrd
    obtain ⟨aw, cw, ew, _, _⟩ := id hrd
    subst ew
    refine stp ?_
    have F3 : Fr (fun _ => False) h2 (h2.push (.cells (lcells i' fr to d (.slice aw bs.length cw)) 0)) := Fr.refl.push
    have n3 : (h2.push (.cells (lcells i' fr to d (.slice aw bs.length cw)) 0)).n = h2.n + 1 := rfl
    generalize h2.push (.cells (lcells i' fr to d (.slice aw bs.length cw)) 0) = h3 at *
    have hs3 := hs2.keep F3 fun _ _ => id
    refine O.call' (dlay_ok (x := ⟨eb, et, i', fr, to, d, bs, .slice aw bs.length cw⟩) hs3 (by rw [List.length_append, List.length_take, List.length_drop]; omega) (by rw [hless]; exact hv.iv.so.filter _) (hrd.keep F3 fun _ _ => id) hwp) (fun r h4 hr => ?_)
    obtain ⟨u4, O4, hs4, ho4, hin, f4, hu4⟩ := hr
    refine stp ?_
    have n2 := f2.n
    refine ⟨rfl, dafter_of hD hs4 ?_ (hv.iv.move k d (isDue_iff.1 hd)) (fun j hj => by have := hu4 j hj; exact .inr (by omega)) (fun e he j hj => ?_) ((f2.trans' (F3.mono fun _ _ q => q.elim)).trans' f4)⟩
    · rw [ho4, hless]
      exact hmove.symm
    · rcases hin e he with q | q
      · exact .inl ⟨e, (List.mem_append.1 q).elim List.mem_of_mem_take List.mem_of_mem_drop, hj⟩
      · rw [q] at hj
        exact .inl ⟨_, hem, hj⟩
  · haveI q1 : ∀ {ts : List Value} {h : Heap} {Q : Oper} {x z : Operand} [Ev ts x (.int .i64 (-1))] [Ev ts z (.int .i64 0)], XOp Try.prog ts h (.bin .lss Q x z) (.bool true) h := xlss1 (by omega)
    rw [dl_none ho hno]
    refine stp ?_
    exact ⟨rfl, DAfter.same hv Fr.refl⟩
theorem find_move {k j d : Int} {L : List LT} (hn : (L.map LT.id).Nodup) (hf : (findT k L).isSome = true) : (findT k (moveT j d L)).isSome = true := by
  obtain ⟨x, hx⟩ := Option.isSome_iff_exists.1 hf
  obtain ⟨h1, h2⟩ := find_some hx
  have h3 : k ∈ (moveT j d L).map LT.id := ((move_perm (k := j) (d := d) hn).map LT.id).mem_iff.2 (by rw [due_ids]; exact List.mem_map.2 ⟨x, h1, h2⟩)
  obtain ⟨y, hy, e⟩ := List.mem_map.1 h3
  have : (findT k (moveT j d L)) ≠ none := fun q => find_none q y hy e
  exact Option.isSome_iff_ne_none.2 this
theorem swap_delay {a b : Int} {x y : LT} (hv : MOK most s) (ha : findT a s.L = some x) (hb : findT b s.L = some y) : delayS s a y.due = (⟨s.last, s.lost, moveT a y.due s.L⟩, 0) ∧ (delayS ⟨s.last, s.lost, moveT a y.due s.L⟩ b x.due).1 = (swapS s a b).1 ∧ (swapS s a b).2 = 0 := by
  have h1 := (hv.rg x (find_some ha).1).2.2.1
  have h2 := (hv.rg y (find_some hb).1).2.2.1
  refine ⟨?_, ?_, ?_⟩
  · unfold delayS
    rw [ha, if_pos (show (some x).isSome = true from rfl), if_pos (isDue_iff.2 h2)]
  · unfold delayS swapS
    rw [ha, hb, if_pos (find_move hv.nd (by rw [hb]; rfl)), if_pos (isDue_iff.2 h1)]
  · unfold swapS
    rw [ha, hb]
set_option maxHeartbeats 8000000 in
theorem DSwap_ok {a b : Int} (hv : DV h p most s Dp) (hm : most ≤ 4096) :
    Runs Try.prog T0 (.fn fn_zwQ) [.pointer (some ⟨p, 0, none⟩), .int .i64 a, .int .i64 b] h (fun r h' => r = .int .i64 (swapS s a b).2 ∧ DAfter h p most Dp (swapS s a b).1 h') (fun _ _ => False) := by
  obtain ⟨u, Ls, hs, ho, hD⟩ := hv.kp
  have hlen := hv.len hm
  have hOl : Ls.length = s.L.length := by rw [← ho, List.length_map]
  refine zwQ_runs ?_
  refine stp ?_
  refine O.call' (dat_ok hs (k := a) (by omega)) (fun r h1 hr => ?_)
  haveI q0 : ∀ {ts : List Value} {h : Heap} {Q : Oper} {x z : Operand} [Ev ts x (.int .i64 (-1))] [Ev ts z (.int .i64 0)], XOp Try.prog ts h (.bin .lss Q x z) (.bool true) h := xlss1 (by omega)
  haveI q1 : ∀ {ts : List Value} {h : Heap} {Q : Oper} {x z : Operand} {i : Nat} [Ev ts x (.int .i64 (i : Nat))] [Ev ts z (.int .i64 0)], XOp Try.prog ts h (.bin .lss Q x z) (.bool false) h := xlss0 (by omega)
  obtain ⟨rfl, hra⟩ := hr
  rcases hra with ⟨i, hi, rfl, ha⟩ | ⟨rfl, hno⟩
  · refine stp ?_
    refine O.call' (dat_ok hs (k := b) (by omega)) (fun r h1 hr => ?_)
    obtain ⟨rfl, hrb⟩ := hr
    have fa := dl_find ho hv.iv.nd hi ha
    rcases hrb with ⟨j, hj, rfl, hb⟩ | ⟨rfl, hno⟩
    · have fb := dl_find ho hv.iv.nd hj hb
      have hsd := swap_delay hv.iv fa fb
      obtain ⟨aq, cq, rfl, _, hc⟩ := id hs.ou.rd
      obtain ⟨q, o, sp, rfl, hq, hcc⟩ := hc (by omega)
      haveI := let_cell (v := .int .i64 (at' Ls i).due) hcc rfl hi (show 3 < 5 by omega) rfl
      haveI := let_cell (v := .int .i64 (at' Ls j).due) hcc rfl hj (show 3 < 5 by omega) rfl
      haveI : HGet h1 p _ := ⟨hs.gp⟩
      refine stp ?_
      refine O.call' (DDelay_ok hv hm) (fun r h2 hr => ?_)
      obtain ⟨rfl, D2, hv2, hm2, f2⟩ := hr
      have e1 : (delayS s a (at' Ls j).due).1 = ⟨s.last, s.lost, moveT a (at' Ls j).tr.due s.L⟩ := congrArg Prod.fst hsd.1
      rw [e1] at hv2
      refine stp ?_
      refine O.call' (DDelay_ok hv2 hm) (fun r h3 hr => ?_)
      obtain ⟨rfl, ha3⟩ := hr
      refine stp ?_
      refine ⟨by rw [hsd.2.2], ?_⟩
      rw [← hsd.2.1]
      exact DAfter.trans hm2 f2 ha3
    · have fb := dl_none ho hno
      unfold swapS
      rw [fa, fb]
      refine stp ?_
      exact ⟨rfl, DAfter.same hv Fr.refl⟩
  · have fa := dl_none ho hno
    refine stp ?_
    refine O.call' (dat_ok hs (k := b) (by omega)) (fun r h1 hr => ?_)
    obtain ⟨rfl, hrb⟩ := hr
    unfold swapS
    rw [fa]
    rcases hrb with ⟨j, hj, rfl, hb⟩ | ⟨rfl, hno⟩
    · refine stp ?_
      exact ⟨rfl, DAfter.same hv Fr.refl⟩
    · refine stp ?_
      exact ⟨rfl, DAfter.same hv Fr.refl⟩
end
end Go.Proofs.Ytoadcfjkkoemdaa.A
