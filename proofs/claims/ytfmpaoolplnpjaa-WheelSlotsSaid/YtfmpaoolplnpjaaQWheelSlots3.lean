/- Contracts of functions, over the machine. -/
import Derived.Test.YtfmpaoolplnpjaaQWheelSlots2
import Derived.Test.YtfmpaoolplnpjaaVK
set_option linter.unusedSimpArgs false
set_option linter.unusedSectionVars false
noncomputable section
namespace Go.Proofs.Ytfmpaoolplnpjaa.A
open Go Go.Vm
set_option maxRecDepth 10000
set_option linter.unusedVariables false
theorem Values_ok {h : Heap} {u : Value} [CellsOf u [u]] : Runs Try.prog T0 (.fn fn_zyQ) [u] h (fun r h' => r = .func (.func fn_zzQ) ⟨[]⟩ ⟨[.pointer (some ⟨h.n, 0, none⟩)]⟩ ∧ h'.n = h.n + 1 ∧ h'.get h.n = .cells [u] 0 ∧ Fr (fun _ => False) h h') (fun _ _ => False) := by
  refine zyQ_runs ?_
  refine stp ?_
  exact ⟨rfl, rfl, HGet.new.eq, Fr.refl.push⟩
set_option maxHeartbeats 4000000 in
theorem vals64_ok {h : Heap} {bx y : Nat} {u : Value} {L : List Nat} {I : Nat → Heap → Prop} (hbx : h.get bx = .cells [u] 0) (hrd : ∀ k hx, I k hx → Rd hx 1 u (pcells L) L.length) (hl : L.length < 100000) (h0 : I 0 h)
    (hr : ∀ k hx, k < L.length → I k hx → Runs Try.prog T0 (.yield y) [.pointer (some ⟨L.getD k 0, 0, none⟩)] hx (fun r h' => r = .bool true ∧ I (k + 1) h') (fun _ _ => False)) :
    Runs Try.prog T0 (.fn fn_zzQ) [.func (.yield y) ⟨[]⟩ ⟨[]⟩, .pointer (some ⟨bx, 0, none⟩)] h (fun _ h' => I L.length h') (fun _ _ => False) := by
  haveI : HGet h bx _ := ⟨hbx⟩
  obtain ⟨a, cap, rfl, _, _⟩ := id (hrd 0 h h0)
  refine zzQ_runs ?_
  refine stp ?_
  refine loop1 zzQ_l0_M 7 (fun q v7 hx => ∃ k : Nat, k ≤ L.length ∧ q = L.length - k ∧ v7 = .int .i64 k ∧ I k hx) ?_ L.length ⟨0, by omega, rfl, rfl, h0⟩
  rintro m v7 h' x4 x8 x9 x10 x11 x12 x13 x14 x15 ⟨k, hk, rfl, rfl, hi⟩
  refine stp ?_
  refine C.if (fun hlt => ?_) (fun hge => ?_)
  · have hlt : k < L.length := by omega
    obtain ⟨_, _, e1, _, hcx⟩ := id (hrd k _ hi)
    obtain ⟨b, o, sp, e2, hb, hcc⟩ := hcx (by omega)
    injection e1 with e1 _ _
    rw [e2] at e1
    subst e1
    haveI := pcell_at hcc rfl hlt
    refine stp ?_
    refine O.yield (hr k _ hlt hi) (fun r h3 hr => ?_)
    obtain ⟨rfl, hi3⟩ := hr
    refine stp ?_
    exact loop1a 7 (L.length - (k + 1)) (by omega) ⟨k + 1, by omega, rfl, rfl, hi3⟩
  · obtain rfl : k = L.length := by omega
    refine stp ?_
    exact hi
set_option maxHeartbeats 4000000 in
theorem aq_round {h : Heap} {lp p2 b : Nat} {v : Value} {L : List Nat} {f0 f1 f3 f4 f5 f6 f7 f8 f9 f10 f11 f12 : Value} (hlp : h.get lp = .loop .ready none [f0, f1, .pointer (some ⟨p2, 0, none⟩), f3, f4, f5, f6, f7, f8, f9, f10, f11, f12] [7] ztQ_ra0 ztQ_rb0)
    (h2 : h.get p2 = .cells [v] 0) (ho : Own h 1 v (pcells L) L.length) (hL : L.length < 100000) (hv : ∀ i, ownedBy v i → i ≠ lp ∧ i ≠ p2) (ll : lp < h.n) (m2 : p2 < h.n) (n2 : p2 ≠ lp) :
    Runs Try.prog T0 (.yield lp) [.pointer (some ⟨b, 0, none⟩)] h (fun r g => r = .bool true ∧ g.get lp = .loop .ready none [f0, f1, .pointer (some ⟨p2, 0, none⟩), f3, f4, f5, f6, f7, f8, f9, f10, f11, f12] [7] ztQ_ra0 ztQ_rb0 ∧
      (∃ v', g.get p2 = .cells [v'] 0 ∧ Own g 1 v' (pcells (L ++ [b])) (L ++ [b]).length ∧ (∀ i, ownedBy v' i → ownedBy v i ∨ h.n ≤ i)) ∧ Fr (fun i => i = lp ∨ i = p2 ∨ ownedBy v i) h g) (fun _ _ => False) := by
  haveI : HGet h lp _ := ⟨hlp⟩
  haveI : HGet h p2 _ := ⟨h2⟩
  haveI : BLt lp h := ⟨ll⟩
  haveI : BLt p2 h := ⟨m2⟩
  haveI : BNe p2 lp := ⟨n2⟩
  haveI : BNe lp p2 := ⟨fun e => n2 e.symm⟩
  refine Runs.round hlp put_one rfl ztQ_na0 ztQ_nb0 ztQ_ca0 ztQ_cb0 ?_
  refine stp ?_
  refine A.go ?_
  refine stp ?_
  have hL1 : (L ++ [b]).length = L.length + 1 := by simp
  refine O.append ((ho.keep (Fr.refl.set (S := fun i => i = lp) fun _ => rfl) fun b hb e => (hv b hb).1 e).keep (S := fun _ => False) Fr.refl.push fun _ _ => id) one_ptr rfl rfl (by omega) (by omega) (by omega) (fun v6 h6 ho6 hf6 hn6 => ?_)
  have q6 := hf6.n
  simp only [Heap.n_set, Heap.n_push] at q6 hn6
  haveI := hf6.keep (b := lp) inferInstance (by simp; omega) (fun e => (hv lp e).1 rfl)
  haveI := hf6.keep (b := p2) (o := .cells [v] 0) inferInstance (by simp; omega) (fun e => (hv p2 e).2 rfl)
  haveI : BLt lp h6 := ⟨by omega⟩
  haveI : BLt p2 h6 := ⟨by omega⟩
  have F6 : Fr (fun i => i = lp ∨ ownedBy v i) h h6 := ((Fr.refl.set (S := fun i => i = lp ∨ ownedBy v i) fun _ => .inl rfl).push).trans' (hf6.mono fun _ _ e => .inr e)
  obtain ⟨a6, c6, rfl, _, _⟩ := id ho6.rd
  refine stp ?_
  refine A.on ?_
  have fS : ∀ {A B : AObj}, Fr (fun i => i = p2 ∨ i = lp) h6 ((h6.set p2 A).set lp B) := fun {A B} => (Fr.refl.set fun _ => .inl rfl).set fun _ => .inr rfl
  refine ⟨rfl, by rw [Heap.get_set, if_pos rfl], ⟨_, by rw [Heap.get_set, if_neg n2, Heap.get_set, if_pos rfl], ?_, fun i hi => ?_⟩, (F6.mono fun _ _ e => e.elim .inl fun e => .inr (.inr e)).trans' (fS.mono fun _ _ e => e.elim (fun e => .inr (.inl e)) .inl)⟩
  · rw [pcells_append, hL1]
    exact ho6.keep fS fun b hb e => by
      rcases hn6 b hb with h7 | h7
      · have := hv b h7; omega
      · omega
  · rcases hn6 i hi with h7 | h7
    · exact .inl h7
    · exact .inr (by omega)
noncomputable abbrev qrec (bx p2 : Nat) : AObj := .loop .ready none [.slice none 0 0, .func (.func fn_zzQ) ⟨[]⟩ ⟨[.pointer (some ⟨bx, 0, none⟩)]⟩, .pointer (some ⟨p2, 0, none⟩), undef, .slice none 0 0, undef, .func (.func fn_zzQ) ⟨[]⟩ ⟨[.pointer (some ⟨bx, 0, none⟩)]⟩, undef, undef, undef, undef, undef, undef] [7] ztQ_ra0 ztQ_rb0
set_option maxHeartbeats 8000000 in
theorem AppendSeq_ok {h : Heap} {bx : Nat} {u : Value} {L : List Nat} (hbx : h.get bx = .cells [u] 0) (hb : bx < h.n) (hu : Rd h 1 u (pcells L) L.length) (hlen : L.length < 100000) :
    Runs Try.prog T0 (.fn fn_ztQ) [.slice none 0 0, .func (.func fn_zzQ) ⟨[]⟩ ⟨[.pointer (some ⟨bx, 0, none⟩)]⟩] h
      (fun r h' => Own h' 1 r (pcells L) L.length ∧ (∀ i, ownedBy r i → h.n ≤ i) ∧ Fr (fun _ => False) h h') (fun _ _ => False) := by
  refine ztQ_runs ?_
  refine stp ?_
  have F0 : Fr (fun _ => False) h (h.push (.cells [.slice none 0 0] 0)) := Fr.refl.push
  have n0 : (h.push (.cells [.slice none 0 0] 0)).n = h.n + 1 := rfl
  have g2 : (h.push (.cells [.slice none 0 0] 0)).get h.n = .cells [.slice none 0 0] 0 := by rw [Heap.get_push, if_pos rfl]
  generalize h.push (.cells [.slice none 0 0] 0) = ha at *
  have FL : Fr (fun _ => False) ha ((ha.push (.defs false)).push (qrec bx h.n)) := Fr.refl.push.push
  have F1 := F0.trans' FL
  have nl : ((ha.push (.defs false)).push (qrec bx h.n)).n = ha.n + 2 := rfl
  have hd : (ha.push (.defs false)).n = ha.n + 1 := rfl
  have gq : ((ha.push (.defs false)).push (qrec bx h.n)).get (ha.n + 1) = qrec bx h.n := HGet.new.eq
  have FQ : Fr (fun i => i = ha.n + 1 ∨ i = h.n) (ha.push (.defs false)) ((ha.push (.defs false)).push (qrec bx h.n)) := Fr.refl.push
  have tk : ∀ k, k < L.length → L.take (k + 1) = L.take k ++ [L.getD k 0] := fun k hk => by
    have g : L.getD k 0 = L[k] := by simp [List.getD, hk]
    rw [List.take_succ_eq_append_getElem hk, g]
  refine range_on (J := fun hx => (∃ (v : Value), hx.get h.n = .cells [v] 0 ∧ Own hx 1 v (pcells L) L.length ∧ ∀ i, ownedBy v i → ha.n + 1 < i) ∧ Fr (fun i => i = ha.n + 1 ∨ i = h.n) (ha.push (.defs false)) hx) ?_ (fun hx hJ => ?_)
  · show Runs _ _ _ _ ((ha.push (.defs false)).push (qrec bx h.n)) _ _
    generalize (ha.push (.defs false)).push (qrec bx h.n) = hl at *
    refine Runs.mono (vals64_ok (u := u) (L := L) (I := fun k hx => hx.get (ha.n + 1) = qrec bx h.n ∧ (∃ v, hx.get h.n = .cells [v] 0 ∧ Own hx 1 v (pcells (L.take k)) (L.take k).length ∧ ∀ i, ownedBy v i → ha.n + 1 < i) ∧ ha.n + 1 < hx.n ∧ Fr (fun i => i = ha.n + 1 ∨ i = h.n) (ha.push (.defs false)) hx) (by rw [F1.get _ hb id]; exact hbx) ?_ hlen ?_ ?_) (fun _ h' hh => ?_) (fun _ _ h => h)
    · rintro k hx ⟨i1, ⟨v, i2, i3, i4⟩, i5, i6⟩
      have FD : Fr (fun i => i = ha.n + 1 ∨ i = h.n) ha hx := Fr.trans' (Fr.refl.push (o := .defs false)) i6
      have FX : Fr (fun _ => False) h hx := F0.trans FD fun i hi e => by omega
      exact hu.keep FX fun _ _ => id
    · refine ⟨gq, ⟨_, ?_, .none, fun i hi => hi.elim⟩, by omega, FQ⟩
      rw [FL.get _ (by omega) id]
      exact g2
    · rintro k hx hk ⟨i1, ⟨v, i2, i3, i4⟩, i5, i6⟩
      have i7 := i6.n
      refine Runs.mono (aq_round (b := L.getD k 0) i1 i2 i3 (by rw [List.length_take]; omega) (fun i hi => ?_) i5 (by omega) (by omega)) (fun r h' hh => ?_) (fun _ _ h => h)
      · have := i4 i hi
        omega
      · obtain ⟨rfl, j1, ⟨v', j2, j3, j4⟩, j5⟩ := hh
        have j6 : Fr (fun i => i = ha.n + 1 ∨ i = h.n) (ha.push (.defs false)) h' := i6.trans j5 fun i hi e => by
          rcases e with e | e | e
          · exact .inl e
          · exact .inr e
          · have := i4 i e
            omega
        refine ⟨rfl, j1, ⟨v', j2, by rw [tk k hk]; exact j3, fun i hi => ?_⟩, j5.lt i5, j6⟩
        rcases j4 i hi with h7 | h7
        · exact i4 i h7
        · omega
    · obtain ⟨i1, ⟨v, i2, i3, i4⟩, i5, i6⟩ := hh
      rw [List.take_length] at i3
      exact ⟨i1, ⟨v, i2, i3, i4⟩, i6⟩
  · obtain ⟨⟨v, q4, ho, hnew⟩, hf⟩ := hJ
    have gdf : hx.get ha.n = .defs false := by rw [hf.get _ (by omega) (by omega)]; exact HGet.new.eq
    have FD : Fr (fun i => i = ha.n + 1 ∨ i = h.n) ha hx := Fr.trans' (Fr.refl.push (o := .defs false)) hf
    have hfx : Fr (fun _ => False) h hx := F0.trans FD fun i hi e => by omega
    have hxn := hf.n
    haveI : HGet hx h.n _ := ⟨q4⟩
    haveI : HGet hx ha.n _ := ⟨gdf⟩
    haveI : BLt h.n hx := ⟨by omega⟩
    haveI : BNe h.n (ha.n + 1) := ⟨by omega⟩
    haveI : BNe ha.n (ha.n + 1) := ⟨by omega⟩
    haveI : BNe ha.n h.n := ⟨by omega⟩
    haveI : BNe h.n ha.n := ⟨by omega⟩
    obtain ⟨a3, c3, rfl, _, _⟩ := id ho.rd
    refine stp ?_
    refine B.retC ?_
    have fS : ∀ {A B C : AObj}, Fr (fun i => i = ha.n + 1 ∨ i = ha.n) hx (((hx.set (ha.n + 1) A).set (ha.n + 1) B).set ha.n C) := fun {A B C} => ((Fr.refl.set fun _ => .inl rfl).set fun _ => .inl rfl).set fun _ => .inr rfl
    exact ⟨ho.keep fS fun b hb e => by have := hnew b hb; omega, fun i hi => by have := hnew i hi; omega, hfx.trans fS fun i hi e => by omega⟩
end Go.Proofs.Ytfmpaoolplnpjaa.A

namespace Go.Proofs.Ytfmpaoolplnpjaa.A
open Go Go.Vm
set_option maxRecDepth 10000
set_option linter.unusedVariables false
theorem insertion0_ok {h : Heap} {v f : Value} {a b : Nat} (hab : b ≤ a) (ha : a < 1000) : Runs Try.prog T0 (.fn fn_zdbQ) [v, .int .i64 a, .int .i64 b, f] h (fun r h' => h' = h) (fun _ _ => False) := by
  refine zdbQ_runs ?_
  refine stp ?_
  refine loop1 zdbQ_l1_M 8 (fun k v8 hx => v8 = .int .i64 ((a : Int) + 1) ∧ hx = h) ?_ 0 ⟨rfl, rfl⟩
  rintro m v8 h' x9 x12 x13 x14 x15 x16 x17 x18 x19 x20 x21 x22 x23 x24 x25 x26 x27 x28 x29 x30 x31 x32 x33 x34 x35 x36 x37 x38 x39 x40 x41 x42 x43 x44 x45 x46 x47 x48 x49 x50 x51 x52 ⟨rfl, rfl⟩
  refine stp ?_
  refine C.if (fun h1 => absurd h1 (by omega)) (fun _ => ?_)
  refine stp ?_
  rfl
theorem pdq0_ok {h : Heap} {v f : Value} {k : Int} {a b : Nat} (hab : b ≤ a) (ha : a < 1000) : Runs Try.prog T0 (.fn fn_zlbQ) [v, .int .i64 a, .int .i64 b, .int .i64 k, f] h (fun r h' => h' = h) (fun _ _ => False) := by
  refine zlbQ_runs ?_
  refine stp ?_
  refine loop5 zlbQ_l0_M 1 2 3 10 11 (fun q v1 v2 v3 v10 v11 hx => v1 = .int .i64 a ∧ v2 = .int .i64 b ∧ v3 = .int .i64 k ∧ hx = h) ?_ 0 ⟨rfl, rfl, rfl, rfl⟩
  rintro m v1 v2 v3 v10 v11 h' x12 x13 x14 x15 x16 x17 x18 x19 x20 x21 x22 x23 x24 x25 x26 x27 x28 x29 x30 x31 x32 x33 x34 x35 x36 x37 x38 x39 x40 x41 x42 x43 x44 x45 x46 x47 x48 x49 x50 x51 x52 x53 x54 x55 x56 x57 x58 x59 x60 x61 x62 x63 x64 x65 x66 x67 x68 x69 x70 x71 x72 x73 x74 x75 x76 x77 x78 x79 x80 x81 x82 x83 x84 x85 x86 x87 x88 x89 x90 x91 x92 x93 x94 x95 x96 x97 x98 x99 x100 x101 x102 x103 x104 x105 x106 x107 x108 x109 x110 x111 x112 x113 x114 x115 x116 x117 x118 x119 x120 x121 x122 x123 x124 x125 x126 x127 x128 x129 x130 x131 x132 x133 x134 x135 x136 x137 x138 x139 x140 x141 x142 x143 x144 x145 x146 x147 ⟨rfl, rfl, rfl, rfl⟩
  refine stp ?_
  refine C.if (fun _ => ?_) (fun h1 => absurd (by omega) h1)
  refine stp ?_
  refine O.call' (insertion0_ok hab ha) (fun r h2 hr => ?_)
  subst hr
  refine stp ?_
  rfl
section
variable {lt : Nat → Nat → Bool} {fd : FuncId} {G : Nat → Prop} {h : Heap} {v : Value} {L : List Nat}
set_option maxHeartbeats 4000000 in
theorem SortF_ok (ho : Own h 1 v (pcells L) L.length) (hl : L.length < 256) (oo : Ord lt) (hd : Dist lt L) (hG : ∀ e ∈ L, G e) (hc : ∀ q, ownedBy v q → CmpI lt fd q G h) :
    Runs Try.prog T0 (.fn fn_zwQ) [v, .func (.func fd) ⟨[]⟩ ⟨[]⟩] h (fun _ h' => ∃ M, M.Perm L ∧ Srt lt 0 M.length M ∧ Own h' 1 v (pcells M) M.length ∧ Fr (ownedBy v) h h') (fun _ _ => False) := by
  have hnil : L.length = 0 → ∃ M : List Nat, M.Perm L ∧ Srt lt 0 M.length M ∧ Own h 1 v (pcells M) M.length ∧ Fr (ownedBy v) h h := fun h0 => ⟨L, .refl _, fun p q h1 h2 h3 => by omega, ho, Fr.refl⟩
  have hbl := fun {h : Heap} => bLen_ok (h := h) (n := L.length) hl
  have hlt8 := (lenT_ok hl).1
  generalize (lenT.getD L.length 0).toNat = t at *
  have ho0 := ho
  generalize hn : L.length = n at *
  generalize hcc : pcells L = cc at *
  refine zwQ_runs ?_
  cases ho with
  | none =>
    refine stp ?_
    refine O.call' hbl (fun r h1 hr => ?_)
    obtain ⟨rfl, rfl⟩ := hr
    refine stp ?_
    refine O.call' (pdq0_ok (a := 0) (b := 0) (Nat.le_refl _) (by decide)) (fun r h1 hr => ?_)
    subst hr
    refine stp ?_
    exact hnil rfl
  | lit hq hg =>
    refine stp ?_
    refine O.call' hbl (fun r h1 hr => ?_)
    obtain ⟨rfl, rfl⟩ := hr
    refine stp ?_
    refine O.call' (pdq0_ok (a := 0) (b := 0) (Nat.le_refl _) (by decide)) (fun r h1 hr => ?_)
    subst hr
    refine stp ?_
    exact hnil rfl
  | grown hq hn0 hle hl1 hl2 hg =>
    rename_i q kk cap j
    subst hcc
    have hps : PS q n j G h h L := ⟨hn, hq, hg, Fr.refl, hG⟩
    refine stp ?_
    refine O.call' hbl (fun r h1 hr => ?_)
    obtain ⟨rfl, rfl⟩ := hr
    refine stp ?_
    refine O.call' (pdq_ok (hc q rfl) oo hl n (a := 0) (b := n) (lim := t) (by omega) hps (by omega) (Nat.le_refl _) (by omega) (fun e => absurd e (by omega)) hd) (fun r h2 hr => ?_)
    obtain ⟨M, hps2, hsw, hso⟩ := hr
    refine stp ?_
    have hML : M.length = n := hps2.ln
    refine ⟨M, hsw.perm (by omega), by rw [hML]; exact hso, ?_, hps2.fr.mono fun i _ e => e.symm⟩
    rw [hML]
    exact .grown (j := j) hps2.lt hn0 hle (by rw [pcells_len, hML, Nat.mul_one]) (by rw [List.length_append, pcells_len, hML, ← hn, ← pcells_len, ← List.length_append]; exact hl2) hps2.get
end
def letB (l : List LE) (b : Nat) : LE := (l.find? fun e => decide (e.b = b)).getD default
theorem letB_of {l : List LE} (hn : (l.map LE.b).Nodup) {e : LE} (he : e ∈ l) : letB l e.b = e := by
  unfold letB
  cases h : l.find? fun f => decide (f.b = e.b) with
  | none => exact absurd (List.find?_eq_none.1 h e he) (by simp)
  | some f =>
    have h1 := List.mem_of_find?_eq_some h
    have h2 : f.b = e.b := by simpa using List.find?_some h
    exact nodup_inj hn h1 he h2
abbrev ltB (l : List LE) (a b : Nat) : Bool := ltL (letB l a) (letB l b)
theorem ltB_ord (l : List LE) : Ord (ltB l) := ltK_ord fun b => (letB l b).key
theorem cmpB {l : List LE} {h : Heap} {q : Nat} (hn : (l.map LE.b).Nodup) (ha : ∀ e ∈ l, h.get e.b = .cells e.cells 0 ∧ e.b < h.n ∧ e.b ≠ q) : CmpI (ltB l) fn_zbcQ q (fun b => ∃ e ∈ l, e.b = b) h := ⟨fun {hx x y} hf ⟨e, he, hx1⟩ ⟨f, hf1, hy1⟩ => by
  subst hx1 hy1
  have h1 := ha e he
  have h2 := ha f hf1
  refine (mcompare_ok (x := e) (y := f) (by rw [hf.get _ h1.2.1 h1.2.2]; exact h1.1) (by rw [hf.get _ h2.2.1 h2.2.2]; exact h2.1)).mono (fun r h' ⟨q1, q2⟩ => ⟨⟨_, q1, ?_⟩, q2⟩) fun _ _ h => h
  show _ ↔ ltL (letB l e.b) (letB l f.b) = true
  rw [letB_of hn he, letB_of hn hf1]
  exact ordK _ _ _ _⟩
theorem distB {l S : List LE} (hn : (l.map LE.b).Nodup) (hi : (l.map LE.id).Nodup) (hp : S.Perm l) : Dist (ltB l) (S.map LE.b) := by
  refine ⟨((hp.map LE.b).nodup_iff).2 hn, fun x hx y hy hne => ?_⟩
  obtain ⟨e, he, rfl⟩ := List.mem_map.1 hx
  obtain ⟨f, hf, rfl⟩ := List.mem_map.1 hy
  have he := hp.mem_iff.1 he
  have hf := hp.mem_iff.1 hf
  show ltL (letB l e.b) (letB l f.b) = true ∨ ltL (letB l f.b) (letB l e.b) = true
  rw [letB_of hn he, letB_of hn hf]
  have : e.id ≠ f.id := fun q => hne (congrArg LE.b (nodup_inj hi he hf q))
  simp only [ltK, decide_eq_true_eq]
  omega
theorem srt_lets {l : List LE} {M : List Nat} {L : List LT} (hn : (l.map LE.b).Nodup) (hi : (l.map LE.id).Nodup) (hp : M.Perm (l.map LE.b)) (hs : Srt (ltB l) 0 M.length M) (ht : (l.map LE.tr).Perm L) (hL : SrtT L) : ∃ O : List LE, O.map LE.b = M ∧ O.Perm l ∧ O.map LE.tr = L := by
  have h1 : (M.map (letB l)).Perm l := by
    have := hp.map (letB l)
    rw [List.map_map] at this
    have e : l.map (letB l ∘ LE.b) = l := (List.map_congr_left fun e he => letB_of hn he).trans (List.map_id l)
    rw [e] at this
    exact this
  have h2 : (M.map (letB l)).map LE.b = M := by
    rw [List.map_map]
    refine (List.map_congr_left fun b hb => ?_).trans (List.map_id M)
    obtain ⟨e, he, rfl⟩ := List.mem_map.1 (hp.mem_iff.1 hb)
    show (letB l e.b).b = e.b
    rw [letB_of hn he]
  refine ⟨M.map (letB l), h2, h1, srt_eq ?_ hL ((h1.map LE.tr).trans ht)⟩
  unfold SrtT
  rw [List.pairwise_map, List.pairwise_map, List.pairwise_iff_getElem]
  intro i j hi2 hj hij
  have hd := distB hn hi (.refl l)
  have h3 := hs i j (by omega) hij hj
  have h4 := (hd.perm hp).ahead (by omega) hj (by omega) h3
  have e1 : at' M i = M[i] := by simp only [at', List.getD_eq_getElem?_getD, List.getElem?_eq_getElem (show i < M.length by omega), Option.getD_some]
  have e2 : at' M j = M[j] := by simp only [at', List.getD_eq_getElem?_getD, List.getElem?_eq_getElem hj, Option.getD_some]
  rw [e1, e2] at h4
  exact h4
set_option maxHeartbeats 4000000 in
theorem SortedN_ok {h : Heap} {bx : Nat} {u : Value} {S l : List LE} (hbx : h.get bx = .cells [u] 0) (hb : bx < h.n) (hu : Rd h 1 u (pcells (S.map LE.b)) (S.map LE.b).length) (hpe : S.Perm l) (hlen : l.length < 256) (hn : (l.map LE.b).Nodup) (hi : (l.map LE.id).Nodup) (ha : ∀ e ∈ l, h.get e.b = .cells e.cells 0 ∧ e.b < h.n) :
    Runs Try.prog T0 (.fn fn_zxQ) [.func (.func fn_zzQ) ⟨[]⟩ ⟨[.pointer (some ⟨bx, 0, none⟩)]⟩, .func (.func fn_zbcQ) ⟨[]⟩ ⟨[]⟩] h
      (fun r h' => ∃ M, M.Perm (l.map LE.b) ∧ Srt (ltB l) 0 M.length M ∧ Own h' 1 r (pcells M) M.length ∧ (∀ i, ownedBy r i → h.n ≤ i) ∧ Fr (fun _ => False) h h') (fun _ _ => False) := by
  have hsl : (S.map LE.b).length = l.length := by rw [List.length_map]; exact hpe.length_eq
  refine zxQ_runs ?_
  refine stp ?_
  refine O.call' (zuQ_runs (R := fun r h' => Own h' 1 r (pcells (S.map LE.b)) (S.map LE.b).length ∧ (∀ i, ownedBy r i → h.n ≤ i) ∧ Fr (fun _ => False) h h') (X := fun _ _ => False) ?_) (fun r h1 hr => ?_)
  · refine stp ?_
    refine O.call' (AppendSeq_ok hbx hb hu (by omega)) (fun r h1 hr => ?_)
    refine stp ?_
    exact hr
  · obtain ⟨ho, hnew, f1⟩ := hr
    have hso := SortF_ok (fd := fn_zbcQ) (lt := ltB l) (G := fun b => ∃ e ∈ l, e.b = b) ho (by omega) (ltB_ord l) (distB hn hi hpe) (fun b hb => by
      obtain ⟨e, he, rfl⟩ := List.mem_map.1 hb
      exact ⟨e, hpe.mem_iff.1 he, rfl⟩) (fun q hq => cmpB hn fun e he => ⟨by rw [f1.get _ (ha e he).2 id]; exact (ha e he).1, f1.lt (ha e he).2, fun e2 => by
      have := hnew q hq
      have := (ha e he).2
      omega⟩)
    obtain ⟨a, c, rfl, _, _⟩ := id ho.rd
    refine stp ?_
    refine O.call' hso (fun r h2 hr => ?_)
    obtain ⟨M, hM, hs, hoM, f2⟩ := hr
    refine stp ?_
    have e1 : M.length = (S.map LE.b).length := hM.length_eq
    exact ⟨M, hM.trans (hpe.map _), hs, hoM, hnew, f1.trans f2 fun i hi2 q => by have := hnew i q; omega⟩
end Go.Proofs.Ytfmpaoolplnpjaa.A

namespace Go.Proofs.Ytfmpaoolplnpjaa.A
open Go Go.Vm
set_option maxRecDepth 10000
set_option linter.unusedVariables false
section
variable {P : Program} {ts : List Value} {h : Heap} {x y : Operand}
theorem xgeq1 {p q : Int} {O : Oper} (hp : q ≤ p) [e1 : Ev ts x (.int .i64 p)] [e2 : Ev ts y (.int .i64 q)] : XOp P ts h (.bin .geq O x y) (.bool true) h := by
  have := (XOp.geqI : XOp P ts h (.bin .geq O x y) (.bool (decide (q ≤ p))) h)
  rw [decide_eq_true hp] at this
  exact this
end
def tcells (L : List LT) : List Value := L.flatMap fun t => [.int .i64 t.id, .int .i64 t.due]
theorem tcells_app (L M : List LT) : tcells (L ++ M) = tcells L ++ tcells M := by simp [tcells]
theorem one_tim {h : Heap} {a b : Int} {es : Nat} : newCells (h.push (.cells [.int .i64 a, .int .i64 b] es)) 2 [.int .i64 0, .int .i64 0] false (.slice (some ⟨h.n, 0, none⟩) 1 1) = some (1, [.int .i64 a, .int .i64 b]) :=
  (Rd.mk (size := 2) (n := 1) (cap := 1) (sp := none) (o := 0) (b := h.n) (c := [.int .i64 a, .int .i64 b]) (by simp) (by rw [cellsAt_of (c := [.int .i64 a, .int .i64 b]) (by rw [Heap.get_push, if_pos rfl]; rfl) (by simp)]; rfl)).new _
set_option maxHeartbeats 8000000 in
theorem told_ok {h : Heap} {v : Value} {S : List LE} {L : List LT} (hv : Rd h 1 v (pcells (S.map LE.b)) S.length) (hlen : S.length < 256) (hn : (S.map LE.b).Nodup) (hi : (S.map LE.id).Nodup) (ha : ∀ e ∈ S, e.At h) (hp : (S.map LE.tr).Perm L) (hL : SrtT L) :
    Runs Try.prog T0 (.fn fn_zhcQ) [v] h (fun r h' => Own h' 2 r (tcells L) L.length ∧ (∀ i, ownedBy r i → h.n ≤ i) ∧ Fr (fun _ => False) h h') (fun _ _ => False) := by
  obtain ⟨av, cv, rfl, _, _⟩ := id hv
  have hml : (S.map LE.b).length = S.length := List.length_map _
  refine zhcQ_runs ?_
  refine stp ?_
  refine O.call' Values_ok (fun r h1 hr => ?_)
  obtain ⟨rfl, n1, g1, f1⟩ := hr
  refine stp ?_
  refine O.call' (SortedN_ok (S := S) (l := S) g1 (by omega) (by rw [hml]; exact hv.keep f1 fun _ _ => id) (.refl S) (by omega) hn hi (fun e he => ⟨by rw [f1.get _ (ha e he).lt id]; exact (ha e he).get, f1.lt (ha e he).lt⟩)) (fun r h2 hr => ?_)
  obtain ⟨M, hM, hso, oM, hnew, f2⟩ := hr
  obtain ⟨O', hOb, hOp, hOt⟩ := srt_lets hn hi hM hso hp hL
  have F2 := f1.trans' f2
  have hMO : M.length = O'.length := by rw [← hOb, List.length_map]
  have hOl : O'.length = S.length := hOp.length_eq
  have hLO : L.length = O'.length := by rw [← hOt, List.length_map]
  obtain ⟨a2, c2, rfl, _, hc2⟩ := id oM.rd
  have n2 := F2.n
  refine stp ?_
  refine loop2 zhcQ_l0_M 2 9 (fun q v2 v9 hx => ∃ k : Nat, k ≤ M.length ∧ q = M.length - k ∧ v9 = .int .i64 k ∧ Own hx 2 v2 (tcells (L.take k)) k ∧ (∀ i, ownedBy v2 i → h2.n ≤ i) ∧ Fr (fun _ => False) h2 hx) ?_ M.length ⟨0, by omega, rfl, rfl, .none, fun i hi => hi.elim, Fr.refl⟩
  rintro m v2 v9 h' x4 x10 x11 x12 x13 x14 x15 x16 x17 x18 x19 ⟨k, hk, rfl, rfl, ho, hPn, hF⟩
  have nF := hF.n
  obtain ⟨ao, co, rfl, _, _⟩ := id ho.rd
  rcases Nat.lt_or_ge k M.length with hlt | hge
  · haveI q1 : ∀ {ts : List Value} {h : Heap} {O : Oper} {x z : Operand} [Ev ts x (.int .i64 (k : Nat))] [Ev ts z (.int .i64 (M.length : Nat))], XOp Try.prog ts h (.bin .lss O x z) (.bool true) h := xlss1 (by omega)
    obtain ⟨q, o, sp, rfl, hq, hcc⟩ := hc2 (by omega)
    have hccx : cellsAt h' q o (M.length * 1) = some (pcells M) := (cellsAt_keep hF hq id).trans hcc
    have hcell : Cell h' q (o + k) (.pointer (some ⟨M.getD k 0, 0, none⟩)) := pcell_at hccx rfl hlt
    have hkO : k < O'.length := by omega
    have e0 : M.getD k 0 = (at' O' k).b := by rw [← hOb]; exact at_map LE.b hkO
    have hel : at' O' k ∈ S := hOp.mem_iff.1 (at_mem hkO)
    have htk : L.take (k + 1) = L.take k ++ [(at' O' k).tr] := by
      rw [← hOt, ← List.map_take, ← List.map_take, List.take_succ_eq_append_getElem hkO, List.map_append]
      simp only [at', List.getD_eq_getElem?_getD, List.getElem?_eq_getElem hkO, Option.getD_some, List.map_singleton]
    rw [e0] at hcell
    generalize at' O' k = e at *
    have hae := (ha e hel).keep (F2.trans' hF) id
    haveI := hcell
    have hget : h'.get e.b = .cells [.int .i64 e.id, .int .i64 e.due] 0 := hae.get
    haveI : HGet h' e.b _ := ⟨hget⟩
    haveI : BLt e.b h' := ⟨hae.lt⟩
    refine stp ?_
    refine O.append (n := k) (m := 1) (d := [.int .i64 e.id, .int .i64 e.due]) (ho.keep (Fr.refl.push (S := fun _ => False)) fun _ _ => id) one_tim rfl rfl (by decide) (by decide) (by omega) (fun v6 h6 o6 f6 n6 => ?_)
    have ecl : tcells (L.take k) ++ [.int .i64 e.id, .int .i64 e.due] = tcells (L.take (k + 1)) := by rw [htk, tcells_app]; rfl
    rw [ecl] at o6
    have F6 : Fr (ownedBy (.slice ao k co)) h' h6 := (Fr.refl.push (S := ownedBy (.slice ao k co))).trans' f6
    obtain ⟨a7, c7, rfl, _, _⟩ := id o6.rd
    refine stp ?_
    refine loop2a 2 9 (M.length - (k + 1)) (by omega) ⟨k + 1, by omega, rfl, rfl, o6, fun i hi => ?_, hF.trans F6 fun i hi q => by have := hPn i q; omega⟩
    rcases n6 i hi with q | q
    · exact hPn i q
    · simp at q; omega
  · haveI q1 : ∀ {ts : List Value} {h : Heap} {O : Oper} {x z : Operand} [Ev ts x (.int .i64 (k : Nat))] [Ev ts z (.int .i64 (M.length : Nat))], XOp Try.prog ts h (.bin .lss O x z) (.bool false) h := xlss0 (by omega)
    refine stp ?_
    have hkL : k = L.length := by omega
    rw [hkL, List.take_of_length_le (Nat.le_refl _)] at ho
    rw [hkL]
    exact ⟨ho, fun i hi => by have := hPn i (by rw [hkL]; exact hi); omega, F2.trans' hF⟩
def slotS (L : List LT) (n : Nat) (i : Int) : List LT := L.filter fun t => decide (((slotOf n t.due : Nat) : Int) = i)
section
variable {h h' : Heap} {p n : Nat} {L : List LT} {W : Nat → Prop}
theorem slot_tr {m c : Nat} {u : Nat → Value} {S : Nat → List LE} {l : List LE} (hs : WAt h p m c n u S l) (hp : (l.map LE.tr).Perm L) {i : Nat} (hi : i < 256) : ((S i).map LE.tr).Perm (slotS L n i) ∧ ((S i).map LE.b).Nodup ∧ ((S i).map LE.id).Nodup ∧ (S i).length ≤ l.length := by
  obtain ⟨R, h1, h2⟩ := all_upd S hi
  have h3 : ∀ e ∈ R, slotOf n e.due ≠ i := fun e he q => by
    have h4 : e ∈ allS (upd S i []) := (h2 []).mem_iff.2 (by simpa using he)
    obtain ⟨k, hk, h5⟩ := all_mem.1 h4
    by_cases hki : k = i
    · rw [hki, upd_at] at h5; simp at h5
    · rw [upd_ne _ _ hki] at h5
      exact hki (by rw [← hs.sl k hk e h5, q])
  have hpe := h1.symm.trans hs.pe
  have f1 : (S i).filter (fun e => decide (((slotOf n e.due : Nat) : Int) = i)) = S i := List.filter_eq_self.2 fun e he => by
    rw [hs.sl i hi e he]
    simp
  have f2 : R.filter (fun e => decide (((slotOf n e.due : Nat) : Int) = i)) = [] := List.filter_eq_nil_iff.2 fun e he => by
    have := h3 e he
    simp only [decide_eq_true_eq]
    omega
  have h6 := hpe.filter fun e => decide (((slotOf n e.due : Nat) : Int) = i)
  rw [List.filter_append, f1, f2, List.append_nil] at h6
  have h7 := hp.filter fun t => decide (((slotOf n t.due : Nat) : Int) = i)
  rw [List.filter_map] at h7
  refine ⟨(h6.map LE.tr).trans h7, ?_, ?_, ?_⟩
  · have := ((hpe.map LE.b).nodup_iff).2 hs.nd
    rw [List.map_append] at this
    exact (List.nodup_append.1 this).1
  · have := ((hpe.map LE.id).nodup_iff).2 hs.ids
    rw [List.map_append] at this
    exact (List.nodup_append.1 this).1
  · have := hpe.length_eq
    rw [List.length_append] at this
    omega
set_option maxHeartbeats 8000000 in
theorem wSlot_ok {i : Int} (hv : WV h p n L W) (hlen : L.length < 256) :
    Runs Try.prog T0 (.fn fn_zvbQ) [.pointer (some ⟨p, 0, none⟩), .int .i64 i] h (fun r h' => Own h' 2 r (tcells (slotS L n i)) (slotS L n i).length ∧ (∀ j, ownedBy r j → h.n ≤ j) ∧ Fr (fun _ => False) h h') (fun _ _ => False) := by
  obtain ⟨m, c, u, S, l, hs, hp, hw⟩ := hv.kp
  have hLl : l.length = L.length := by have := hp.length_eq; rwa [List.length_map] at this
  haveI := hs.c0
  haveI : BLt p h := ⟨hs.pl⟩
  have h1n := hs.n1
  have h2n := hs.n2
  have hso := hv.so
  refine zvbQ_runs ?_
  refine stp ?_
  refine O.call' (wnone_ok hs) (fun r h hr => ?_)
  obtain ⟨rfl, rfl⟩ := hr
  have hout : (i < 0 ∨ (n : Int) ≤ i) → slotS L n i = [] := fun hq => by
    unfold slotS
    refine List.filter_eq_nil_iff.2 fun t ht => ?_
    have := slot_lt (d := t.due) h1n
    simp only [decide_eq_true_eq]
    omega
  by_cases c1 : i < 0
  · haveI q1 : ∀ {ts : List Value} {h : Heap} {O : Oper} {x z : Operand} [Ev ts x (.int .i64 i)] [Ev ts z (.int .i64 0)], XOp Try.prog ts h (.bin .lss O x z) (.bool true) h := xlss1 c1
    refine stp ?_
    rw [hout (.inl c1)]
    exact ⟨.none, fun j hj => hj.elim, Fr.refl⟩
  haveI q1 : ∀ {ts : List Value} {h : Heap} {O : Oper} {x z : Operand} [Ev ts x (.int .i64 i)] [Ev ts z (.int .i64 0)], XOp Try.prog ts h (.bin .lss O x z) (.bool false) h := xlss0 c1
  by_cases c2 : (n : Int) ≤ i
  · haveI q2 : ∀ {ts : List Value} {h : Heap} {O : Oper} {x z : Operand} [Ev ts x (.int .i64 i)] [Ev ts z (.int .i64 (n : Nat))], XOp Try.prog ts h (.bin .geq O x z) (.bool true) h := xgeq1 c2
    refine stp ?_
    rw [hout (.inr c2)]
    exact ⟨.none, fun j hj => hj.elim, Fr.refl⟩
  haveI q2 : ∀ {ts : List Value} {h : Heap} {O : Oper} {x z : Operand} [Ev ts x (.int .i64 i)] [Ev ts z (.int .i64 (n : Nat))], XOp Try.prog ts h (.bin .geq O x z) (.bool false) h := xgeq0 c2
  obtain ⟨k, rfl⟩ : ∃ k : Nat, i = k := ⟨i.toNat, by omega⟩
  have hk : k < 256 := by omega
  obtain ⟨s1, s2, s3, s4⟩ := slot_tr hs hp hk
  have hto := told_ok (L := slotS L n k) (hs.ou k hk).rd (by omega) s2 s3 (fun e he => hs.ats e (hs.mem hk he)) s1 (hso.filter _)
  obtain ⟨a, cc, eu, _, _⟩ := id (hs.ou k hk).rd
  have hcs := hs.cs hk
  rw [eu] at hcs hto
  haveI := hcs
  refine stp ?_
  refine O.call' hto (fun r h1 hr => ?_)
  obtain ⟨o1, m1, f1⟩ := hr
  refine stp ?_
  exact ⟨o1, m1, f1⟩
theorem allU_len (S : Nat → List LE) {k : Nat} (hk : k ≤ 256) : ((List.range k).flatMap S).length ≤ (allS S).length := by
  unfold allS
  obtain ⟨j, hj⟩ : ∃ j, 256 = k + j := ⟨256 - k, by omega⟩
  rw [hj, List.range_add, List.flatMap_append, List.length_append]
  omega
set_option maxHeartbeats 8000000 in
theorem wList_ok (hv : WV h p n L W) (hlen : L.length < 256) :
    Runs Try.prog T0 (.fn fn_zsbQ) [.pointer (some ⟨p, 0, none⟩)] h (fun r h' => Own h' 2 r (tcells L) L.length ∧ (∀ j, ownedBy r j → h.n ≤ j) ∧ Fr (fun _ => False) h h') (fun _ _ => False) := by
  obtain ⟨m, c, u, S, l, hs, hp, hw⟩ := hv.kp
  have hLl : l.length = L.length := by have := hp.length_eq; rwa [List.length_map] at this
  have hal := hs.pe.length_eq
  have hso := hv.so
  have hno := wnone_ok hs
  refine zsbQ_runs ?_
  refine stp ?_
  refine O.call' hno (fun r h0 hr => ?_)
  obtain ⟨rfl, rfl⟩ := hr
  refine stp ?_
  refine loop2 zsbQ_l0_M 3 7 (fun q v3 v7 hx => ∃ k : Nat, k ≤ 256 ∧ q = 256 - k ∧ v7 = .int .i64 k ∧ Own hx 1 v3 (pcells (((List.range k).flatMap S).map LE.b)) ((List.range k).flatMap S).length ∧ (∀ i, ownedBy v3 i → h0.n ≤ i) ∧ Fr (fun _ => False) h0 hx) ?_ 256 ⟨0, by omega, rfl, rfl, .none, fun i hi => hi.elim, Fr.refl⟩
  rintro m v3 v7 h' x4 x8 x9 x10 x11 x12 x13 x14 x15 x16 x17 x18 ⟨k, hk, rfl, rfl, ho, hn3, hF⟩
  have hsx := hs.keep hF fun _ _ => id
  have nF := hF.n
  obtain ⟨a3, c3, e3, _, _⟩ := id ho.rd
  subst e3
  rcases Nat.lt_or_ge k 256 with hlt | hge
  · haveI q1 : ∀ {ts : List Value} {h : Heap} {O : Oper} {x z : Operand} [Ev ts x (.int .i64 (k : Nat))] [Ev ts z (.int .i64 256)], XOp Try.prog ts h (.bin .lss O x z) (.bool true) h := xlss1 (by omega)
    have hou := hsx.ou k hlt
    have hcs := hsx.cs hlt
    have hsu := hsx.su k hlt
    have h5 := allU_len S hk
    obtain ⟨_, _, _, s4⟩ := slot_tr hs hp hlt
    have hml : ((S k).map LE.b).length = (S k).length := List.length_map _
    obtain ⟨a, cc, eu, _, _⟩ := id hou.rd
    rw [eu] at hcs hou
    haveI := hcs
    haveI : BLt p h' := ⟨hsx.pl⟩
    refine stp ?_
    refine O.append (n := ((List.range k).flatMap S).length) (m := (S k).length) (d := pcells ((S k).map LE.b)) ho (hou.rd.new _) (by rw [pcells_len, hml, Nat.mul_one]) (pcells_one _) (by decide) (by decide) (by omega) (fun v6 h6 o6 f6 n6 => ?_)
    have e6 : (List.range (k + 1)).flatMap S = (List.range k).flatMap S ++ S k := by rw [List.range_succ, List.flatMap_append, List.flatMap_singleton]
    rw [← pcells_append, ← List.map_append, ← List.length_append, ← e6] at o6
    obtain ⟨a7, c7, rfl, _, _⟩ := id o6.rd
    refine stp ?_
    refine loop2a 3 7 (256 - (k + 1)) (by omega) ⟨k + 1, by omega, rfl, rfl, ?_, fun i hi => ?_, hF.trans f6 fun i hi q => by have := hn3 i q; omega⟩
    · exact o6
    · rcases n6 i hi with q | q
      · exact hn3 i q
      · omega
  · obtain rfl : k = 256 := by omega
    haveI q1 : ∀ {ts : List Value} {h : Heap} {O : Oper} {x z : Operand} [Ev ts x (.int .i64 ((256 : Nat) : Int))] [Ev ts z (.int .i64 256)], XOp Try.prog ts h (.bin .lss O x z) (.bool false) h := xlss0 (by omega)
    have hto := told_ok (S := allS S) (L := L) ho.rd (by omega) (((hs.pe.map LE.b).nodup_iff).2 hs.nd) (((hs.pe.map LE.id).nodup_iff).2 hs.ids) (fun e he => hsx.ats e (hs.pe.mem_iff.1 he)) ((hs.pe.map LE.tr).trans hp) hso
    refine stp ?_
    refine O.call' hto (fun r h1 hr => ?_)
    obtain ⟨o1, m1, f1⟩ := hr
    refine stp ?_
    exact ⟨o1, fun j hj => by have := m1 j hj; omega, hF.trans' f1⟩
end
end Go.Proofs.Ytfmpaoolplnpjaa.A

set_option maxRecDepth 100000
set_option linter.unusedVariables false
namespace Go.Proofs.Ytfmpaoolplnpjaa.A
open Go Go.Vm
abbrev fn_zmQ : FuncId := 7
def zmQ_l0 : ACode :=
 (.seq (.seq (.region [
 o1 41 (.mov (tm 11)),
 o1 42 (.mov (tm 10)),
 o1 43 (.lenSl (tm 42)),
 o1 44 (.bin .lss (so (.binOp .lss 3 (tm 41) (tm 43) 3) 4) (tm 41) (tm 43))]) (.cond (tm 44)
 .skip
 (.exit 2))) (.seq (.block 3 (.seq (.region [
 o1 48 (.mov (tm 6)),
 o1 49 (.mov (tm 10)),
 o1 50 (.mov (tm 11)),
 o1 51 (.indexSl 2 (tm 49) (tm 50)),
 o1 52 (.fieldAddr 0 (tm 51)),
 o1 53 (.load none (tm 52)),
 o1 54 (.callV (.func 16) [(tm 48), (tm 53)]),
 o1 47 (.mov (tm 54)),
 o1 55 (.extract 0 (tm 47)),
 o1 56 (.extract 1 (tm 47)),
 o1 12 (.mov (tm 55)),
 o1 13 (.mov (tm 56))]) (.seq (.regionD [
 o2 57 (.mov (tm 13)),
 o2 58 (.raw (so (.unOp .not 4 (tm 57)) 4)),
 o2 59 (.mov (tm 58)),
 o5 60 (.mov (tm 12)) 59,
 o5 61 (.mov (tm 10)) 59,
 o5 62 (.mov (tm 11)) 59,
 o5 63 (.indexSl 2 (tm 61) (tm 62)) 59,
 o5 64 (.fieldAddr 1 (tm 63)) 59,
 o5 65 (.load none (tm 64)) 59,
 ⟨some 66, .bin .neq (so (.binOp .neq 3 (tm 60) (tm 65) 3) 4) (tm 60) (tm 65), some (59, false), [], true⟩,
 o2 67 (.pick (tm 59) (.const (.bool true)) (tm 66)),
 o2 68 (.mov (tm 67)),
 o5 69 (.mov (tm 12)) 68,
 o5 70 (.mov (tm 7)) 68,
 o5 71 (.bin .rem (so (.binOp .rem 3 (tm 69) (tm 70) 3) 3) (tm 69) (tm 70)) 68,
 o5 72 (.mov (tm 9)) 68,
 ⟨some 73, .bin .neq (so (.binOp .neq 3 (tm 71) (tm 72) 3) 4) (tm 71) (tm 72), some (68, false), [], true⟩,
 o2 74 (.pick (tm 68) (.const (.bool true)) (tm 73)),
 o2 75 (.mov (tm 74)),
 ⟨some 76, .mov (tm 11), some (75, false), [], true⟩,
 ⟨some 77, .bin .gtr (so (.binOp .gtr 3 (tm 76) k0 3) 4) (tm 76) k0, some (75, false), [], true⟩,
 ⟨some 78, .mov (tm 77), some (75, false), [], true⟩,
 o4 79 (.mov (tm 10)) 78,
 o4 80 (.mov (tm 11)) 78,
 o4 81 (.bin .sub (so (.binOp .sub 3 (tm 80) (.const (.int .i64 1)) 3) 3) (tm 80) (.const (.int .i64 1))) 78,
 o4 82 (.indexSl 2 (tm 79) (tm 81)) 78,
 o4 83 (.fieldAddr 1 (tm 82)) 78,
 o4 84 (.load none (tm 83)) 78,
 o4 85 (.mov (tm 12)) 78,
 ⟨some 86, .bin .gtr (so (.binOp .gtr 3 (tm 84) (tm 85) 3) 4) (tm 84) (tm 85), some (78, true), [], true⟩,
 ⟨some 87, .mov (tm 86), some (78, true), [], true⟩,
 o5 88 (.mov (tm 10)) 87,
 o5 89 (.mov (tm 11)) 87,
 o5 90 (.bin .sub (so (.binOp .sub 3 (tm 89) (.const (.int .i64 1)) 3) 3) (tm 89) (.const (.int .i64 1))) 87,
 o5 91 (.indexSl 2 (tm 88) (tm 90)) 87,
 o5 92 (.fieldAddr 1 (tm 91)) 87,
 o5 93 (.load none (tm 92)) 87,
 o5 94 (.mov (tm 12)) 87,
 ⟨some 95, .bin .eql (so (.binOp .eql 3 (tm 93) (tm 94) 3) 4) (tm 93) (tm 94), some (87, false), [], true⟩,
 ⟨some 96, .mov (tm 95), some (87, false), [], true⟩,
 o4 97 (.mov (tm 10)) 96,
 o4 98 (.mov (tm 11)) 96,
 o4 99 (.bin .sub (so (.binOp .sub 3 (tm 98) (.const (.int .i64 1)) 3) 3) (tm 98) (.const (.int .i64 1))) 96,
 o4 100 (.indexSl 2 (tm 97) (tm 99)) 96,
 o4 101 (.fieldAddr 0 (tm 100)) 96,
 o4 102 (.load none (tm 101)) 96,
 o4 103 (.mov (tm 10)) 96,
 o4 104 (.mov (tm 11)) 96,
 o4 105 (.indexSl 2 (tm 103) (tm 104)) 96,
 o4 106 (.fieldAddr 0 (tm 105)) 96,
 o4 107 (.load none (tm 106)) 96,
 ⟨some 108, .bin .geq (so (.binOp .geq 3 (tm 102) (tm 107) 3) 4) (tm 102) (tm 107), some (96, true), [], true⟩,
 ⟨some 109, .pick (tm 96) (tm 108) (.const (.bool false)), some (87, false), [], true⟩,
 ⟨some 110, .pick (tm 87) (.const (.bool true)) (tm 109), some (78, true), [], true⟩,
 ⟨some 111, .pick (tm 78) (tm 110) (.const (.bool false)), some (75, false), [], true⟩,
 o2 112 (.pick (tm 75) (.const (.bool true)) (tm 111))]) (.cond (tm 112)
 (.seq (.region [
 o1 4 (.mov (.const (.bool false)))]) .ret)
 .skip)))) (.region [
 o1 45 (.mov (tm 11)),
 o1 46 (.bin .add (so (.binOp .add 3 (tm 45) (.const (.int .i64 1)) 3) 3) (tm 45) (.const (.int .i64 1))),
 o1 11 (.mov (tm 46))])))
def zmQ_l1 : ACode :=
 (.seq (.seq (.region [
 o1 29 (.mov (tm 9)),
 o1 30 (.mov (tm 7)),
 o1 31 (.bin .leq (so (.binOp .leq 3 (tm 29) (tm 30) 3) 4) (tm 29) (tm 30))]) (.cond (tm 31)
 .skip
 (.exit 0))) (.seq (.block 1 (.seq (.region [
 o1 34 (.mov (tm 6)),
 o1 35 (.mov (tm 9)),
 o1 36 (.callV (.func 12) [(tm 34), (tm 35)]),
 o1 10 (.mov (tm 36))]) (.seq (.region [
 o1 37 (.mov (tm 8)),
 o1 38 (.mov (tm 10)),
 o1 39 (.lenSl (tm 38)),
 o1 40 (.bin .add (so (.binOp .add 3 (tm 37) (tm 39) 3) 3) (tm 37) (tm 39)),
 o1 8 (.mov (tm 40))]) (.seq (.region [
 o1 11 (.mov k0)]) (.block 2 (.loop zmQ_l0)))))) (.region [
 o1 32 (.mov (tm 9)),
 o1 33 (.bin .add (so (.binOp .add 3 (tm 32) (.const (.int .i64 1)) 3) 3) (tm 32) (.const (.int .i64 1))),
 o1 9 (.mov (tm 33))])))
def zmQ_l2 : ACode :=
 (.seq (.seq (.region [
 o1 115 (.mov (tm 15)),
 o1 116 (.mov (tm 14)),
 o1 117 (.lenSl (tm 116)),
 o1 118 (.bin .lss (so (.binOp .lss 3 (tm 115) (tm 117) 3) 4) (tm 115) (tm 117))]) (.cond (tm 118)
 .skip
 (.exit 4))) (.seq (.block 5 (.seq (.regionD [
 o1 121 (.mov (tm 14)),
 o1 122 (.mov (tm 15)),
 o1 123 (.bin .sub (so (.binOp .sub 3 (tm 122) (.const (.int .i64 1)) 3) 3) (tm 122) (.const (.int .i64 1))),
 o1 124 (.indexSl 2 (tm 121) (tm 123)),
 o1 125 (.fieldAddr 1 (tm 124)),
 o1 126 (.load none (tm 125)),
 o1 127 (.mov (tm 14)),
 o1 128 (.mov (tm 15)),
 o1 129 (.indexSl 2 (tm 127) (tm 128)),
 o1 130 (.fieldAddr 1 (tm 129)),
 o1 131 (.load none (tm 130)),
 o2 132 (.bin .gtr (so (.binOp .gtr 3 (tm 126) (tm 131) 3) 4) (tm 126) (tm 131)),
 o2 133 (.mov (tm 132)),
 o5 134 (.mov (tm 14)) 133,
 o5 135 (.mov (tm 15)) 133,
 o5 136 (.bin .sub (so (.binOp .sub 3 (tm 135) (.const (.int .i64 1)) 3) 3) (tm 135) (.const (.int .i64 1))) 133,
 o5 137 (.indexSl 2 (tm 134) (tm 136)) 133,
 o5 138 (.fieldAddr 1 (tm 137)) 133,
 o5 139 (.load none (tm 138)) 133,
 o5 140 (.mov (tm 14)) 133,
 o5 141 (.mov (tm 15)) 133,
 o5 142 (.indexSl 2 (tm 140) (tm 141)) 133,
 o5 143 (.fieldAddr 1 (tm 142)) 133,
 o5 144 (.load none (tm 143)) 133,
 ⟨some 145, .bin .eql (so (.binOp .eql 3 (tm 139) (tm 144) 3) 4) (tm 139) (tm 144), some (133, false), [], true⟩,
 ⟨some 146, .mov (tm 145), some (133, false), [], true⟩,
 o4 147 (.mov (tm 14)) 146,
 o4 148 (.mov (tm 15)) 146,
 o4 149 (.bin .sub (so (.binOp .sub 3 (tm 148) (.const (.int .i64 1)) 3) 3) (tm 148) (.const (.int .i64 1))) 146,
 o4 150 (.indexSl 2 (tm 147) (tm 149)) 146,
 o4 151 (.fieldAddr 0 (tm 150)) 146,
 o4 152 (.load none (tm 151)) 146,
 o4 153 (.mov (tm 14)) 146,
 o4 154 (.mov (tm 15)) 146,
 o4 155 (.indexSl 2 (tm 153) (tm 154)) 146,
 o4 156 (.fieldAddr 0 (tm 155)) 146,
 o4 157 (.load none (tm 156)) 146,
 ⟨some 158, .bin .geq (so (.binOp .geq 3 (tm 152) (tm 157) 3) 4) (tm 152) (tm 157), some (146, true), [], true⟩,
 ⟨some 159, .pick (tm 146) (tm 158) (.const (.bool false)), some (133, false), [], true⟩,
 o2 160 (.pick (tm 133) (.const (.bool true)) (tm 159))]) (.cond (tm 160)
 (.seq (.region [
 o1 4 (.mov (.const (.bool false)))]) .ret)
 .skip))) (.region [
 o1 119 (.mov (tm 15)),
 o1 120 (.bin .add (so (.binOp .add 3 (tm 119) (.const (.int .i64 1)) 3) 3) (tm 119) (.const (.int .i64 1))),
 o1 15 (.mov (tm 120))])))
def zmQ_c : ACode :=
 (.seq (.region [
 o1 4 (.mov (.const (.bool false)))]) (.seq (.region [
 o1 16 (.callV (.func 3) []),
 o1 5 (.mov (tm 16))]) (.seq (.seq (.region [
 o1 17 (.mov (tm 1)),
 o1 18 (.lenSl (tm 17)),
 o1 19 (.bin .gtr (so (.binOp .gtr 3 (tm 18) (.const (.int .i64 60)) 3) 4) (tm 18) (.const (.int .i64 60)))]) (.cond (tm 19)
 (.seq (.region [
 o1 20 (.mov (tm 5)),
 o1 4 (.mov (tm 20))]) .ret)
 .skip)) (.seq (.region [
 o1 21 (.mov (tm 0)),
 o1 22 (.mov (tm 1)),
 o1 23 (.callV (.func 18) [(tm 21), (tm 22)]),
 o1 6 (.mov (tm 23))]) (.seq (.seq (.region [
 o1 24 (.mov (tm 6)),
 o1 25 (.eq .ptr false (so (.binOp .eql 22 (tm 24) (.const (.pointer none)) 22) 4) (tm 24) (.const (.pointer none)))]) (.cond (tm 25)
 (.seq (.region [
 o1 4 (.mov (.const (.bool false)))]) .ret)
 .skip)) (.seq (.region [
 o1 26 (.mov (tm 0)),
 o1 27 (.callV (.func 19) [(tm 26), (.const (.int .i64 256))]),
 o1 28 (.bin .add (so (.binOp .add 3 (.const (.int .i64 1)) (tm 27) 3) 3) (.const (.int .i64 1)) (tm 27)),
 o1 7 (.mov (tm 28))]) (.seq (.region [
 o1 8 (.mov k0)]) (.seq (.seq (.region [
 o1 9 (.mov (.const (.int .i64 (-1))))]) (.block 0 (.loop zmQ_l1))) (.seq (.region [
 o1 113 (.mov (tm 6)),
 o1 114 (.callV (.func 29) [(tm 113)]),
 o1 14 (.mov (tm 114))]) (.seq (.seq (.region [
 o1 15 (.mov (.const (.int .i64 1)))]) (.block 4 (.loop zmQ_l2))) (.seq (.region [
 o1 161 (.mov (tm 5)),
 o1 162 (.mov (tm 161)),
 o4 163 (.mov (tm 8)) 162,
 o4 164 (.mov (tm 1)) 162,
 o4 165 (.lenSl (tm 164)) 162,
 o4 166 (.bin .eql (so (.binOp .eql 3 (tm 163) (tm 165) 3) 4) (tm 163) (tm 165)) 162,
 o1 167 (.pick (tm 162) (tm 166) (.const (.bool false))),
 o1 168 (.mov (tm 167)),
 o4 169 (.mov (tm 14)) 168,
 o4 170 (.lenSl (tm 169)) 168,
 o4 171 (.mov (tm 1)) 168,
 o4 172 (.lenSl (tm 171)) 168,
 o4 173 (.bin .eql (so (.binOp .eql 3 (tm 170) (tm 172) 3) 4) (tm 170) (tm 172)) 168,
 o1 174 (.pick (tm 168) (tm 173) (.const (.bool false))),
 o1 4 (.mov (tm 174))]) .ret)))))))))))
def zmQ : AFunc := ⟨175, [(4, none)], zmQ_c, none⟩
theorem zmQ_t0 : tableOf Try.prog 7 = some zmQ := by kernel_rfl
theorem zmQ_t : T0 7 = some zmQ := withKept_t rfl (withTrue_t rfl zmQ_t0)
theorem zmQ_runs {v0 v1 : Value} {h : Heap} {R : RP} {X : XP} (k : RunC Try.prog T0 zmQ_c ⟨[v0, v1, U, U, U, U, U, U, U, U, U, U, U, U, U, U, U, U, U, U, U, U, U, U, U, U, U, U, U, U, U, U, U, U, U, U, U, U, U, U, U, U, U, U, U, U, U, U, U, U, U, U, U, U, U, U, U, U, U, U, U, U, U, U, U, U, U, U, U, U, U, U, U, U, U, U, U, U, U, U, U, U, U, U, U, U, U, U, U, U, U, U, U, U, U, U, U, U, U, U, U, U, U, U, U, U, U, U, U, U, U, U, U, U, U, U, U, U, U, U, U, U, U, U, U, U, U, U, U, U, U, U, U, U, U, U, U, U, U, U, U, U, U, U, U, U, U, U, U, U, U, U, U, U, U, U, U, U, U, U, U, U, U, U, U, U, U, U, U, U, U, U, U, U, U], [], h, none⟩ (bodyQ Try.prog T0 [(4, none)] R X)) :
 Runs Try.prog T0 (.fn 7) [v0, v1] h R X := Runs.fn zmQ_t rfl k
abbrev zmQ_l0_M : List Nat := [0, 0, 0, 0, 1, 0, 0, 0, 0, 0, 0, 2, 1, 1, 0, 0, 0, 0, 0, 0, 0, 0, 0, 0, 0, 0, 0, 0, 0, 0, 0, 0, 0, 0, 0, 0, 0, 0, 0, 0, 0, 1, 1, 1, 1, 1, 1, 1, 1, 1, 1, 1, 1, 1, 1, 1, 1, 1, 1, 1, 1, 1, 1, 1, 1, 1, 1, 1, 1, 1, 1, 1, 1, 1, 1, 1, 1, 1, 1, 1, 1, 1, 1, 1, 1, 1, 1, 1, 1, 1, 1, 1, 1, 1, 1, 1, 1, 1, 1, 1, 1, 1, 1, 1, 1, 1, 1, 1, 1, 1, 1, 1, 1, 0, 0, 0, 0, 0, 0, 0, 0, 0, 0, 0, 0, 0, 0, 0, 0, 0, 0, 0, 0, 0, 0, 0, 0, 0, 0, 0, 0, 0, 0, 0, 0, 0, 0, 0, 0, 0, 0, 0, 0, 0, 0, 0, 0, 0, 0, 0, 0, 0, 0, 0, 0, 0, 0, 0, 0, 0, 0, 0, 0, 0, 0]
abbrev zmQ_l1_M : List Nat := [0, 0, 0, 0, 1, 0, 0, 0, 2, 2, 1, 1, 1, 1, 0, 0, 0, 0, 0, 0, 0, 0, 0, 0, 0, 0, 0, 0, 0, 1, 1, 1, 1, 1, 1, 1, 1, 1, 1, 1, 1, 1, 1, 1, 1, 1, 1, 1, 1, 1, 1, 1, 1, 1, 1, 1, 1, 1, 1, 1, 1, 1, 1, 1, 1, 1, 1, 1, 1, 1, 1, 1, 1, 1, 1, 1, 1, 1, 1, 1, 1, 1, 1, 1, 1, 1, 1, 1, 1, 1, 1, 1, 1, 1, 1, 1, 1, 1, 1, 1, 1, 1, 1, 1, 1, 1, 1, 1, 1, 1, 1, 1, 1, 0, 0, 0, 0, 0, 0, 0, 0, 0, 0, 0, 0, 0, 0, 0, 0, 0, 0, 0, 0, 0, 0, 0, 0, 0, 0, 0, 0, 0, 0, 0, 0, 0, 0, 0, 0, 0, 0, 0, 0, 0, 0, 0, 0, 0, 0, 0, 0, 0, 0, 0, 0, 0, 0, 0, 0, 0, 0, 0, 0, 0, 0]
abbrev zmQ_l2_M : List Nat := [0, 0, 0, 0, 1, 0, 0, 0, 0, 0, 0, 0, 0, 0, 0, 2, 0, 0, 0, 0, 0, 0, 0, 0, 0, 0, 0, 0, 0, 0, 0, 0, 0, 0, 0, 0, 0, 0, 0, 0, 0, 0, 0, 0, 0, 0, 0, 0, 0, 0, 0, 0, 0, 0, 0, 0, 0, 0, 0, 0, 0, 0, 0, 0, 0, 0, 0, 0, 0, 0, 0, 0, 0, 0, 0, 0, 0, 0, 0, 0, 0, 0, 0, 0, 0, 0, 0, 0, 0, 0, 0, 0, 0, 0, 0, 0, 0, 0, 0, 0, 0, 0, 0, 0, 0, 0, 0, 0, 0, 0, 0, 0, 0, 0, 0, 1, 1, 1, 1, 1, 1, 1, 1, 1, 1, 1, 1, 1, 1, 1, 1, 1, 1, 1, 1, 1, 1, 1, 1, 1, 1, 1, 1, 1, 1, 1, 1, 1, 1, 1, 1, 1, 1, 1, 1, 1, 1, 1, 1, 1, 1, 0, 0, 0, 0, 0, 0, 0, 0, 0, 0, 0, 0, 0, 0]
end Go.Proofs.Ytfmpaoolplnpjaa.A

namespace Go.Proofs.Ytfmpaoolplnpjaa.A
open Go Go.Vm
set_option maxRecDepth 10000
set_option linter.unusedVariables false
section
variable {P : Program} {ts : List Value} {h : Heap} {x y : Operand}
end
def zT : LT := ⟨0, 0, 0, 0, []⟩
theorem tcells_at : ∀ {l : List LT} {k : Nat}, k < l.length → ((tcells l).drop (k * 2)).take 2 = ([.int .i64 (l.getD k zT).id, .int .i64 (l.getD k zT).due] : List Value)
  | a :: l, 0, _ => rfl
  | a :: l, k + 1, hk => by
    have h2 := tcells_at (l := l) (k := k) (by simpa using hk)
    show (([.int .i64 a.id, .int .i64 a.due] ++ tcells l : List Value).drop ((k + 1) * 2)).take 2 = _
    rw [show (k + 1) * 2 = ([.int .i64 a.id, .int .i64 a.due] : List Value).length + k * 2 from by simp; omega, ← List.drop_drop, List.drop_left, h2]
    rfl
theorem tim_cells {h : Heap} {b o n k : Nat} {l : List LT} (hc : cellsAt h b o (n * 2) = some (tcells l)) (hn : l.length = n) (hk : k < n) : Cell h b (o + k * 2) (.int .i64 (l.getD k zT).id) ∧ Cell h b (o + k * 2 + 1) (.int .i64 (l.getD k zT).due) := by
  have h1 : cellsAt h b (o + k * 2) 2 = some [.int .i64 (l.getD k zT).id, .int .i64 (l.getD k zT).due] := by rw [cellsAt_sub hc (by omega), tcells_at (by omega)]
  exact ⟨⟨by have := cellsAt_sub (k := 0) (m := 1) h1 (by omega); exact this⟩, ⟨by have := cellsAt_sub (k := 1) (m := 1) h1 (by omega); exact this⟩⟩
theorem getD_mem {l : List LT} {k : Nat} (hk : k < l.length) : l.getD k zT ∈ l := by simp [List.getD, hk]
theorem srt_two {l : List LT} (hs : SrtT l) {i k : Nat} (hik : i < k) (hk : k < l.length) : (l.getD i zT).due < (l.getD k zT).due ∨ (l.getD i zT).due = (l.getD k zT).due ∧ (l.getD i zT).id < (l.getD k zT).id := by
  have h1 := List.pairwise_iff_getElem.1 hs i k (by omega) hk hik
  rw [show l.getD i zT = l[i]'(by omega) from by simp [List.getD, show i < l.length by omega], show l.getD k zT = l[k] from by simp [List.getD, hk]]
  simp only [ltK, decide_eq_true_eq] at h1
  exact h1
def cumS (L : List LT) (n : Nat) : Nat → Nat
  | 0 => 0
  | q + 1 => cumS L n q + (slotS L n ((q : Int) - 1)).length
theorem cum_eq (L : List LT) (n : Nat) : ∀ q, cumS L n q = (L.filter fun t => decide (slotOf n t.due + 1 < q)).length
  | 0 => by
    rw [List.filter_eq_nil_iff.2 (fun t ht => by simp)]
    rfl
  | q + 1 => by
    show cumS L n q + (slotS L n ((q : Int) - 1)).length = _
    rw [cum_eq L n q]
    unfold slotS
    induction L with
    | nil => rfl
    | cons t L ih =>
      simp only [List.filter_cons, decide_eq_true_eq]
      by_cases c1 : slotOf n t.due + 1 < q
      · rw [if_pos c1, if_neg (show ¬ ((slotOf n t.due : Nat) : Int) = (q : Int) - 1 by omega), if_pos (show slotOf n t.due + 1 < q + 1 by omega), List.length_cons, List.length_cons]
        omega
      · by_cases c2 : slotOf n t.due + 1 = q
        · rw [if_neg c1, if_pos (show ((slotOf n t.due : Nat) : Int) = (q : Int) - 1 by omega), if_pos (show slotOf n t.due + 1 < q + 1 by omega), List.length_cons, List.length_cons]
          omega
        · rw [if_neg c1, if_neg (show ¬ ((slotOf n t.due : Nat) : Int) = (q : Int) - 1 by omega), if_neg (show ¬ slotOf n t.due + 1 < q + 1 by omega)]
          exact ih
theorem cum_all (L : List LT) {n : Nat} (hn : 1 ≤ n) : cumS L n (n + 2) = L.length := by
  rw [cum_eq, List.filter_eq_self.2 fun t ht => by
    have := slot_lt (d := t.due) hn
    simp only [decide_eq_true_eq]
    omega]
theorem cum_le (L : List LT) (n q : Nat) : cumS L n q ≤ L.length := by
  rw [cum_eq]
  exact List.length_filter_le ..
def whenS (L : List LT) (k : Int) : Int × Bool := match findT k L with
  | some t => (t.due, true)
  | none => (0, false)
section
variable {h h' : Heap} {p n : Nat} {L : List LT} {W : Nat → Prop}
theorem wWhenV_ok {k : Int} (hv : WV h p n L W) : Runs Try.prog T0 (.fn fn_zxbQ) [.pointer (some ⟨p, 0, none⟩), .int .i64 k] h (fun r h' => r = .tuple ⟨[.int .i64 (whenS L k).1, .bool (whenS L k).2]⟩ ∧ h' = h) (fun _ _ => False) := by
  obtain ⟨m, c, u, S, l, hs, hp, hw⟩ := hv.kp
  refine Runs.mono (wWhen_ok (k := k) hs) (fun r h' hr => ?_) (fun _ _ h => h)
  obtain ⟨rfl, ⟨e, he, hk, rfl⟩ | ⟨hno, rfl⟩⟩ := hr
  · unfold whenS
    rw [wfind_l hp hv.nd he hk]
    exact ⟨rfl, rfl⟩
  · unfold whenS
    rw [wfind_no hp hno]
    exact ⟨rfl, rfl⟩
theorem WV.n1 (hv : WV h p n L W) : 1 ≤ n ∧ n ≤ 256 := by
  obtain ⟨m, c, u, S, l, hs, hp, hw⟩ := hv.kp
  exact ⟨hs.n1, hs.n2⟩
theorem WV.du (hv : WV h p n L W) : ∀ t ∈ L, 0 ≤ t.due := fun t ht => by
  obtain ⟨m, c, u, S, l, hs, hp, hw⟩ := hv.kp
  obtain ⟨e, he, rfl⟩ := List.mem_map.1 (hp.mem_iff.2 ht)
  exact (hs.du e he).1
end
set_option maxHeartbeats 100000000 in
theorem WheelSlots_true {h : Heap} {s0 : Int} {v : Value} {l : List Int} (hv : Rd h 1 v (ncells l) l.length) :
    Runs Try.prog T0 (.fn fn_zmQ) [.int .i64 s0, v] h (fun r h' => r = .bool true) (fun _ _ => False) := by
  obtain ⟨av, cv, rfl, hvl, hvc⟩ := id hv
  have hpr := pick_range (x := s0) (n := 256) (by omega)
  refine zmQ_runs ?_
  refine stp ?_
  refine O.call' zkQ_known (fun r h0 hr => ?_)
  obtain ⟨rfl, rfl⟩ := hr
  refine stp ?_
  refine C.if (fun hlong => ?_) (fun hlong => ?_)
  · refine stp ?_
    rfl
  have hl : l.length ≤ 60 := by omega
  refine stp ?_
  refine O.call' (filled_ok hv (by omega)) (fun r h1 hr => ?_)
  obtain ⟨f1, p, n, W, rfl, hx, hn, hW⟩ := hr
  have n1 := f1.n
  have hWl := fun {i : Nat} (hi : W i) => hx.lt hi
  have hfl := filS_len l l.length
  obtain ⟨hn1, hn2⟩ := hx.n1
  have hdu := hx.du
  have hnd := hx.nd
  have hso := hx.so
  refine stp ?_
  refine O.call' (Pick_ok (by omega)) (fun r h3 hr => ?_)
  obtain ⟨rfl, rfl⟩ := hr
  generalize hL : filS l l.length = L at *
  have hLl : L.length = l.length := hfl
  have hcl := fun q => cum_le L n q
  have hca := cum_all L hn1
  refine stp ?_
  rw [← hn]
  refine loop2 zmQ_l1_M 8 9 (fun m v8 v9 hx => ∃ q : Nat, q ≤ n + 2 ∧ m = n + 2 - q ∧ v8 = .int .i64 (cumS L n q : Nat) ∧ v9 = .int .i64 ((q : Int) - 1) ∧ Fr (fun _ => False) h3 hx) ?_ (n + 2) ⟨0, by omega, rfl, rfl, rfl, Fr.refl⟩
  rintro m v8 v9 h' x4 x10 x11 x12 x13 x29 x30 x31 x32 x33 x34 x35 x36 x37 x38 x39 x40 x41 x42 x43 x44 x45 x46 x47 x48 x49 x50 x51 x52 x53 x54 x55 x56 x57 x58 x59 x60 x61 x62 x63 x64 x65 x66 x67 x68 x69 x70 x71 x72 x73 x74 x75 x76 x77 x78 x79 x80 x81 x82 x83 x84 x85 x86 x87 x88 x89 x90 x91 x92 x93 x94 x95 x96 x97 x98 x99 x100 x101 x102 x103 x104 x105 x106 x107 x108 x109 x110 x111 x112 ⟨q, hq, rfl, rfl, rfl, hF⟩
  have hxq := hx.keep hF fun _ _ => id
  rcases Nat.lt_or_ge q (n + 2) with hlt | hge
  · haveI q1 : ∀ {ts : List Value} {h : Heap} {Q0 : Oper} {x z : Operand} [Ev ts x (.int .i64 ((q : Int) - 1))] [Ev ts z (.int .i64 (n : Nat))], XOp Try.prog ts h (.bin .leq Q0 x z) (.bool true) h := xleq1 (by omega)
    refine stp ?_
    refine O.call' (wSlot_ok hxq (by omega)) (fun r h4 hr => ?_)
    obtain ⟨o4, m4, f4⟩ := hr
    have F4 := hF.trans' f4
    have hx4 := hx.keep F4 fun _ _ => id
    have hsl : (slotS L n ((q : Int) - 1)).length ≤ L.length := List.length_filter_le ..
    have hcq := hcl q
    have hcq1 : cumS L n (q + 1) = cumS L n q + (slotS L n ((q : Int) - 1)).length := rfl
    have hsm : ∀ t ∈ slotS L n ((q : Int) - 1), t ∈ L ∧ ((slotOf n t.due : Nat) : Int) = (q : Int) - 1 := fun t ht => by
      obtain ⟨k1, k2⟩ := List.mem_filter.1 ht
      exact ⟨k1, by simpa using k2⟩
    have hss : SrtT (slotS L n ((q : Int) - 1)) := hso.filter _
    obtain ⟨aS, cS, eS, _, hcs⟩ := id o4.rd
    subst eS
    generalize slotS L n ((q : Int) - 1) = X at *
    refine stp ?_
    refine loop1 zmQ_l0_M 11 (fun m v11 hx => ∃ k : Nat, k ≤ X.length ∧ m = X.length - k ∧ v11 = .int .i64 k ∧ hx = h4) ?_ X.length ⟨0, by omega, rfl, rfl, rfl⟩
    rintro m v11 h' x4 x12 x13 x41 x42 x43 x44 x45 x46 x47 x48 x49 x50 x51 x52 x53 x54 x55 x56 x57 x58 x59 x60 x61 x62 x63 x64 x65 x66 x67 x68 x69 x70 x71 x72 x73 x74 x75 x76 x77 x78 x79 x80 x81 x82 x83 x84 x85 x86 x87 x88 x89 x90 x91 x92 x93 x94 x95 x96 x97 x98 x99 x100 x101 x102 x103 x104 x105 x106 x107 x108 x109 x110 x111 x112 ⟨k, hk, rfl, rfl, rfl⟩
    rcases Nat.lt_or_ge k X.length with hkt | hkg
    · haveI q2 : ∀ {ts : List Value} {h : Heap} {Q0 : Oper} {x z : Operand} [Ev ts x (.int .i64 (k : Nat))] [Ev ts z (.int .i64 (X.length : Nat))], XOp Try.prog ts h (.bin .lss Q0 x z) (.bool true) h := xlss1 (by omega)
      obtain ⟨b, o, sp, rfl, hb, hcc⟩ := hcs (by omega)
      obtain ⟨ci, cd⟩ := tim_cells hcc rfl hkt
      obtain ⟨hm1, hm2⟩ := hsm _ (getD_mem hkt)
      have hwh := wWhenV_ok (k := (X.getD k zT).id) hx4
      have e1 : whenS L (X.getD k zT).id = ((X.getD k zT).due, true) := by unfold whenS; rw [find_of hnd hm1 rfl]
      rw [e1] at hwh
      have hmod := slot_mod (d := (X.getD k zT).due) hn1 (hdu _ hm1)
      rw [hm2] at hmod
      haveI := ci
      haveI := cd
      haveI q3 : ∀ {ts : List Value} {h : Heap} {Q0 : Oper} {x z : Operand} [Ev ts x (.int .i64 (X.getD k zT).due)] [Ev ts z (.int .i64 (X.getD k zT).due)], XOp Try.prog ts h (.bin .neq Q0 x z) (.bool false) h := xneqI0 rfl
      haveI q4 : ∀ {ts : List Value} {h : Heap} {Q0 : Oper} {x z : Operand} [Ev ts x (.int .i64 ((X.getD k zT).due.tmod (n : Int)))] [Ev ts z (.int .i64 ((q : Int) - 1))], XOp Try.prog ts h (.bin .neq Q0 x z) (.bool false) h := xneqI0 hmod
      rcases Nat.eq_zero_or_pos k with k0 | k0
      · haveI q7 : ∀ {ts : List Value} {h : Heap} {Q0 : Oper} {x z : Operand} [Ev ts x (.int .i64 (k : Nat))] [Ev ts z (.int .i64 0)], XOp Try.prog ts h (.bin .gtr Q0 x z) (.bool false) h := xgtr0 (by omega)
        refine stp ?_
        refine O.call' hwh (fun r h5 hr => ?_)
        obtain ⟨rfl, rfl⟩ := hr
        refine stp ?_
        repeat (first | (refine D.howT (XOp.mkIndexSl (by omega)) rfl ?_; refine stp ?_) | (refine D.howT (XOp.remI (by omega)) rfl ?_; refine stp ?_))
        exact loop1a 11 (X.length - (k + 1)) (by omega) ⟨k + 1, by omega, rfl, rfl, rfl⟩
      obtain ⟨j, rfl⟩ : ∃ j, k = j + 1 := ⟨k - 1, by omega⟩
      obtain ⟨di, dd⟩ := tim_cells hcc rfl (show j < X.length by omega)
      have hst := srt_two hss (i := j) (k := j + 1) (by omega) hkt
      haveI ij : ∀ {o : Nat}, IdxOff o (((j + 1 : Nat) : Int) - 1) 2 (o + j * 2) := fun {o} => ⟨by simp⟩
      haveI := di
      haveI := dd
      generalize X.getD j zT = tY at *
      generalize X.getD (j + 1) zT = tZ at *
      haveI q7 : ∀ {ts : List Value} {h : Heap} {Q0 : Oper} {x z : Operand} [Ev ts x (.int .i64 ((j + 1 : Nat) : Int))] [Ev ts z (.int .i64 0)], XOp Try.prog ts h (.bin .gtr Q0 x z) (.bool true) h := xgtr1 (by omega)
      haveI q8 : ∀ {ts : List Value} {h : Heap} {Q0 : Oper} {x z : Operand} [Ev ts x (.int .i64 tY.due)] [Ev ts z (.int .i64 tZ.due)], XOp Try.prog ts h (.bin .gtr Q0 x z) (.bool false) h := xgtr0 (by omega)
      by_cases hyz : tY.due = tZ.due
      · haveI q9 : ∀ {ts : List Value} {h : Heap} {Q0 : Oper} {x z : Operand} [Ev ts x (.int .i64 tY.due)] [Ev ts z (.int .i64 tZ.due)], XOp Try.prog ts h (.bin .eql Q0 x z) (.bool true) h := xeql1 hyz
        haveI qB : ∀ {ts : List Value} {h : Heap} {Q0 : Oper} {x z : Operand} [Ev ts x (.int .i64 tY.id)] [Ev ts z (.int .i64 tZ.id)], XOp Try.prog ts h (.bin .geq Q0 x z) (.bool false) h := xgeq0 (by omega)
        refine stp ?_
        refine O.call' hwh (fun r h5 hr => ?_)
        obtain ⟨rfl, rfl⟩ := hr
        refine stp ?_
        repeat (first | (refine D.howT (XOp.mkIndexSl (by omega)) rfl ?_; refine stp ?_) | (refine D.howT (XOp.remI (by omega)) rfl ?_; refine stp ?_))
        exact loop1a 11 (X.length - (j + 1 + 1)) (by omega) ⟨j + 1 + 1, by omega, rfl, rfl, rfl⟩
      · haveI q9 : ∀ {ts : List Value} {h : Heap} {Q0 : Oper} {x z : Operand} [Ev ts x (.int .i64 tY.due)] [Ev ts z (.int .i64 tZ.due)], XOp Try.prog ts h (.bin .eql Q0 x z) (.bool false) h := xeql0 hyz
        refine stp ?_
        refine O.call' hwh (fun r h5 hr => ?_)
        obtain ⟨rfl, rfl⟩ := hr
        refine stp ?_
        repeat (first | (refine D.howT (XOp.mkIndexSl (by omega)) rfl ?_; refine stp ?_) | (refine D.howT (XOp.remI (by omega)) rfl ?_; refine stp ?_))
        exact loop1a 11 (X.length - (j + 1 + 1)) (by omega) ⟨j + 1 + 1, by omega, rfl, rfl, rfl⟩
    · haveI q2 : ∀ {ts : List Value} {h : Heap} {Q0 : Oper} {x z : Operand} [Ev ts x (.int .i64 (k : Nat))] [Ev ts z (.int .i64 (X.length : Nat))], XOp Try.prog ts h (.bin .lss Q0 x z) (.bool false) h := xlss0 (by omega)
      refine stp ?_
      exact loop2a 8 9 (n + 2 - (q + 1)) (by omega) ⟨q + 1, by omega, rfl, by rw [hcq1]; rfl, by simp, F4⟩
  obtain rfl : q = n + 2 := by omega
  haveI q1 : ∀ {ts : List Value} {h : Heap} {Q0 : Oper} {x z : Operand} [Ev ts x (.int .i64 (((n + 2 : Nat) : Int) - 1))] [Ev ts z (.int .i64 (n : Nat))], XOp Try.prog ts h (.bin .leq Q0 x z) (.bool false) h := xleq0 (by omega)
  refine stp ?_
  refine O.call' (wList_ok hxq (by omega)) (fun r h5 hr => ?_)
  obtain ⟨o5, m5, f5⟩ := hr
  obtain ⟨aS, cS, eS, _, hcs⟩ := id o5.rd
  subst eS
  refine stp ?_
  refine loop1 zmQ_l2_M 15 (fun m v15 hx => ∃ k : Nat, 1 ≤ k ∧ k ≤ L.length + 1 ∧ m = L.length + 1 - k ∧ v15 = .int .i64 k ∧ hx = h5) ?_ L.length ⟨1, by omega, by omega, by omega, rfl, rfl⟩
  rintro m v15 h' x4 x115 x116 x117 x118 x119 x120 x121 x122 x123 x124 x125 x126 x127 x128 x129 x130 x131 x132 x133 x134 x135 x136 x137 x138 x139 x140 x141 x142 x143 x144 x145 x146 x147 x148 x149 x150 x151 x152 x153 x154 x155 x156 x157 x158 x159 x160 ⟨k, hk1, hk, rfl, rfl, rfl⟩
  rcases Nat.lt_or_ge k L.length with hkt | hkg
  · haveI q2 : ∀ {ts : List Value} {h : Heap} {Q0 : Oper} {x z : Operand} [Ev ts x (.int .i64 (k : Nat))] [Ev ts z (.int .i64 (L.length : Nat))], XOp Try.prog ts h (.bin .lss Q0 x z) (.bool true) h := xlss1 (by omega)
    obtain ⟨b, o, sp, rfl, hb, hcc⟩ := hcs (by omega)
    obtain ⟨j, rfl⟩ : ∃ j, k = j + 1 := ⟨k - 1, by omega⟩
    obtain ⟨ci, cd⟩ := tim_cells hcc rfl hkt
    obtain ⟨di, dd⟩ := tim_cells hcc rfl (show j < L.length by omega)
    have hst := srt_two hso (i := j) (k := j + 1) (by omega) hkt
    haveI ij : ∀ {o : Nat}, IdxOff o (((j + 1 : Nat) : Int) - 1) 2 (o + j * 2) := fun {o} => ⟨by simp⟩
    haveI := di
    haveI := dd
    haveI := ci
    haveI := cd
    generalize L.getD j zT = tY at *
    generalize L.getD (j + 1) zT = tZ at *
    haveI q8 : ∀ {ts : List Value} {h : Heap} {Q0 : Oper} {x z : Operand} [Ev ts x (.int .i64 tY.due)] [Ev ts z (.int .i64 tZ.due)], XOp Try.prog ts h (.bin .gtr Q0 x z) (.bool false) h := xgtr0 (by omega)
    by_cases hyz : tY.due = tZ.due
    · haveI q9 : ∀ {ts : List Value} {h : Heap} {Q0 : Oper} {x z : Operand} [Ev ts x (.int .i64 tY.due)] [Ev ts z (.int .i64 tZ.due)], XOp Try.prog ts h (.bin .eql Q0 x z) (.bool true) h := xeql1 hyz
      haveI qB : ∀ {ts : List Value} {h : Heap} {Q0 : Oper} {x z : Operand} [Ev ts x (.int .i64 tY.id)] [Ev ts z (.int .i64 tZ.id)], XOp Try.prog ts h (.bin .geq Q0 x z) (.bool false) h := xgeq0 (by omega)
      refine stp ?_
      repeat (refine D.howT (XOp.mkIndexSl (by omega)) rfl ?_; refine stp ?_)
      exact loop1a 15 (L.length + 1 - (j + 1 + 1)) (by omega) ⟨j + 1 + 1, by omega, by omega, rfl, rfl, rfl⟩
    · haveI q9 : ∀ {ts : List Value} {h : Heap} {Q0 : Oper} {x z : Operand} [Ev ts x (.int .i64 tY.due)] [Ev ts z (.int .i64 tZ.due)], XOp Try.prog ts h (.bin .eql Q0 x z) (.bool false) h := xeql0 hyz
      refine stp ?_
      repeat (refine D.howT (XOp.mkIndexSl (by omega)) rfl ?_; refine stp ?_)
      exact loop1a 15 (L.length + 1 - (j + 1 + 1)) (by omega) ⟨j + 1 + 1, by omega, by omega, rfl, rfl, rfl⟩
  haveI q2 : ∀ {ts : List Value} {h : Heap} {Q0 : Oper} {x z : Operand} [Ev ts x (.int .i64 (k : Nat))] [Ev ts z (.int .i64 (L.length : Nat))], XOp Try.prog ts h (.bin .lss Q0 x z) (.bool false) h := xlss0 (by omega)
  haveI qF : ∀ {ts : List Value} {h : Heap} {Q0 : Oper} {x z : Operand} [Ev ts x (.int .i64 (cumS L n (n + 2) : Nat))] [Ev ts z (.int .i64 (l.length : Nat))], XOp Try.prog ts h (.bin .eql Q0 x z) (.bool true) h := xeql1 (by rw [hca, hLl])
  haveI qG : ∀ {ts : List Value} {h : Heap} {Q0 : Oper} {x z : Operand} [Ev ts x (.int .i64 (L.length : Nat))] [Ev ts z (.int .i64 (l.length : Nat))], XOp Try.prog ts h (.bin .eql Q0 x z) (.bool true) h := xeql1 (by rw [hLl])
  refine stp ?_
  rfl
end Go.Proofs.Ytfmpaoolplnpjaa.A

namespace Go.Proofs.Ytfmpaoolplnpjaa.A
open Go Go.Vm
set_option maxRecDepth 100000
set_option linter.unusedVariables false
theorem ints_fit {h : Heap} {m : Nat} {te : TypeId} (hu : Try.prog.underlying te = some (.int .i64)) : ∀ (len : Nat) (c : List Value), c.length = len → (∀ i, i < len → Fits Try.prog h (m + 1) te ((c.drop (i * 1)).take 1)) → ∃ l : List Int, c = ncells l ∧ l.length = len
  | 0, c, hl, _ => ⟨[], by simpa [ncells] using hl, rfl⟩
  | len + 1, v :: c, hl, hall => by
    have h0 := hall 0 (by omega)
    unfold Fits at h0
    rw [hu] at h0
    obtain ⟨x, hx, _⟩ := h0
    simp only [Nat.zero_mul, List.drop_zero, List.take_succ_cons, List.take_zero] at hx
    injection hx with hx _
    obtain ⟨l, e1, e2⟩ := ints_fit hu len c (by simpa using hl) fun i hi => by
      have := hall (i + 1) (by omega)
      simpa [Nat.add_mul] using this
    exact ⟨x :: l, by rw [hx, e1]; rfl, by simp [e2]⟩
theorem fits_ints {h : Heap} {m : Nat} {t te : TypeId} {v : Value} (ht : Try.prog.underlying t = some (.slice te)) (hu : Try.prog.underlying te = some (.int .i64)) (hs : Try.prog.cellsOf te = 1) (hv : FitsV Try.prog h (m + 2) t v) : ∃ l : List Int, Rd h 1 v (ncells l) l.length := by
  unfold FitsV at hv
  rw [ht] at hv
  unfold Fits at hv
  rw [ht] at hv
  rcases hv with hv | ⟨b, len, cap, c, hv, hb, hlc, hcap, hro, hl, hall⟩
  · injection hv with hv
    subst hv
    exact ⟨[], Rd.nil⟩
  · injection hv with hv
    subst hv
    rw [hs] at hl hall
    obtain ⟨l, rfl, hbl⟩ := ints_fit hu len c (by omega) hall
    have hl2 : (ncells l).length = l.length := by simp [ncells]
    refine ⟨l, _, _, by rw [hbl], by rw [hl2]; omega, fun hn => ⟨b, 0, none, rfl, hb, ?_⟩⟩
    rw [cellsAt_of (c := ncells l) (by rw [hro (by omega)]; rfl) (by rw [hl2]; omega), List.drop_zero, List.take_of_length_le (by rw [hl2]; omega)]
end Go.Proofs.Ytfmpaoolplnpjaa.A

namespace Go.Proofs.Ytfmpaoolplnpjaa.A
open Go Go.Vm
set_option maxRecDepth 100000
set_option linter.unusedVariables false
theorem WheelSlots_run (h : Heap) (vs : List Value) (hf : FitsAll Try.prog h 8 [3, 34] vs) : Runs Try.prog T0 (.fn fn_zmQ) vs h (fun r _ => r = .bool true) (fun _ _ => False) := by
  obtain ⟨v1, _, rfl, h1, hf⟩ := hf.cons
  obtain ⟨v2, _, rfl, h2, hf⟩ := hf.cons
  obtain rfl := hf.nil
  obtain ⟨s0, rfl, _⟩ := FitsV.int (k := .i64) h1 (by kernel_rfl)
  obtain ⟨l, hl⟩ := fits_ints (te := 3) (by kernel_rfl) (by kernel_rfl) (by kernel_rfl) h2
  exact WheelSlots_true hl
end Go.Proofs.Ytfmpaoolplnpjaa.A
