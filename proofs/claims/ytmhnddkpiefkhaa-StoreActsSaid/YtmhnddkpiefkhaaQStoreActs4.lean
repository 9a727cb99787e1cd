/- Contracts of functions, over the machine. -/
import Derived.Test.YtmhnddkpiefkhaaQStoreActs3
import Derived.Test.YtmhnddkpiefkhaaVK
set_option linter.unusedSimpArgs false
noncomputable section
namespace Go.Proofs.Ytmhnddkpiefkhaa.A
open Go Go.Vm
set_option maxRecDepth 10000
set_option linter.unusedVariables false
section
variable {P : Program} {T : Table} {ts : List Value} {ds : List Deferred} {h : Heap} {rd : Option Nat} {d el : Nat} {chk : List (Option Nat × AOp × Option (Nat × Bool))} {pan : Bool} {rest : List AOper} {Q : QP} {F : Value → List Value}
theorem D.litC [s : LSetF ts d F] (hc : ∀ g, Fr (fun _ => False) h g → g.n = h.n + 1 → chk.all (stable P (F (.slice (some ⟨h.n, 0, none⟩) 0 0)) g) = true)
    (hk : ∀ g p, p = h.n → g.n = h.n + 1 → (∀ size, Own g size (.slice (some ⟨p, 0, none⟩) 0 0) [] 0) → Fr (fun _ => False) h g → RunD P T rest ⟨F (.slice (some ⟨p, 0, none⟩) 0 0), ds, g, rd⟩ Q) :
    RunD P T (⟨some d, .buildSlice el [] 0 [], none, chk, pan⟩ :: rest) ⟨ts, ds, h, rd⟩ Q := by
  haveI : LSet ts d (.slice (some ⟨h.n, 0, none⟩) 0 0) (F (.slice (some ⟨h.n, 0, none⟩) 0 0)) := ⟨s.eq _⟩
  exact D.one (h' := h.push (.cells [] 0)) (v := .slice (some ⟨h.n, 0, none⟩) 0 0) (hc _ Fr.refl.push rfl) (hk _ _ rfl rfl (fun size => .lit (by simp) (by rw [Heap.get_push, if_pos rfl])) Fr.refl.push)
end
section
variable {P : Program} {ts : List Value} {h : Heap} {x y : Operand}
theorem xgeq1 {p q : Int} {O : Oper} (hp : q ≤ p) [e1 : Ev ts x (.int .i64 p)] [e2 : Ev ts y (.int .i64 q)] : XOp P ts h (.bin .geq O x y) (.bool true) h := by
  have := (XOp.geqI : XOp P ts h (.bin .geq O x y) (.bool (decide (q ≤ p))) h)
  rw [decide_eq_true hp] at this
  exact this
end
def PosP (L : List DE) (k : Int) (a : Nat) : Prop := a ≤ L.length ∧ (∀ j, j < a → (L.getD j zDE).k < k) ∧ (a < L.length → ¬ (L.getD a zDE).k < k)
def DPutRel (room : Int) (L : List DE) (x : Bk) (gone e : Int) (L' : List DE) : Prop :=
  (x.h.height < 1 ∨ 1073741824 < x.h.height) ∧ gone = 0 ∧ e = 13 ∧ L' = L ∨
  (1 ≤ x.h.height ∧ x.h.height ≤ 1073741824) ∧
    ((∃ y ∈ L, y.k = x.h.height) ∧ gone = 0 ∧ e = 8 ∧ L' = L ∨
     (∀ y ∈ L, y.k ≠ x.h.height) ∧
       (room ≤ L.length ∧ vicN L L.length < 0 ∧ gone = 0 ∧ e = 7 ∧ L' = L ∨
        ∃ (L1 : List DE) (a : Nat) (n : DE), n.x = x ∧ n.v = false ∧ n.p = false ∧ e = 0 ∧ PosP L1 x.h.height a ∧ L' = L1.take a ++ n :: L1.drop a ∧
          ((L.length : Int) < room ∧ gone = 0 ∧ L1 = L ∨ room ≤ L.length ∧ ∃ i : Nat, i < L.length ∧ vicN L L.length = i ∧ gone = (L.getD i zDE).k ∧ L1 = L.take i ++ L.drop (i + 1))))
theorem pb_new {h : Heap} {e : PB} (he : (e.x.cells e.sv e.sl).length = 166) {es : Nat} : Rd (h.push (.cells (e.x.cells e.sv e.sl) es)) 166 (.slice (some ⟨h.n, 0, none⟩) 1 1) (pbcells [e]) 1 := by
  have e1 : pbcells [e] = e.x.cells e.sv e.sl := by simp [pbcells]
  rw [e1]
  exact Rd.mk (size := 166) (n := 1) (cap := 1) (sp := none) (o := 0) (b := h.n) (c := e.x.cells e.sv e.sl) (by simp) (by rw [cellsAt_of (c := e.x.cells e.sv e.sl) (by rw [Heap.get_push, if_pos rfl]; rfl) (by omega), List.drop_zero, List.take_of_length_le (by omega)])
theorem block_own {v : Value} {i : Nat} (h : blockOf v i) : ownedBy v i := by
  match v, h with
  | .slice (some a) n c, h => exact h.1
set_option maxHeartbeats 400000000 in
theorem dPut_ok {h : Heap} {d : Nat} {room : Int} {L : List DE} {vB vK : Value} {x : Bk} {sv sl : Value} (hs : DAt h d room L vB vK) (hl : L.length < 100000) (hb : BkRd h x sv sl) (hv : x.c.votes.length ≤ 70) (hw : x.vals.length ≤ 70) (hbd : ∀ i, blockOf sv i ∨ blockOf sl i → i ≠ d) :
    Runs Try.prog T0 (.fn fn_zebQ) [.pointer (some ⟨d, 0, none⟩), .agg ⟨x.cells sv sl⟩] h
      (fun r h' => ∃ gone e L' vB' vK', r = .tuple ⟨[.int .i64 gone, .int .i64 e]⟩ ∧ DPutRel room L x gone e L' ∧ DAt h' d room L' vB' vK' ∧ Fr (fun j => j = d) h h' ∧ (∀ j, DOwn d vB' vK' j → DOwn d vB vK j ∨ h.n ≤ j) ∧ ∀ j, DIn L' j → DIn L j ∨ h.n ≤ j) (fun _ _ => False) := by
  have hx := hb.hd
  have hch := hb.hash
  haveI := l32 hx.prev
  haveI := l32 hx.vals
  haveI := l32 hx.next
  haveI := l32 hx.app
  haveI := l32 hch
  obtain ⟨a1, c1, rfl, _, _⟩ := id hb.sv
  obtain ⟨a2, c2, rfl, _, _⟩ := id hb.sl
  refine zebQ_runs ?_
  refine stp ?_
  generalize hX : Value.slice a1 x.c.votes.length c1 = xv at *
  generalize hX' : Value.slice a2 x.vals.length c2 = xl at *
  have gA : (h.push (.cells (x.cells xv xl) 0)).get h.n = .cells (x.cells xv xl) 0 := HGet.new.eq
  have F0 : Fr (fun _ => False) h (h.push (.cells (x.cells xv xl) 0)) := Fr.refl.push
  have n0 : (h.push (.cells (x.cells xv xl) 0)).n = h.n + 1 := rfl
  generalize h.push (.cells (x.cells xv xl) 0) = h0 at *
  have hs0 := hs.keep F0 (fun _ _ => id) (fun _ _ => id)
  have hb0 := hb.keep F0 fun _ _ => id
  haveI : HGet h0 h.n _ := ⟨gA⟩
  haveI : HGet h0 d _ := ⟨hs0.gd⟩
  have hd := hs.dl
  have FM0 : Fr (fun j => j = d) h h0 := F0.mono fun _ _ e => e.elim
  refine stp ?_
  refine O.dec (fun g1 => ?_) (fun g1 => ?_)
  · refine stp ?_
    exact ⟨0, 13, L, _, _, rfl, .inl ⟨.inl g1, rfl, rfl, rfl⟩, hs0, FM0, fun j hj => .inl hj, fun j hj => .inl hj⟩
  refine stp ?_
  refine C.if (fun g2 => ?_) (fun g2 => ?_)
  · refine stp ?_
    exact ⟨0, 13, L, _, _, rfl, .inl ⟨.inr g2, rfl, rfl, rfl⟩, hs0, FM0, fun j hj => .inl hj, fun j hj => .inl hj⟩
  have hin : 1 ≤ x.h.height ∧ x.h.height ≤ 1073741824 := ⟨by omega, by omega⟩
  refine stp ?_
  refine O.call' (at_ok (k := x.h.height) hs0 hl) (fun r h1 hr => ?_)
  obtain ⟨rfl, ⟨i, hi, hik, rfl⟩ | ⟨hne, rfl⟩⟩ := hr
  · haveI q1 : ∀ {ts : List Value} {h : Heap} {O : Oper} {x y : Operand} [Ev ts x (.int .i64 (i : Int))] [Ev ts y (.int .i64 0)], XOp Try.prog ts h (.bin .geq O x y) (.bool true) h := xgeq1 (by omega)
    refine stp ?_
    exact ⟨0, 8, L, _, _, rfl, .inr ⟨hin, .inl ⟨⟨_, List.getElem_mem hi, hik⟩, rfl, rfl, rfl⟩⟩, hs0, FM0, fun j hj => .inl hj, fun j hj => .inl hj⟩
  refine stp ?_
  obtain ⟨aK, cK, eK, _, _⟩ := id hs0.oK.rd
  subst eK
  refine stp ?_
  refine cut1 [0, 0, 0, 0, 0, 0, 0, 2, 1, 0, 0, 0, 0, 0, 0, 0, 0, 0, 0, 0, 0, 0, 0, 0, 0, 0, 0, 0, 0, 0, 0, 0, 0, 0, 0, 0, 0, 1, 1, 1, 1, 1, 1, 1, 1, 1, 1, 1, 1, 1, 1, 1, 0, 0, 0, 0, 0, 0, 0, 0, 0, 0, 0, 0, 0, 0, 0, 0, 0, 0, 0, 0, 0, 0, 0, 0, 0, 0, 0, 0, 0, 0, 0, 0, 0, 0, 0, 0, 0, 0, 0, 0, 0, 0, 0, 0, 0, 0, 0, 0, 0, 0, 0, 0, 0, 0, 0, 0, 0, 0, 0, 0, 0, 0, 0, 0, 0, 0, 0, 0, 0, 0, 0, 0] .normal (fun v hg => ∃ (gone : Int) (L1 : List DE) (vB1 vK1 : Value), v = .int .i64 gone ∧ DAt hg d room L1 vB1 vK1 ∧ Fr (fun j => j = d) h hg ∧ L1.length < 100000 ∧ (∀ e ∈ L1, e ∈ L) ∧ (∀ (a : Nat) (n : DE), n.x = x → n.v = false → n.p = false → PosP L1 x.h.height a → DPutRel room L x gone 0 (L1.take a ++ n :: L1.drop a)) ∧ hg.get h.n = .cells (x.cells xv xl) 0 ∧ h.n < hg.n) ?_ ?_
  · refine C.if (fun hfull => ?_) (fun hfree => ?_)
    · refine stp ?_
      refine O.call' (victim_ok hs0 hl) (fun r h2 hr => ?_)
      obtain ⟨rfl, rfl⟩ := hr
      refine stp ?_
      refine C.if (fun hz => ?_) (fun hz => ?_)
      · refine stp ?_
        refine cutQ1.pass ?_
        refine stp ?_
        exact ⟨0, 7, L, _, _, rfl, .inr ⟨hin, .inr ⟨hne, .inl ⟨hfull, hz, rfl, rfl, rfl⟩⟩⟩, hs0, FM0, fun j hj => .inl hj, fun j hj => .inl hj⟩
      obtain ⟨i, hiL, hvi⟩ : ∃ i : Nat, i < L.length ∧ vicN L L.length = i := by
        rcases vic_ok L L.length with ⟨h1, _⟩ | ⟨n, h1, h2, _⟩
        · omega
        · exact ⟨n, h1, h2⟩
      rw [hvi]
      refine stp ?_
      obtain ⟨b, o, sp, rfl, hb', hcc⟩ : ∃ b o sp, aK = some ⟨b, o, sp⟩ ∧ b < h2.n ∧ cellsAt h2 b o (L.length * 3) = some (kkcells (L.map DE.kk)) := by
        obtain ⟨a', c', e', _, hc'⟩ := hs0.oK.rd
        injection e' with e1 _ _
        subst e1
        exact hc' (by omega)
      obtain ⟨d0, _, _⟩ := de_cells hcc hiL
      haveI := d0
      refine stp ?_
      refine O.call' (take_ok hs0 hl hiL) (fun r hg hr => ?_)
      obtain ⟨vB1, vK1, hs1, f1, ho1⟩ := hr
      refine stp ?_
      have hl1 : (L.take i ++ L.drop (i + 1)).length < 100000 := by rw [List.length_append, List.length_take, List.length_drop]; omega
      exact cutQ1.out 7 ⟨_, _, _, _, rfl, hs1, FM0.trans' f1, hl1, fun e he => (List.mem_append.1 he).elim List.mem_of_mem_take List.mem_of_mem_drop, fun a n q1 q2 q3 q4 =>
        .inr ⟨hin, .inr ⟨hne, .inr ⟨_, a, n, q1, q2, q3, rfl, q4, rfl, .inr ⟨hfull, i, hiL, hvi, rfl, rfl⟩⟩⟩⟩, by rw [f1.get _ (by omega) (by omega)]; exact gA, by have := f1.n; omega⟩
    · refine stp ?_
      exact cutQ1.out 7 ⟨0, L, _, _, rfl, hs0, FM0, hl, fun e he => he, fun a n q1 q2 q3 q4 =>
        .inr ⟨hin, .inr ⟨hne, .inr ⟨_, a, n, q1, q2, q3, rfl, q4, rfl, .inl ⟨by omega, rfl, rfl⟩⟩⟩⟩, gA, by omega⟩
  intro v7 hg x8 x37 x38 x39 x40 x41 x42 x43 x44 x45 x46 x47 x48 x49 x50 x51 ⟨gone, L1, vB1, vK1, e7, hs1, Ff, hl1, hsub, hrel, gX, hltg⟩
  subst e7
  refine stp ?_
  refine cut1 [0, 0, 0, 0, 0, 0, 0, 0, 0, 2, 0, 0, 0, 0, 0, 0, 0, 0, 0, 0, 0, 0, 0, 0, 0, 0, 0, 0, 0, 0, 0, 0, 0, 0, 0, 0, 0, 0, 0, 0, 0, 0, 0, 0, 0, 0, 0, 0, 0, 0, 0, 0, 1, 1, 1, 1, 1, 1, 1, 1, 1, 1, 1, 1, 1, 1, 1, 1, 1, 1, 1, 1, 1, 0, 0, 0, 0, 0, 0, 0, 0, 0, 0, 0, 0, 0, 0, 0, 0, 0, 0, 0, 0, 0, 0, 0, 0, 0, 0, 0, 0, 0, 0, 0, 0, 0, 0, 0, 0, 0, 0, 0, 0, 0, 0, 0, 0, 0, 0, 0, 0, 0, 0, 0] (.exit 1) (fun v hx => ∃ a : Nat, v = .int .i64 a ∧ PosP L1 x.h.height a ∧ hx = hg) ?_ ?_
  · refine loop1 zebQ_l0_M 9 (fun q v9 hx => ∃ a : Nat, a ≤ L1.length ∧ q = L1.length - a ∧ v9 = .int .i64 a ∧ (∀ j, j < a → (L1.getD j zDE).k < x.h.height) ∧ hx = hg) ?_ L1.length ⟨0, by omega, rfl, rfl, fun j hj => by omega, rfl⟩
    rintro m v9 h' x52 x53 x54 x55 x56 x57 x58 x59 x60 x61 x62 x63 x64 x65 x66 x67 x68 x69 x70 x71 x72 ⟨a, ha, rfl, rfl, hlow, rfl⟩
    haveI : HGet h' d _ := ⟨hs1.gd⟩
    obtain ⟨aB1, cB1, rfl, _, _⟩ := id hs1.oB.rd
    obtain ⟨aK1, cK1, rfl, _, hc1⟩ := id hs1.oK.rd
    refine stp ?_
    refine O.dec (fun hlt => ?_) (fun hge => ?_)
    · have hlt : a < L1.length := by omega
      obtain ⟨bK, oK, spK, rfl, hbK, hccK⟩ := hc1 (by omega)
      obtain ⟨d0, _, _⟩ := de_cells hccK hlt
      haveI := d0
      refine stp ?_
      refine C.if (fun hk => ?_) (fun hk => ?_)
      · refine stp ?_
        refine loop1a 9 (L1.length - (a + 1)) (by omega) ⟨a + 1, by omega, rfl, rfl, fun j hj => ?_, rfl⟩
        rcases Nat.lt_or_eq_of_le (Nat.le_of_lt_succ hj) with h7 | h7
        · exact hlow j h7
        · rw [h7]; exact hk
      · refine stp ?_
        exact cutQ1.out 9 ⟨a, rfl, ⟨ha, hlow, fun _ => hk⟩, rfl⟩
    · refine stp ?_
      exact cutQ1.out 9 ⟨a, rfl, ⟨ha, hlow, fun h => by omega⟩, rfl⟩
  intro v9 hq x52 x53 x54 x55 x56 x57 x58 x59 x60 x61 x62 x63 x64 x65 x66 x67 x68 x69 x70 x71 x72 ⟨a, e9, hpos, e⟩
  subst e9
  rw [e]
  clear e hq
  have ha := hpos.1
  haveI : HGet hg d _ := ⟨hs1.gd⟩
  obtain ⟨aB1, cB1, rfl, _, _⟩ := id hs1.oB.rd
  obtain ⟨aK1, cK1, rfl, _, hc1⟩ := id hs1.oK.rd
  refine stp ?_
  have hd' := hs1.dl
  have hats : ∀ e ∈ L1.map DE.pb, e.At hg := fun e he => by
    obtain ⟨z, hz, rfl⟩ := List.mem_map.1 he
    exact hs1.ats z hz
  have l1 : (L1.take a).length = a := by rw [List.length_take]; omega
  have l2 : (L1.drop a).length = L1.length - a := List.length_drop
  have at1 : ∀ e ∈ (L1.take a).map DE.pb, e.At hg := fun e he => by
    obtain ⟨z, hz, rfl⟩ := List.mem_map.1 he
    exact hs1.ats z (List.mem_of_mem_take hz)
  have at2 : ∀ e ∈ (L1.drop a).map DE.pb, e.At hg := fun e he => by
    obtain ⟨z, hz, rfl⟩ := List.mem_map.1 he
    exact hs1.ats z (List.mem_of_mem_drop hz)
  have hs1m : 0 + (L1.length - a) < 1048576 := by omega
  have hsA : 0 + a < 1048576 := by omega
  have hsB : 0 + a + 1 < 1048576 := by omega
  have hsC : 0 + a + 1 + (0 + (L1.length - a)) < 1048576 := by omega
  obtain ⟨w1, b1, r1, x1⟩ := own_hi hs1.oB (p := (a : Int)) a ha rfl
  obtain ⟨w2, b2, r2, x2⟩ := own_lo (by decide) hs1.oB (p := (a : Int)) a ha rfl
  obtain ⟨w3, b3, r3, x3⟩ := own_hi hs1.oK (p := (a : Int)) a ha rfl
  obtain ⟨w4, b4, r4, x4⟩ := own_lo (by decide) hs1.oK (p := (a : Int)) a ha rfl
  rw [pb_take a hats, ← List.map_take] at r1
  rw [pb_drop a hats, ← List.map_drop] at r2
  rw [kk_take, ← List.map_take] at r3
  rw [kk_drop, ← List.map_drop] at r4
  have inst : ∀ {g : Heap}, Fr (fun _ => False) hg g → HGet g d _ ∧ OwnI g 166 _ ∧ OwnI g 3 _ ∧ HGet g h.n _ ∧ BLt d g := fun {g} E => ⟨E.keep ⟨hs1.gd⟩ hd' id, ⟨_, _, hs1.oB.keep E fun _ _ => id⟩, ⟨_, _, hs1.oK.keep E fun _ _ => id⟩, E.keep ⟨gX⟩ hltg id, ⟨E.lt hd'⟩⟩
  have E : Fr (fun _ => False) hg hg := Fr.refl
  obtain ⟨i1, i2, i3, i4, i5⟩ := inst E
  refine cut2 [0, 0, 0, 0, 0, 0, 0, 0, 0, 0, 2, 2, 0, 0, 0, 0, 0, 0, 0, 0, 0, 0, 0, 0, 0, 0, 0, 0, 0, 0, 0, 0, 0, 0, 0, 0, 0, 0, 0, 0, 0, 0, 0, 0, 0, 0, 0, 0, 0, 0, 0, 0, 0, 0, 0, 0, 0, 0, 0, 0, 0, 0, 0, 0, 0, 0, 0, 0, 0, 0, 0, 0, 0, 1, 1, 1, 1, 1, 1, 1, 1, 1, 1, 1, 1, 1, 1, 1, 1, 0, 0, 0, 0, 0, 0, 0, 0, 0, 0, 0, 0, 0, 0, 0, 0, 0, 0, 0, 0, 0, 0, 0, 0, 0, 0, 0, 0, 0, 0, 0, 0, 0, 0, 0] .normal (fun v80 v88 hm => Own hm 166 v80 (pbcells ((L1.drop a).map DE.pb)) (0 + (L1.length - a)) ∧ Own hm 3 v88 (kkcells ((L1.drop a).map DE.kk)) (0 + (L1.length - a)) ∧ (∀ j, ownedBy v80 j → hg.n ≤ j) ∧ (∀ j, ownedBy v88 j → hg.n ≤ j) ∧ Fr (fun _ => False) hg hm) ?_ ?_
  · refine RunC.regionM ?_ (RunC.regionM ?_ (RunC.regionM ?_ RunC.regionM0))
    · refine stp ?_
      refine D.litC (d := 73) (fun g hf hn => ?_) (fun g p73 hp73 hn73 o73 hf => ?_)
      · obtain ⟨i1, i2, i3, i4, i5⟩ := inst (E.trans' hf)
        repeat refine stab_cons inferInstance ?_
        rfl
      have N73 := E.n
      have E := E.trans' hf
      refine D.appendC (dst := 80) (n := 0) (m := L1.length - a) (c := []) (o73 166) ((r2.keep E fun _ _ => id).new _) (by rw [pb_len at2, List.length_map, l2]) (pb_ones at2) (by decide) (by decide) hs1m (fun v80 g80 o80 f80 n80 => ?_)
      have M80 : ∀ j, ownedBy v80 j → hg.n ≤ j ∧ (j = p73 ∨ g.n ≤ j) := fun j hj => (n80 j hj).elim (fun e => by have e : p73 = j := e; omega) (fun e => by have := E.n; omega)
      have L80 : ∀ j, ownedBy v80 j → j < g80.n := fun j hj => o80.lt hj
      have E := E.trans f80 fun j hj e => by have e : p73 = j := e; omega
      obtain ⟨i1, i2, i3, i4, i5⟩ := inst E
      refine ⟨by
        repeat refine stab_cons inferInstance ?_
        rfl, ?_⟩
      refine D.litC (d := 81) (fun g hf hn => ?_) (fun g p81 hp81 hn81 o81 hf => ?_)
      · obtain ⟨i1, i2, i3, i4, i5⟩ := inst (E.trans' hf)
        repeat refine stab_cons inferInstance ?_
        rfl
      have N81 := E.n
      have E := E.trans' hf
      have o80 := o80.keep hf fun _ _ => id
      refine D.appendC (dst := 88) (n := 0) (m := L1.length - a) (c := []) (o81 3) ((r4.keep E fun _ _ => id).new _) (by rw [kk_lens, List.length_map, l2]) (kk_ones _) (by decide) (by decide) hs1m (fun v88 hm o88 f88 n88 => ?_)
      have o80 := o80.keep f88 fun j hj e => by
        have e : p81 = j := e
        have := M80 j hj
        have := L80 j hj
        omega
      have M88 : ∀ j, ownedBy v88 j → hg.n ≤ j := fun j hj => (n88 j hj).elim (fun e => by have e : p81 = j := e; omega) (fun e => by have := E.n; omega)
      have M80 : ∀ j, ownedBy v80 j → hg.n ≤ j := fun j hj => (M80 j hj).1
      have E := E.trans f88 fun j hj e => by have e : p81 = j := e; omega
      refine ⟨rfl, ?_⟩
      refine stp ?_
      exact cutQ2.out 10 11 ⟨o80, o88, M80, M88, E⟩
    · refine stp ?_
      refine D.litC (d := 73) (fun g hf hn => ?_) (fun g p73 hp73 hn73 o73 hf => ?_)
      · obtain ⟨i1, i2, i3, i4, i5⟩ := inst (E.trans' hf)
        repeat refine stab_cons inferInstance ?_
        rfl
      have N73 := E.n
      have E := E.trans' hf
      refine D.litC (d := 81) (fun g hf hn => ?_) (fun g p81 hp81 hn81 o81 hf => ?_)
      · obtain ⟨i1, i2, i3, i4, i5⟩ := inst (E.trans' hf)
        repeat refine stab_cons inferInstance ?_
        rfl
      have N81 := E.n
      have E := E.trans' hf
      have o73 := fun s => (o73 s).keep hf fun _ _ => id
      refine D.appendC (dst := 80) (n := 0) (m := L1.length - a) (c := []) (o73 166) ((r2.keep E fun _ _ => id).new _) (by rw [pb_len at2, List.length_map, l2]) (pb_ones at2) (by decide) (by decide) hs1m (fun v80 g80 o80 f80 n80 => ?_)
      have M80 : ∀ j, ownedBy v80 j → hg.n ≤ j ∧ (j = p73 ∨ g.n ≤ j) := fun j hj => (n80 j hj).elim (fun e => by have e : p73 = j := e; omega) (fun e => by have := E.n; omega)
      have L80 : ∀ j, ownedBy v80 j → j < g80.n := fun j hj => o80.lt hj
      have E := E.trans f80 fun j hj e => by have e : p73 = j := e; omega
      have o81 := fun s => (o81 s).keep f80 fun j hj e => by have e : p73 = j := e; have hj : p81 = j := hj; omega
      obtain ⟨i1, i2, i3, i4, i5⟩ := inst E
      refine ⟨by
        repeat refine stab_cons inferInstance ?_
        rfl, ?_⟩
      refine D.appendC (dst := 88) (n := 0) (m := L1.length - a) (c := []) (o81 3) ((r4.keep E fun _ _ => id).new _) (by rw [kk_lens, List.length_map, l2]) (kk_ones _) (by decide) (by decide) hs1m (fun v88 hm o88 f88 n88 => ?_)
      have o80 := o80.keep f88 fun j hj e => by
        have e : p81 = j := e
        have := M80 j hj
        have := L80 j hj
        omega
      have M88 : ∀ j, ownedBy v88 j → hg.n ≤ j := fun j hj => (n88 j hj).elim (fun e => by have e : p81 = j := e; omega) (fun e => by have := E.n; omega)
      have M80 : ∀ j, ownedBy v80 j → hg.n ≤ j := fun j hj => (M80 j hj).1
      have E := E.trans f88 fun j hj e => by have e : p81 = j := e; omega
      refine ⟨rfl, ?_⟩
      refine stp ?_
      exact cutQ2.out 10 11 ⟨o80, o88, M80, M88, E⟩
    · refine stp ?_
      refine D.litC (d := 81) (fun g hf hn => ?_) (fun g p81 hp81 hn81 o81 hf => ?_)
      · obtain ⟨i1, i2, i3, i4, i5⟩ := inst (E.trans' hf)
        repeat refine stab_cons inferInstance ?_
        rfl
      have N81 := E.n
      have E := E.trans' hf
      refine D.litC (d := 73) (fun g hf hn => ?_) (fun g p73 hp73 hn73 o73 hf => ?_)
      · obtain ⟨i1, i2, i3, i4, i5⟩ := inst (E.trans' hf)
        repeat refine stab_cons inferInstance ?_
        rfl
      have N73 := E.n
      have E := E.trans' hf
      have o81 := fun s => (o81 s).keep hf fun _ _ => id
      refine D.appendC (dst := 80) (n := 0) (m := L1.length - a) (c := []) (o73 166) ((r2.keep E fun _ _ => id).new _) (by rw [pb_len at2, List.length_map, l2]) (pb_ones at2) (by decide) (by decide) hs1m (fun v80 g80 o80 f80 n80 => ?_)
      have M80 : ∀ j, ownedBy v80 j → hg.n ≤ j ∧ (j = p73 ∨ g.n ≤ j) := fun j hj => (n80 j hj).elim (fun e => by have e : p73 = j := e; omega) (fun e => by have := E.n; omega)
      have L80 : ∀ j, ownedBy v80 j → j < g80.n := fun j hj => o80.lt hj
      have E := E.trans f80 fun j hj e => by have e : p73 = j := e; omega
      have o81 := fun s => (o81 s).keep f80 fun j hj e => by have e : p73 = j := e; have hj : p81 = j := hj; omega
      obtain ⟨i1, i2, i3, i4, i5⟩ := inst E
      refine ⟨by
        repeat refine stab_cons inferInstance ?_
        rfl, ?_⟩
      refine D.appendC (dst := 88) (n := 0) (m := L1.length - a) (c := []) (o81 3) ((r4.keep E fun _ _ => id).new _) (by rw [kk_lens, List.length_map, l2]) (kk_ones _) (by decide) (by decide) hs1m (fun v88 hm o88 f88 n88 => ?_)
      have o80 := o80.keep f88 fun j hj e => by
        have e : p81 = j := e
        have := M80 j hj
        have := L80 j hj
        omega
      have M88 : ∀ j, ownedBy v88 j → hg.n ≤ j := fun j hj => (n88 j hj).elim (fun e => by have e : p81 = j := e; omega) (fun e => by have := E.n; omega)
      have M80 : ∀ j, ownedBy v80 j → hg.n ≤ j := fun j hj => (M80 j hj).1
      have E := E.trans f88 fun j hj e => by have e : p81 = j := e; omega
      refine ⟨rfl, ?_⟩
      refine stp ?_
      exact cutQ2.out 10 11 ⟨o80, o88, M80, M88, E⟩
  intro v80 v88 hm x73 x74 x75 x76 x77 x78 x79 x80 x81 x82 x83 x84 x85 x86 x87 x88 ⟨o80, o88, M80, M88, E⟩
  obtain ⟨i1, i2, i3, i4, i5⟩ := inst E
  have T80 : ∀ j, ownedBy v80 j → j < hm.n := fun j hj => o80.lt hj
  have T88 : ∀ j, ownedBy v88 j → j < hm.n := fun j hj => o88.lt hj
  have EN := E.n
  have hbk : ∀ {g : Heap}, Fr (fun _ => False) hg g → BkRd g x xv xl := fun {g} E =>
    have F := Ff.trans' (E.mono fun _ _ e => e.elim)
    ⟨hb.hd, hb.hash, hb.sv.keep F fun i hi e => hbd i (.inl hi) e, hb.sl.keep F fun i hi e => hbd i (.inr hi) e⟩
  refine stp ?_
  refine D.litC (d := 90) (fun g hf hn => ?_) (fun g p90 hp90 hn90 o90 hf => ?_)
  · obtain ⟨i1, i2, i3, i4, i5⟩ := inst (E.trans' hf)
    repeat refine stab_cons inferInstance ?_
    rfl
  have E := E.trans' hf
  have o80 := o80.keep hf fun _ _ => id
  have o88 := o88.keep hf fun _ _ => id
  refine D.appendC (dst := 97) (n := 0) (m := a) (c := []) (o90 166) ((r1.keep E fun _ _ => id).new _) (by rw [pb_len at1, List.length_map, l1]) (pb_ones at1) (by decide) (by decide) hsA (fun v97 g97 o97 f97 n97 => ?_)
  have M97 : ∀ j, ownedBy v97 j → hm.n ≤ j ∧ j < g97.n := fun j hj => ⟨(n97 j hj).elim (fun e => by have e : p90 = j := e; omega) (fun e => by omega), o97.lt hj⟩
  have E := E.trans f97 fun j hj e => by have e : p90 = j := e; omega
  have o80 := o80.keep f97 fun j hj e => by have e : p90 = j := e; have := T80 j hj; omega
  have o88 := o88.keep f97 fun j hj e => by have e : p90 = j := e; have := T88 j hj; omega
  have N97 := f97.n
  obtain ⟨i1, i2, i3, i4, i5⟩ := inst E
  obtain ⟨q97, z97, rfl, _, _⟩ := id o97.rd
  refine ⟨by
    repeat refine stab_cons inferInstance ?_
    rfl, ?_⟩
  refine D.callX (CopyBlockA_ok (hbk E) (by omega) (by omega)) (fun r g hr => ?_) (fun r g hr => ?_) (fun _ _ hx => hx.elim)
  · obtain ⟨_, _, _, _, _, _, _, _, hf⟩ := hr
    obtain ⟨i1, i2, i3, i4, i5⟩ := inst (E.trans' hf)
    repeat refine stab_cons inferInstance ?_
    rfl
  obtain ⟨sw, sm, rfl, ow, om, mw, mm, mdis, hf⟩ := hr
  have E := E.trans' hf
  have o80 := o80.keep hf fun _ _ => id
  have o88 := o88.keep hf fun _ _ => id
  have o97 := o97.keep hf fun _ _ => id
  have N98 := hf.n
  obtain ⟨i1, i2, i3, i4, i5⟩ := inst E
  obtain ⟨a3, c3, rfl, _, _⟩ := id ow.rd
  obtain ⟨a4, c4, rfl, _, _⟩ := id om.rd
  have TW : ∀ j, ownedBy (.slice a3 x.c.votes.length c3) j ∨ ownedBy (.slice a4 x.vals.length c4) j → g97.n ≤ j ∧ j < g.n := fun j hj => hj.elim (fun e => ⟨mw j e, ow.lt e⟩) (fun e => ⟨mm j e, om.lt e⟩)
  have hcell : (x.cells (.slice a3 x.c.votes.length c3) (.slice a4 x.vals.length c4)).length = 166 := bk_len hx hch
  have hnA : PB.At g ⟨x, .slice a3 x.c.votes.length c3, .slice a4 x.vals.length c4⟩ := ⟨⟨hx, hch, ow.rd, om.rd⟩, hv, hw⟩
  have hP := @Fr.refl (fun j => j = d ∨ hm.n ≤ j ∧ (j < g97.n ∨ g.n < j)) g
  have hP0 := @Fr.refl (fun _ => False) g
  refine D.one ?_ ?_
  · obtain ⟨i1, i2, i3, i4, i5⟩ := inst (E.trans' (hP0.push (o := .cells (x.cells (.slice a3 x.c.votes.length c3) (.slice a4 x.vals.length c4)) 0)))
    repeat refine stab_cons inferInstance ?_
    rfl
  have hP := hP.push (o := .cells (x.cells (.slice a3 x.c.votes.length c3) (.slice a4 x.vals.length c4)) 0)
  have hP0 := hP0.push (o := .cells (x.cells (.slice a3 x.c.votes.length c3) (.slice a4 x.vals.length c4)) 0)
  have rP := pb_new (h := g) (e := ⟨x, .slice a3 x.c.votes.length c3, .slice a4 x.vals.length c4⟩) (es := 0) hcell
  have nP : (g.push (.cells (x.cells (.slice a3 x.c.votes.length c3) (.slice a4 x.vals.length c4)) 0)).n = g.n + 1 := rfl
  have EP := E.trans' hP0
  have o80 := o80.keep hP0 fun _ _ => id
  have o88 := o88.keep hP0 fun _ _ => id
  have o97 := o97.keep hP0 fun _ _ => id
  refine D.appendC (dst := 101) o97 (rP.new _) (by rw [pb_len (h := g) (by intro e he; rw [List.mem_singleton.1 he]; exact hnA)]; rfl) (pb_ones (h := g) (by intro e he; rw [List.mem_singleton.1 he]; exact hnA)) (by decide) (by decide) hsB (fun v101 g101 o101 f101 n101 => ?_)
  have M101 : ∀ j, ownedBy v101 j → hm.n ≤ j ∧ (j < g97.n ∨ g.n < j) := fun j hj => (n101 j hj).elim (fun e => ⟨(M97 j e).1, .inl (M97 j e).2⟩) (fun e => by have e : g.n + 1 ≤ j := e; omega)
  have E1 := EP.trans f101 fun j hj e => by have := M97 j e; omega
  have o80 := o80.keep f101 fun j hj e => by have := M97 j e; have := T80 j hj; omega
  have o88 := o88.keep f101 fun j hj e => by have := M97 j e; have := T88 j hj; omega
  have N101 : g.n + 1 ≤ g101.n := f101.n
  obtain ⟨i1, i2, i3, i4, i5⟩ := inst E1
  obtain ⟨q101, z101, rfl, _, _⟩ := id o101.rd
  refine ⟨by
    repeat refine stab_cons inferInstance ?_
    rfl, ?_⟩
  refine D.appendC (dst := 103) o101 (o80.rd.new _) (by rw [pb_len at2, List.length_map, l2, Nat.zero_add]) (pb_ones at2) (by decide) (by decide) hsC (fun v103 g103 o103 f103 n103 => ?_)
  have M103 : ∀ j, ownedBy v103 j → hm.n ≤ j ∧ (j < g97.n ∨ g.n < j) := fun j hj => (n103 j hj).elim (fun e => M101 j e) (fun e => by omega)
  have E3 := E1.trans f103 fun j hj e => by have := M101 j e; omega
  have o88 := o88.keep f103 fun j hj e => by have := M101 j e; have := T88 j hj; omega
  have N103 := f103.n
  obtain ⟨i1, i2, i3, i4, i5⟩ := inst E3
  have eB : pbcells ((L1.take a).map DE.pb) ++ pbcells [⟨x, .slice a3 x.c.votes.length c3, .slice a4 x.vals.length c4⟩] ++ pbcells ((L1.drop a).map DE.pb) = pbcells ((L1.take a ++ (⟨x, .slice a3 x.c.votes.length c3, .slice a4 x.vals.length c4, false, false⟩ : DE) :: L1.drop a).map DE.pb) := by
    rw [pb_app, pb_app, List.map_append, List.append_assoc]
    rfl
  have eL : 0 + a + 1 + (0 + (L1.length - a)) = (L1.take a ++ (⟨x, .slice a3 x.c.votes.length c3, .slice a4 x.vals.length c4, false, false⟩ : DE) :: L1.drop a).length := by
    rw [List.length_append, List.length_cons, l1, l2]
    omega
  rw [List.nil_append, eB, eL] at o103
  obtain ⟨q103, z103, rfl, _, _⟩ := id o103.rd
  refine ⟨by
    repeat refine stab_cons inferInstance ?_
    rfl, ?_⟩
  refine stp ?_
  have hdj : ∀ {j}, hg.n ≤ j → j ≠ d := fun {j} q e => by omega
  have hkd : ∀ {j}, ownedBy (.slice aK1 L1.length cK1) j → j ≠ d := fun {j} hj => hs1.sK j hj
  have sB : ∀ {A : AObj}, Fr (fun j => j = d) g103 (g103.set d A) := fun {A} => Fr.refl.set fun _ => rfl
  have gd4 : ∀ {A : AObj}, (g103.set d A).get d = A := fun {A} => by rw [Heap.get_set, if_pos rfl]
  have nS : ∀ {A : AObj}, (g103.set d A).n = g103.n := fun {A} => rfl
  have E4 := fun {A : AObj} => (E3.mono (S' := fun j => j = d) fun _ _ e => e.elim).trans' (sB (A := A))
  have o103 := fun {A : AObj} => o103.keep (sB (A := A)) (fun j hj e => by have := M103 j hj; omega)
  have o88 := fun {A : AObj} => o88.keep (sB (A := A)) (fun j hj e => by have := M88 j hj; omega)
  have EG := fun {A : AObj} => (((hP.trans (S := fun j => j = d ∨ hm.n ≤ j ∧ (j < g97.n ∨ g.n < j)) f101 fun j _ hj => by have := M97 j hj; omega).trans f103 fun j _ hj => .inr (M101 j hj)).trans (sB (A := A)) fun j _ hj => .inl hj)
  have gd4 := gd4 (A := .cells [.int .i64 room, .slice q103 (L1.take a ++ (⟨x, .slice a3 x.c.votes.length c3, .slice a4 x.vals.length c4, false, false⟩ : DE) :: L1.drop a).length z103, .slice aK1 L1.length cK1] 0)
  have nS := nS (A := .cells [.int .i64 room, .slice q103 (L1.take a ++ (⟨x, .slice a3 x.c.votes.length c3, .slice a4 x.vals.length c4, false, false⟩ : DE) :: L1.drop a).length z103, .slice aK1 L1.length cK1] 0)
  have E4 := E4 (A := .cells [.int .i64 room, .slice q103 (L1.take a ++ (⟨x, .slice a3 x.c.votes.length c3, .slice a4 x.vals.length c4, false, false⟩ : DE) :: L1.drop a).length z103, .slice aK1 L1.length cK1] 0)
  have EG := EG (A := .cells [.int .i64 room, .slice q103 (L1.take a ++ (⟨x, .slice a3 x.c.votes.length c3, .slice a4 x.vals.length c4, false, false⟩ : DE) :: L1.drop a).length z103, .slice aK1 L1.length cK1] 0)
  have o103 := o103 (A := .cells [.int .i64 room, .slice q103 (L1.take a ++ (⟨x, .slice a3 x.c.votes.length c3, .slice a4 x.vals.length c4, false, false⟩ : DE) :: L1.drop a).length z103, .slice aK1 L1.length cK1] 0)
  have o88 := o88 (A := .cells [.int .i64 room, .slice q103 (L1.take a ++ (⟨x, .slice a3 x.c.votes.length c3, .slice a4 x.vals.length c4, false, false⟩ : DE) :: L1.drop a).length z103, .slice aK1 L1.length cK1] 0)
  generalize g103.set d (.cells [.int .i64 room, .slice q103 (L1.take a ++ (⟨x, .slice a3 x.c.votes.length c3, .slice a4 x.vals.length c4, false, false⟩ : DE) :: L1.drop a).length z103, .slice aK1 L1.length cK1] 0) = gS at *
  have E4p : ∀ {A : AObj}, Fr (fun j => j = d) hg (gS.push A) := fun {A} => E4.push
  refine O.append (n := 0) (m := a) (c := []) (d := kkcells ((L1.take a).map DE.kk)) (Own.lit (by simp) HGet.new.eq) ((r3.keep E4p fun j hj => hkd (b3 j hj)).new _) (by rw [kk_lens, List.length_map, l1]) (kk_ones ((L1.take a).map DE.kk)) (by decide) (by decide) hsA (fun v114 g114 o114 f114 n114 => ?_)
  have nP : ∀ {A : AObj}, (gS.push A).n = gS.n + 1 := rfl
  have M114 : ∀ j, ownedBy v114 j → gS.n ≤ j := fun j hj => (n114 j hj).elim (fun e => by have e : gS.n = j := e; omega) (fun e => by have e : gS.n + 1 ≤ j := e; omega)
  have E5 : Fr (fun _ => False) gS g114 := Fr.trans (S := fun _ => False) (Fr.refl.push) f114 fun j hj e => by have e : gS.n = j := e; omega
  have N5 := E5.n
  have hdS : d < gS.n := E4.lt hd'
  obtain ⟨q114, z114, rfl, _, _⟩ := id o114.rd
  refine stp ?_
  have rK := rd_kk (h := g114) (e := ⟨x.h.height, false, false⟩) (es := 0)
  have G1 : ∀ {A : AObj}, Fr (fun _ => False) g114 (g114.push A) := fun {A} => Fr.refl.push
  refine O.append (n := 0 + a) (m := 1) (d := kkcells [⟨x.h.height, false, false⟩]) (o114.keep G1 fun _ _ => id) (rK.new _) rfl rfl (by decide) (by decide) hsB (fun v118 g118 o118 f118 n118 => ?_)
  have M118 : ∀ j, ownedBy v118 j → gS.n ≤ j := fun j hj => (n118 j hj).elim (fun e => M114 j e) (fun e => by have e : g114.n + 1 ≤ j := e; omega)
  have E6 : Fr (fun _ => False) gS g118 := (E5.trans' G1).trans f118 fun j hj e => by have := M114 j e; omega
  have N6 := E6.n
  obtain ⟨q118, z118, rfl, _, _⟩ := id o118.rd
  refine stp ?_
  refine O.append (n := 0 + a + 1) (m := 0 + (L1.length - a)) (d := kkcells ((L1.drop a).map DE.kk)) o118 ((o88.keep E6 fun _ _ => id).rd.new _) (by rw [kk_lens, List.length_map, l2, Nat.zero_add]) (kk_ones ((L1.drop a).map DE.kk)) (by decide) (by decide) hsC (fun v120 g120 o120 f120 n120 => ?_)
  have M120 : ∀ j, ownedBy v120 j → gS.n ≤ j := fun j hj => (n120 j hj).elim (fun e => M118 j e) (fun e => by omega)
  have E7 : Fr (fun _ => False) gS g120 := E6.trans f120 fun j hj e => by have := M118 j e; omega
  have N7 := E7.n
  have eK : kkcells ((L1.take a).map DE.kk) ++ kkcells [⟨x.h.height, false, false⟩] ++ kkcells ((L1.drop a).map DE.kk) = kkcells ((L1.take a ++ (⟨x, .slice a3 x.c.votes.length c3, .slice a4 x.vals.length c4, false, false⟩ : DE) :: L1.drop a).map DE.kk) := by
    rw [kk_app, kk_app, List.map_append, List.append_assoc]
    rfl
  rw [List.nil_append, eK, eL] at o120
  obtain ⟨q120, z120, rfl, _, _⟩ := id o120.rd
  haveI : HGet g120 d _ := E7.keep ⟨gd4⟩ hdS id
  haveI : BLt d g120 := ⟨E7.lt hdS⟩
  refine stp ?_
  have fS : ∀ {A : AObj}, Fr (fun j => j = d) g120 (g120.set d A) := fun {A} => Fr.refl.set fun _ => rfl
  have FT : ∀ {A : AObj}, Fr (fun j => j = d) hg (g120.set d A) := fun {A} => (E4.trans' (E7.mono fun _ _ e => e.elim)).trans' fS
  have EGT : ∀ {A : AObj}, Fr (fun j => j = d ∨ hm.n ≤ j ∧ (j < g97.n ∨ g.n < j)) g (g120.set d A) := fun {A} => (EG.trans' (E7.mono fun _ _ e => e.elim)).trans fS fun j _ e => .inl e
  have NG := EG.n
  have NF := Ff.n
  have L103 : ∀ {j}, ownedBy (.slice q103 (L1.take a ++ (⟨x, .slice a3 x.c.votes.length c3, .slice a4 x.vals.length c4, false, false⟩ : DE) :: L1.drop a).length z103) j → j < gS.n := fun {j} hj => o103.lt hj
  have TN : ∀ {j}, blockOf (.slice a3 x.c.votes.length c3) j ∨ blockOf (.slice a4 x.vals.length c4) j → g97.n ≤ j ∧ j < g.n := fun {j} hj => TW j (hj.imp block_own block_own)
  have old : ∀ e ∈ L1, ∀ {j}, blockOf e.sv j ∨ blockOf e.sl j → j < hg.n ∧ j ≠ d := fun e he {j} hj => ⟨hj.elim (Rd.block_lt (hs1.ats e he).rd.sv) (Rd.block_lt (hs1.ats e he).rd.sl), fun q => hs1.si j ⟨e, he, hj⟩ (.inl q)⟩
  refine ⟨_, 0, _, _, _, rfl, hrel a ⟨x, .slice a3 x.c.votes.length c3, .slice a4 x.vals.length c4, false, false⟩ rfl rfl rfl hpos, ⟨fS.lt (E7.lt hdS), by rw [Heap.get_set, if_pos rfl], (o103.keep E7 fun _ _ => id).keep fS fun j hj e => by have := M103 j hj; omega, o120.keep fS fun j hj e => by have := M120 j hj; omega, fun e he => ?_, fun j hj => ⟨fun e => by have := M103 j hj; omega, fun q => by have := L103 hj; have := M120 j q; omega⟩, fun j hj e => by have := M120 j hj; omega, fun j ⟨e, he, hj⟩ hq => ?_⟩, Ff.trans' FT, fun j hj => ?_, fun j ⟨e, he, hj⟩ => ?_⟩
  · rcases List.mem_append.1 he with he | he
    · exact (hs1.ats e (List.mem_of_mem_take he)).keepS FT fun j hj q => (old e (List.mem_of_mem_take he) hj).2 q
    rcases List.mem_cons.1 he with he | he
    · subst he
      exact hnA.keepS EGT fun j hj q => by have := TN hj; omega
    · exact (hs1.ats e (List.mem_of_mem_drop he)).keepS FT fun j hj q => (old e (List.mem_of_mem_drop he) hj).2 q
  · have hj' : (j < hg.n ∨ g97.n ≤ j ∧ j < g.n) ∧ j ≠ d := by
      rcases List.mem_append.1 he with he | he
      · exact ⟨.inl (old e (List.mem_of_mem_take he) hj).1, (old e (List.mem_of_mem_take he) hj).2⟩
      rcases List.mem_cons.1 he with he | he
      · subst he
        have := TN hj
        exact ⟨.inr this, by omega⟩
      · exact ⟨.inl (old e (List.mem_of_mem_drop he) hj).1, (old e (List.mem_of_mem_drop he) hj).2⟩
    rcases hq with hq | hq | hq
    · exact hj'.2 hq
    · have := M103 j hq
      omega
    · have := M120 j hq
      omega
  · rcases hj with hj | hj | hj
    · exact .inl (.inl hj)
    · have := M103 j hj
      exact .inr (by omega)
    · have := M120 j hj
      exact .inr (by omega)
  · rcases List.mem_append.1 he with he | he
    · exact .inl ⟨e, hsub e (List.mem_of_mem_take he), hj⟩
    rcases List.mem_cons.1 he with he | he
    · subst he
      have := TN hj
      exact .inr (by omega)
    · exact .inl ⟨e, hsub e (List.mem_of_mem_drop he), hj⟩
end Go.Proofs.Ytmhnddkpiefkhaa.A

namespace Go.Proofs.Ytmhnddkpiefkhaa.A
open Go Go.Vm
set_option maxRecDepth 10000
set_option linter.unusedVariables false
theorem kk_setp (is : Bool) : ∀ (A : List KK) (i : Nat), i < A.length → lset (kkcells A) (i * 3 + 2) (.bool is) = kkcells (A.set i ⟨(A.getD i ⟨0, false, false⟩).k, (A.getD i ⟨0, false, false⟩).v, is⟩)
  | [], i, h => absurd h (by simp)
  | e :: A, 0, _ => rfl
  | e :: A, i + 1, h => by
    have ih := kk_setp is A i (by simpa using h)
    rw [show (i + 1) * 3 + 2 = i * 3 + 2 + 1 + 1 + 1 from by omega]
    show e.cells ++ lset (kkcells A) (i * 3 + 2) (.bool is) = _
    rw [ih]
    rfl
theorem kk_setv (is : Bool) : ∀ (A : List KK) (i : Nat), i < A.length → lset (kkcells A) (i * 3 + 1) (.bool is) = kkcells (A.set i ⟨(A.getD i ⟨0, false, false⟩).k, is, (A.getD i ⟨0, false, false⟩).p⟩)
  | [], i, h => absurd h (by simp)
  | e :: A, 0, _ => rfl
  | e :: A, i + 1, h => by
    have ih := kk_setv is A i (by simpa using h)
    rw [show (i + 1) * 3 + 1 = i * 3 + 1 + 1 + 1 + 1 from by omega]
    show e.cells ++ lset (kkcells A) (i * 3 + 1) (.bool is) = _
    rw [ih]
    rfl
theorem lset_left (w : Value) : ∀ (c j : List Value) (i : Nat), i < c.length → lset (c ++ j) i w = lset c i w ++ j
  | [], j, i, h => absurd h (by simp)
  | a :: c, j, 0, _ => rfl
  | a :: c, j, i + 1, h => by
    show a :: lset (c ++ j) i w = a :: (lset c i w ++ j)
    rw [lset_left w c j i (by simpa using h)]
theorem lset_lens (w : Value) : ∀ (c : List Value) (i : Nat), (lset c i w).length = c.length
  | [], 0 => rfl
  | [], i + 1 => rfl
  | a :: c, 0 => rfl
  | a :: c, i + 1 => by
    show (lset c i w).length + 1 = c.length + 1
    rw [lset_lens w c i]
theorem own_put {h : Heap} {size n i : Nat} {v w : Value} {c : List Value} (ho : Own h size v c n) (hi : i < c.length) :
    ∃ (q : Nat) (sp : Option Nat) (cap : Nat) (cs : List Value), v = .slice (some ⟨q, 0, sp⟩) n cap ∧ q < h.n ∧ h.get q = .cells cs size ∧ i < cs.length ∧ Own (h.set q (.cells (lset cs i w) size)) size v (lset c i w) n := by
  have hl := ho.len
  cases ho with
  | none => exact absurd hi (by simp)
  | lit _ _ => exact absurd hi (by simp)
  | grown hq hn hle hl1 hl2 hg =>
    rename_i q k cap j
    refine ⟨q, some k, cap, c ++ j, rfl, hq, hg, by rw [List.length_append]; omega, ?_⟩
    rw [lset_left w c j i hi]
    exact .grown (j := j) (by simpa using hq) hn hle (by rw [lset_lens]; exact hl1) (by rw [List.length_append, lset_lens, ← List.length_append]; exact hl2) (by rw [Heap.get_set, if_pos rfl])
def DE.mark (e : DE) (v p : Bool) : DE := ⟨e.x, e.sv, e.sl, v, p⟩
theorem set_same {α β : Type} (f : α → β) {L : List α} {i : Nat} {e z : α} (he : f e = f (L.getD i z)) : (L.set i e).map f = L.map f := by
  rw [List.map_set, he]
  by_cases h : i < L.length
  · rw [List.getD_eq_getElem?_getD, List.getElem?_eq_getElem h, Option.getD_some]
    have : f L[i] = (L.map f)[i]'(by simpa using h) := by simp
    rw [this, List.set_getElem_self]
  · rw [List.set_eq_of_length_le (by simp; omega)]
theorem DAt.mark {h h' : Heap} {d : Nat} {room : Int} {L : List DE} {vB vK : Value} {i : Nat} {v p : Bool} (hs : DAt h d room L vB vK) (hi : i < L.length) (hf : Fr (ownedBy vK) h h') (ho : Own h' 3 vK (kkcells ((L.map DE.kk).set i ⟨(L.getD i zDE).k, v, p⟩)) L.length) :
    DAt h' d room (L.set i ((L.getD i zDE).mark v p)) vB vK := by
  have hm : L.getD i zDE ∈ L := by
    rw [List.getD_eq_getElem?_getD, List.getElem?_eq_getElem hi]
    exact List.getElem_mem hi
  have hin : ∀ {e}, e ∈ L.set i ((L.getD i zDE).mark v p) → ∃ z ∈ L, z.sv = e.sv ∧ z.sl = e.sl ∧ z.pb = e.pb := fun {e} he => by
    rcases List.mem_or_eq_of_mem_set he with he | he
    · exact ⟨e, he, rfl, rfl, rfl⟩
    · exact ⟨_, hm, by rw [he]; rfl, by rw [he]; rfl, by rw [he]; rfl⟩
  refine ⟨hf.lt hs.dl, by rw [hf.get _ hs.dl (fun q => hs.sK _ q rfl)]; exact hs.gd, ?_, ?_, fun e he => ?_, hs.sB, hs.sK, fun j ⟨e, he, hj⟩ => ?_⟩
  · rw [set_same DE.pb (L := L) (i := i) (z := zDE) (e := (L.getD i zDE).mark v p) rfl, List.length_set]
    exact hs.oB.keep hf fun j hj q => (hs.sB j hj).2 q
  · rw [List.map_set, List.length_set]
    exact ho
  · obtain ⟨z, hz, _, _, e3⟩ := hin he
    rw [← e3]
    exact (hs.ats z hz).keepS hf fun j hj q => hs.si j ⟨z, hz, hj⟩ (.inr (.inr q))
  · obtain ⟨z, hz, e1, e2, _⟩ := hin he
    exact hs.si j ⟨z, hz, by rw [e1, e2]; exact hj⟩
theorem din_mark {L : List DE} {i j : Nat} {v p : Bool} (hi : i < L.length) (h : DIn (L.set i ((L.getD i zDE).mark v p)) j) : DIn L j := by
  obtain ⟨e, he, hj⟩ := h
  rcases List.mem_or_eq_of_mem_set he with he | he
  · exact ⟨e, he, hj⟩
  · refine ⟨L.getD i zDE, ?_, by rw [he] at hj; exact hj⟩
    rw [List.getD_eq_getElem?_getD, List.getElem?_eq_getElem hi]
    exact List.getElem_mem hi
def MarkRel (L : List DE) (k : Int) (f : DE → DE) (e : Int) (L' : List DE) : Prop :=
  (∃ i : Nat, i < L.length ∧ (L.getD i zDE).k = k ∧ e = 0 ∧ L' = L.set i (f (L.getD i zDE))) ∨ (∀ e ∈ L, e.k ≠ k) ∧ e = 10 ∧ L' = L
set_option maxHeartbeats 4000000 in
theorem dPin_ok {h : Heap} {d : Nat} {room k : Int} {is : Bool} {L : List DE} {vB vK : Value} (hs : DAt h d room L vB vK) (hl : L.length < 100000) :
    Runs Try.prog T0 (.fn fn_zdbQ) [.pointer (some ⟨d, 0, none⟩), .int .i64 k, .bool is] h
      (fun r h' => ∃ e L', r = .int .i64 e ∧ MarkRel L k (fun z => z.mark z.v is) e L' ∧ DAt h' d room L' vB vK ∧ Fr (ownedBy vK) h h' ∧ ∀ j, DIn L' j → DIn L j) (fun _ _ => False) := by
  refine zdbQ_runs ?_
  refine stp ?_
  refine O.call' (at_ok (k := k) hs hl) (fun r h1 hr => ?_)
  obtain ⟨rfl, ⟨i, hi, hik, rfl⟩ | ⟨hne, rfl⟩⟩ := hr
  · have hi3 : i * 3 + 2 < (kkcells (L.map DE.kk)).length := by rw [kk_lens, List.length_map]; omega
    obtain ⟨q, sp, cap, cs, rfl, hq, hg, hic, ho⟩ := own_put (w := .bool is) hs.oK hi3
    haveI : HGet h1 d _ := ⟨hs.gd⟩
    haveI : HGet h1 q _ := ⟨hg⟩
    haveI q1 : ∀ {ts : List Value} {h : Heap} {O : Oper} {x y : Operand} [Ev ts x (.int .i64 (i : Int))] [Ev ts y (.int .i64 0)], XOp Try.prog ts h (.bin .lss O x y) (.bool false) h := xlss0 (by omega)
    have e0 : L[i] = L.getD i zDE := by simp [List.getD, hi]
    rw [e0] at hik
    refine stp ?_
    refine O.by0 (XOp.mkStore1 (c := cs) (o := i * 3 + 2) (sp := none) (r := q) (es := 3) (by omega)).eq rfl ?_
    refine stp ?_
    have fS : Fr (ownedBy (.slice (some ⟨q, 0, sp⟩) L.length cap)) h1 (h1.set q (.cells (lset cs (i * 3 + 2) (.bool is)) 3)) := Fr.refl.set fun _ => rfl
    rw [kk_setp is (L.map DE.kk) i (by simpa using hi), kk_getD hi] at ho
    exact ⟨0, _, rfl, .inl ⟨i, hi, hik, rfl, rfl⟩, hs.mark hi fS ho, fS, fun j => din_mark hi⟩
  · refine stp ?_
    exact ⟨10, L, rfl, .inr ⟨hne, rfl, rfl⟩, hs, Fr.refl, fun j hj => hj⟩
set_option maxHeartbeats 4000000 in
theorem dVerify_ok {h : Heap} {d : Nat} {room k : Int} {L : List DE} {vB vK : Value} (hs : DAt h d room L vB vK) (hl : L.length < 100000) :
    Runs Try.prog T0 (.fn fn_zfbQ) [.pointer (some ⟨d, 0, none⟩), .int .i64 k] h
      (fun r h' => ∃ e L', r = .int .i64 e ∧ MarkRel L k (fun z => z.mark true z.p) e L' ∧ DAt h' d room L' vB vK ∧ Fr (ownedBy vK) h h' ∧ ∀ j, DIn L' j → DIn L j) (fun _ _ => False) := by
  refine zfbQ_runs ?_
  refine stp ?_
  refine O.call' (at_ok (k := k) hs hl) (fun r h1 hr => ?_)
  obtain ⟨rfl, ⟨i, hi, hik, rfl⟩ | ⟨hne, rfl⟩⟩ := hr
  · have hi3 : i * 3 + 1 < (kkcells (L.map DE.kk)).length := by rw [kk_lens, List.length_map]; omega
    obtain ⟨q, sp, cap, cs, rfl, hq, hg, hic, ho⟩ := own_put (w := .bool true) hs.oK hi3
    haveI : HGet h1 d _ := ⟨hs.gd⟩
    haveI : HGet h1 q _ := ⟨hg⟩
    haveI q1 : ∀ {ts : List Value} {h : Heap} {O : Oper} {x y : Operand} [Ev ts x (.int .i64 (i : Int))] [Ev ts y (.int .i64 0)], XOp Try.prog ts h (.bin .lss O x y) (.bool false) h := xlss0 (by omega)
    have e0 : L[i] = L.getD i zDE := by simp [List.getD, hi]
    rw [e0] at hik
    refine stp ?_
    refine O.by0 (XOp.mkStore1 (c := cs) (o := i * 3 + 1) (sp := none) (r := q) (es := 3) (by omega)).eq rfl ?_
    refine stp ?_
    have fS : Fr (ownedBy (.slice (some ⟨q, 0, sp⟩) L.length cap)) h1 (h1.set q (.cells (lset cs (i * 3 + 1) (.bool true)) 3)) := Fr.refl.set fun _ => rfl
    rw [kk_setv true (L.map DE.kk) i (by simpa using hi), kk_getD hi] at ho
    exact ⟨0, _, rfl, .inl ⟨i, hi, hik, rfl, rfl⟩, hs.mark hi fS ho, fS, fun j => din_mark hi⟩
  · refine stp ?_
    exact ⟨10, L, rfl, .inr ⟨hne, rfl, rfl⟩, hs, Fr.refl, fun j hj => hj⟩
end Go.Proofs.Ytmhnddkpiefkhaa.A

namespace Go.Proofs.Ytmhnddkpiefkhaa.A
open Go Go.Vm
set_option maxRecDepth 10000
set_option linter.unusedVariables false
theorem own_off {h : Heap} {size n n' b o cap : Nat} {sp : Option Nat} {v : Value} {c : List Value} (ho : Own h size v c n) (e : v = .slice (some ⟨b, o, sp⟩) n' cap) : o = 0 := by
  cases ho with
  | none => cases e
  | lit _ _ => cases e; rfl
  | grown _ _ _ _ _ _ => cases e; rfl
theorem pb_getD {L : List DE} {i : Nat} (hi : i < L.length) : (L.map DE.pb).getD i zPB = (L.getD i zDE).pb := by
  simp [List.getD, hi]
theorem de_mem {L : List DE} {i : Nat} (hi : i < L.length) : L.getD i zDE ∈ L := by
  rw [List.getD_eq_getElem?_getD, List.getElem?_eq_getElem hi]
  exact List.getElem_mem hi
theorem de_block {h : Heap} {d : Nat} {room : Int} {L : List DE} {vB vK : Value} {i : Nat} (hs : DAt h d room L vB vK) (hi : i < L.length) :
    ∃ b sp cap, vB = .slice (some ⟨b, 0, sp⟩) L.length cap ∧ Cells h b (i * 166) 166 ((L.getD i zDE).x.cells (L.getD i zDE).sv (L.getD i zDE).sl) := by
  have hats : ∀ e ∈ L.map DE.pb, e.At h := fun e he => by
    obtain ⟨z, hz, rfl⟩ := List.mem_map.1 he
    exact hs.ats z hz
  have hR := hs.oB.rd
  have ho := hs.oB
  cases vB with
  | slice a n cap =>
    obtain ⟨a', cap', e, _, hc⟩ := hR
    injection e with e1 e2 e3
    subst e1 e2 e3
    obtain ⟨b, o, sp, rfl, hb, hcc⟩ := hc (by omega)
    have ho0 : o = 0 := own_off ho rfl
    subst ho0
    have h1 := pb_cells (l := L.map DE.pb) (n := L.length) hats hcc (by simp) hi
    rw [pb_getD hi, Nat.zero_add] at h1
    exact ⟨b, sp, cap, rfl, h1⟩
  | _ => obtain ⟨a', cap', e, _⟩ := hR; cases e
theorem de_marks {h : Heap} {d : Nat} {room : Int} {L : List DE} {vB vK : Value} {i : Nat} (hs : DAt h d room L vB vK) (hi : i < L.length) :
    ∃ b sp cap, vK = .slice (some ⟨b, 0, sp⟩) L.length cap ∧ Cell h b (i * 3) (.int .i64 (L.getD i zDE).k) ∧ Cell h b (i * 3 + 1) (.bool (L.getD i zDE).v) ∧ Cell h b (i * 3 + 2) (.bool (L.getD i zDE).p) := by
  have hR := hs.oK.rd
  have ho := hs.oK
  cases vK with
  | slice a n cap =>
    obtain ⟨a', cap', e, _, hc⟩ := hR
    injection e with e1 e2 e3
    subst e1 e2 e3
    obtain ⟨b, o, sp, rfl, hb, hcc⟩ := hc (by omega)
    have ho0 : o = 0 := own_off ho rfl
    subst ho0
    have h1 := de_cells hcc hi
    rw [Nat.zero_add] at h1
    exact ⟨b, sp, cap, rfl, h1⟩
  | _ => obtain ⟨a', cap', e, _⟩ := hR; cases e
set_option maxHeartbeats 4000000 in
theorem dGet_ok {h : Heap} {d : Nat} {room k : Int} {L : List DE} {vB vK : Value} (hs : DAt h d room L vB vK) (hl : L.length < 100000) :
    Runs Try.prog T0 (.fn fn_zcbQ) [.pointer (some ⟨d, 0, none⟩), .int .i64 k] h
      (fun r h' => ((∃ y ∈ L, y.k = k ∧ ∃ sw sm, r = .tuple ⟨[.agg ⟨y.x.cells sw sm⟩, .bool true]⟩ ∧ BkNew (h.n + 1) h' y.x sw sm) ∨ (∀ y ∈ L, y.k ≠ k) ∧ r = .tuple ⟨[.agg ⟨zBc⟩, .bool false]⟩) ∧ Fr (fun _ => False) h h') (fun _ _ => False) := by
  refine zcbQ_runs ?_
  refine stp ?_
  have F0 : Fr (fun _ => False) h (h.push (.cells zBc 0)) := Fr.refl.push
  have g0 : (h.push (.cells zBc 0)).get h.n = .cells zBc 0 := HGet.new.eq
  have n0 : (h.push (.cells zBc 0)).n = h.n + 1 := rfl
  generalize h.push (.cells zBc 0) = h0 at *
  have hs0 := hs.keep F0 (fun _ _ => id) (fun _ _ => id)
  refine O.call' (at_ok (k := k) hs0 hl) (fun r h1 hr => ?_)
  obtain ⟨rfl, ⟨i, hi, hik, rfl⟩ | ⟨hne, rfl⟩⟩ := hr
  · have e0 : L[i] = L.getD i zDE := by simp [List.getD, hi]
    rw [e0] at hik
    obtain ⟨b, sp, cap, rfl, hc⟩ := de_block hs0 hi
    have ha := hs0.ats _ (de_mem hi)
    haveI : HGet h1 d _ := ⟨hs0.gd⟩
    haveI : HGet h1 h.n _ := ⟨g0⟩
    haveI := hc
    haveI := l32 ha.rd.hd.prev
    haveI := l32 ha.rd.hd.vals
    haveI := l32 ha.rd.hd.next
    haveI := l32 ha.rd.hd.app
    haveI := l32 ha.rd.hash
    haveI q1 : ∀ {ts : List Value} {h : Heap} {O : Oper} {x y : Operand} [Ev ts x (.int .i64 (i : Int))] [Ev ts y (.int .i64 0)], XOp Try.prog ts h (.bin .lss O x y) (.bool false) h := xlss0 (by omega)
    refine stp ?_
    refine O.call' (CopyBlockA_ok ha.rd (by have := ha.lv; omega) (by have := ha.ll; omega)) (fun r h2 hr => ?_)
    obtain ⟨sw, sm, rfl, o1, o2, m1, m2, m3, f1⟩ := hr
    haveI : HGet h2 h.n _ := f1.keep ⟨g0⟩ (by omega) id
    obtain ⟨a3, c3, rfl, _, _⟩ := id o1.rd
    obtain ⟨a4, c4, rfl, _, _⟩ := id o2.rd
    refine stp ?_
    have fS : ∀ {A : AObj}, Fr (fun i => i = h.n) h2 (h2.set h.n A) := fun {A} => Fr.refl.set fun _ => rfl
    exact ⟨.inl ⟨_, de_mem hi, hik, _, _, rfl, ha.rd.hd, ha.rd.hash, o1.keep fS fun i hi e => by have := m1 i hi; omega, o2.keep fS fun i hi e => by have := m2 i hi; omega, fun i hi => by have := m1 i hi; omega, fun i hi => by have := m2 i hi; omega, fun i hi q => m3 i q hi⟩, (F0.trans' f1).set fun e => absurd e (by omega)⟩
  · haveI : HGet h1 h.n _ := ⟨g0⟩
    refine stp ?_
    exact ⟨.inr ⟨hne, rfl⟩, F0.set fun e => absurd e (by omega)⟩
def DBelow (L : List DE) (k : Int) (o : Option DE) : Prop := match o with
  | none => ∀ y ∈ L, ¬ (y.v = true ∧ y.k < k)
  | some y => ∃ i : Nat, i < L.length ∧ y = L.getD i zDE ∧ y.v = true ∧ y.k < k ∧ ∀ j, i < j → j < L.length → ¬ ((L.getD j zDE).v = true ∧ (L.getD j zDE).k < k)
set_option maxHeartbeats 8000000 in
theorem dBelow_ok {h : Heap} {d : Nat} {room k : Int} {L : List DE} {vB vK : Value} (hs : DAt h d room L vB vK) (hl : L.length < 100000) :
    Runs Try.prog T0 (.fn fn_zabQ) [.pointer (some ⟨d, 0, none⟩), .int .i64 k] h
      (fun r h' => ((∃ y ∈ L, DBelow L k (some y) ∧ ∃ sw sm, r = .tuple ⟨[.agg ⟨y.x.cells sw sm⟩, .bool true]⟩ ∧ BkNew (h.n + 1) h' y.x sw sm) ∨ DBelow L k none ∧ r = .tuple ⟨[.agg ⟨zBc⟩, .bool false]⟩) ∧ Fr (fun _ => False) h h') (fun _ _ => False) := by
  refine zabQ_runs ?_
  have F0 : Fr (fun _ => False) h (h.push (.cells zBc 0)) := Fr.refl.push
  have hs0 := hs.keep F0 (fun _ _ => id) (fun _ _ => id)
  have g0 : (h.push (.cells zBc 0)).get h.n = .cells zBc 0 := HGet.new.eq
  have n0 : (h.push (.cells zBc 0)).n = h.n + 1 := rfl
  haveI : HGet h d _ := ⟨hs.gd⟩
  haveI : BLt d h := ⟨hs.dl⟩
  obtain ⟨aK, cK, rfl, _, _⟩ := id hs.oK.rd
  refine stp ?_
  generalize h.push (.cells zBc 0) = h0 at *
  refine loop1 zabQ_l0_M 6 (fun q v6 hx => ∃ n : Nat, n ≤ L.length ∧ q = n ∧ v6 = .int .i64 ((n : Int) - 1) ∧ (∀ j, n ≤ j → j < L.length → ¬ ((L.getD j zDE).v = true ∧ (L.getD j zDE).k < k)) ∧ hx = h0) ?_ L.length ⟨L.length, Nat.le_refl _, rfl, rfl, fun j h1 h2 => by omega, rfl⟩
  rintro m v6 h' x5 x13 x14 x15 x16 x17 x18 x19 x20 x21 x22 x23 x24 x25 x26 x27 x28 x29 x30 x31 x32 x33 x34 x35 x36 x37 x38 x39 x40 x41 x42 x43 x44 ⟨n, hn, rfl, rfl, hno, rfl⟩
  haveI : HGet h' d _ := ⟨hs0.gd⟩
  refine stp ?_
  refine C.if (fun hge => ?_) (fun hlt => ?_)
  · obtain ⟨i, rfl⟩ : ∃ i, m = i + 1 := ⟨m - 1, by omega⟩
    have ei : ((i + 1 : Nat) : Int) - 1 = (i : Int) := by omega
    have hi : i < L.length := by omega
    rw [ei]
    obtain ⟨b, sp, cap, rfl, hc⟩ := de_block hs0 hi
    obtain ⟨bk, sk, ck, ek, d0, d1, d2⟩ := de_marks hs0 hi
    injection ek with ek1 _ ek3
    subst ek1 ek3
    haveI := d0
    haveI := d1
    have next : ¬ ((L.getD i zDE).v = true ∧ (L.getD i zDE).k < k) → (∃ n : Nat, n ≤ L.length ∧ i = n ∧ Value.int .i64 ((i : Int) - 1) = .int .i64 ((n : Int) - 1) ∧ (∀ j, n ≤ j → j < L.length → ¬ ((L.getD j zDE).v = true ∧ (L.getD j zDE).k < k)) ∧ h' = h') := fun hn => ⟨i, by omega, rfl, rfl, fun j h1 h2 => by
      rcases Nat.lt_or_eq_of_le h1 with h3 | h3
      · exact hno j (by omega) h2
      · rw [← h3]; exact hn, rfl⟩
    refine stp ?_
    cases hv : (L.getD i zDE).v with
    | false =>
      refine stp ?_
      exact loop1a 6 i (by omega) (next (by rw [hv]; intro e; exact absurd e.1 (by decide)))
    | true =>
    refine stp ?_
    refine C.if (fun hk => ?_) (fun hk => ?_)
    · have ha := hs0.ats _ (de_mem hi)
      haveI : HGet h' h.n _ := ⟨g0⟩
      haveI := hc
      haveI := l32 ha.rd.hd.prev
      haveI := l32 ha.rd.hd.vals
      haveI := l32 ha.rd.hd.next
      haveI := l32 ha.rd.hd.app
      haveI := l32 ha.rd.hash
      refine stp ?_
      refine O.call' (CopyBlockA_ok ha.rd (by have := ha.lv; omega) (by have := ha.ll; omega)) (fun r h2 hr => ?_)
      obtain ⟨sw, sm, rfl, o1, o2, m1, m2, m3, f1⟩ := hr
      haveI : HGet h2 h.n _ := f1.keep ⟨g0⟩ (by omega) id
      obtain ⟨a3, c3, rfl, _, _⟩ := id o1.rd
      obtain ⟨a4, c4, rfl, _, _⟩ := id o2.rd
      refine stp ?_
      have fS : ∀ {A : AObj}, Fr (fun i => i = h.n) h2 (h2.set h.n A) := fun {A} => Fr.refl.set fun _ => rfl
      exact ⟨.inl ⟨_, de_mem hi, ⟨i, hi, rfl, hv, hk, fun j h1 h2 => hno j (by omega) h2⟩, _, _, rfl, ha.rd.hd, ha.rd.hash, o1.keep fS fun i hi e => by have := m1 i hi; omega, o2.keep fS fun i hi e => by have := m2 i hi; omega, fun i hi => by have := m1 i hi; omega, fun i hi => by have := m2 i hi; omega, fun i hi q => m3 i q hi⟩, (F0.trans' f1).set fun e => absurd e (by omega)⟩
    · refine stp ?_
      exact loop1a 6 i (by omega) (next (fun e => hk e.2))
  · obtain rfl : m = 0 := by omega
    haveI : HGet h' h.n _ := ⟨g0⟩
    refine stp ?_
    refine ⟨.inr ⟨fun y hy => ?_, rfl⟩, F0.set fun e => absurd e (by omega)⟩
    obtain ⟨j, hj, rfl⟩ := List.getElem_of_mem hy
    have := hno j (by omega) hj
    rwa [show L.getD j zDE = L[j] by simp [List.getD, hj]] at this
theorem clear_step {L : List DE} {i : Nat} (hi : i < L.length) (k : Int) :
    (L.getD i zDE).k ≠ k → ((L.take (i + 1) ++ (L.drop (i + 1)).filter fun z => decide (z.k = k)).take i ++ (L.take (i + 1) ++ (L.drop (i + 1)).filter fun z => decide (z.k = k)).drop (i + 1)) = L.take i ++ (L.drop i).filter fun z => decide (z.k = k) := fun hk => by
  have e0 : L.getD i zDE = L[i] := by simp [List.getD, hi]
  have l1 : (L.take (i + 1)).length = i + 1 := by rw [List.length_take]; omega
  rw [List.take_append_of_le_length (by omega), List.take_take, Nat.min_eq_left (by omega), List.drop_append_of_le_length (by omega), List.drop_eq_nil_of_le (by omega), List.nil_append, List.drop_eq_getElem_cons hi, List.filter_cons]
  rw [e0] at hk
  simp [hk]
theorem clear_stay {L : List DE} {i : Nat} (hi : i < L.length) (k : Int) :
    (L.getD i zDE).k = k → L.take (i + 1) ++ (L.drop (i + 1)).filter (fun z => decide (z.k = k)) = L.take i ++ (L.drop i).filter fun z => decide (z.k = k) := fun hk => by
  have e0 : L.getD i zDE = L[i] := by simp [List.getD, hi]
  rw [e0] at hk
  rw [List.drop_eq_getElem_cons hi, List.filter_cons, if_pos (by simpa using hk), List.take_succ_eq_append_getElem hi, List.append_assoc]
  rfl
set_option maxHeartbeats 8000000 in
theorem dClear_ok {h : Heap} {d : Nat} {room k : Int} {L : List DE} {vB vK : Value} (hs : DAt h d room L vB vK) (hl : L.length < 100000) :
    Runs Try.prog T0 (.fn fn_zbbQ) [.pointer (some ⟨d, 0, none⟩), .int .i64 k] h
      (fun r h' => ∃ vB' vK', DAt h' d room (L.filter fun z => decide (z.k = k)) vB' vK' ∧ Fr (fun j => j = d) h h' ∧ ∀ j, DOwn d vB' vK' j → DOwn d vB vK j ∨ h.n ≤ j) (fun _ _ => False) := by
  refine zbbQ_runs ?_
  haveI : HGet h d _ := ⟨hs.gd⟩
  obtain ⟨aK, cK, eK, _, _⟩ := id hs.oK.rd
  subst eK
  refine stp ?_
  generalize hvK : Value.slice aK L.length cK = vK at *
  refine loop1 zbbQ_l0_M 4 (fun q v4 hx => ∃ (n : Nat) (wB wK : Value), n ≤ L.length ∧ q = n ∧ v4 = .int .i64 ((n : Int) - 1) ∧ DAt hx d room (L.take n ++ (L.drop n).filter fun z => decide (z.k = k)) wB wK ∧ Fr (fun j => j = d) h hx ∧ ∀ j, DOwn d wB wK j → DOwn d vB vK j ∨ h.n ≤ j) ?_ L.length ⟨L.length, vB, vK, Nat.le_refl _, rfl, rfl, by rw [List.take_length, List.drop_length, List.filter_nil, List.append_nil]; exact hs, Fr.refl, fun j hj => .inl hj⟩
  rintro m v4 h' x11 x12 x13 x14 x15 x16 x17 x18 x19 x20 x21 x22 x23 x24 x25 x26 x27 ⟨n, wB, wK, hn, rfl, rfl, hs1, hF, hown⟩
  refine stp ?_
  refine C.if (fun hge => ?_) (fun hlt => ?_)
  · obtain ⟨i, rfl⟩ : ∃ i, m = i + 1 := ⟨m - 1, by omega⟩
    have ei : ((i + 1 : Nat) : Int) - 1 = (i : Int) := by omega
    have hi : i < L.length := by omega
    rw [ei]
    have hlen : i < (L.take (i + 1) ++ (L.drop (i + 1)).filter fun z => decide (z.k = k)).length := by rw [List.length_append, List.length_take]; omega
    have hle : (L.take (i + 1) ++ (L.drop (i + 1)).filter fun z => decide (z.k = k)).length < 100000 := by
      have := List.length_filter_le (fun z : DE => decide (z.k = k)) (L.drop (i + 1))
      rw [List.length_drop] at this
      rw [List.length_append, List.length_take]
      omega
    have hgi : (L.take (i + 1) ++ (L.drop (i + 1)).filter fun z => decide (z.k = k)).getD i zDE = L.getD i zDE := by
      have l1 : i < (L.take (i + 1)).length := by rw [List.length_take]; omega
      simp only [List.getD_eq_getElem?_getD]
      rw [List.getElem?_append_left l1, List.getElem?_take_of_lt (by omega)]
    have hst := clear_step hi k
    have hsy := clear_stay hi k
    obtain ⟨bk, sk, ck, rfl, d0, d1, d2⟩ := de_marks hs1 hlen
    rw [hgi] at d0
    generalize hLc : (L.take (i + 1) ++ (L.drop (i + 1)).filter fun z => decide (z.k = k)) = Lc at *
    haveI := d0
    haveI : HGet h' d _ := ⟨hs1.gd⟩
    refine stp ?_
    refine C.ifN (fun hne => ?_) (fun heq => ?_)
    · refine stp ?_
      refine O.call' (take_ok hs1 hle hlen) (fun r h2 hr => ?_)
      obtain ⟨wB2, wK2, hs2, f2, ho2⟩ := hr
      refine stp ?_
      rw [hst hne] at hs2
      refine loop1a 4 i (by omega) ⟨i, wB2, wK2, by omega, rfl, rfl, hs2, hF.trans' f2, fun j hj => (ho2 j hj).elim (fun e => .inl (.inl e)) (fun e => .inr (by have := hF.n; omega))⟩
    · refine stp ?_
      rw [hsy heq] at hs1
      exact loop1a 4 i (by omega) ⟨i, _, _, by omega, rfl, rfl, hs1, hF, hown⟩
  · obtain rfl : m = 0 := by omega
    refine stp ?_
    rw [List.take_zero, List.drop_zero, List.nil_append] at hs1
    exact ⟨wB, wK, hs1, hF, hown⟩
end Go.Proofs.Ytmhnddkpiefkhaa.A

namespace Go.Proofs.Ytmhnddkpiefkhaa.A
open Go Go.Vm
set_option maxRecDepth 10000
set_option linter.unusedVariables false
structure TR where
  x : Bk
  v : Bool
  p : Bool
def SE.tr (e : SE) : TR := ⟨e.x, e.v, e.p⟩
def DE.tr (e : DE) : TR := ⟨e.x, e.v, e.p⟩
abbrev TR.k (e : TR) : Int := e.x.h.height
structure Corr (l : List SE) (L : List DE) : Prop where
  pm : (l.map SE.tr).Perm (L.map DE.tr)
  so : (L.map DE.k).Pairwise (· < ·)
theorem Corr.mem1 {l : List SE} {L : List DE} (hc : Corr l L) {y : SE} (hy : y ∈ l) : ∃ z ∈ L, z.tr = y.tr := by
  obtain ⟨z, hz, e⟩ := List.mem_map.1 (hc.pm.mem_iff.1 (List.mem_map.2 ⟨y, hy, rfl⟩))
  exact ⟨z, hz, e⟩
theorem Corr.mem2 {l : List SE} {L : List DE} (hc : Corr l L) {z : DE} (hz : z ∈ L) : ∃ y ∈ l, y.tr = z.tr := by
  obtain ⟨y, hy, e⟩ := List.mem_map.1 (hc.pm.mem_iff.2 (List.mem_map.2 ⟨z, hz, rfl⟩))
  exact ⟨y, hy, e⟩
theorem Corr.len {l : List SE} {L : List DE} (hc : Corr l L) : l.length = L.length := by simpa using hc.pm.length_eq
theorem Corr.nil : Corr [] [] := ⟨.nil, .nil⟩
theorem tr_k {y : SE} {z : DE} (e : y.tr = z.tr) : y.k = z.k := congrArg TR.k e
theorem tr_x {y : SE} {z : DE} (e : y.tr = z.tr) : y.x = z.x := congrArg TR.x e
theorem tr_v {y : SE} {z : DE} (e : y.tr = z.tr) : y.v = z.v := congrArg TR.v e
theorem tr_p {y : SE} {z : DE} (e : y.tr = z.tr) : y.p = z.p := congrArg TR.p e
theorem so_lt {L : List DE} (h : (L.map DE.k).Pairwise (· < ·)) {i j : Nat} (hij : i < j) (hj : j < L.length) : (L.getD i zDE).k < (L.getD j zDE).k := by
  have h1 := List.pairwise_iff_getElem.1 h i j (by simp; omega) (by simpa using hj) hij
  rw [List.getElem_map, List.getElem_map] at h1
  simpa [List.getD, hj, show i < L.length by omega] using h1
theorem de_idx {L : List DE} {z : DE} (hz : z ∈ L) : ∃ i, i < L.length ∧ L.getD i zDE = z := by
  obtain ⟨i, hi, rfl⟩ := List.getElem_of_mem hz
  exact ⟨i, hi, by simp [List.getD, hi]⟩
theorem so_inj {L : List DE} (h : (L.map DE.k).Pairwise (· < ·)) {a b : DE} (ha : a ∈ L) (hb : b ∈ L) (e : a.k = b.k) : a = b := by
  obtain ⟨i, hi, rfl⟩ := de_idx ha
  obtain ⟨j, hj, rfl⟩ := de_idx hb
  rcases Nat.lt_trichotomy i j with h1 | h1 | h1
  · have := so_lt h h1 hj
    omega
  · rw [h1]
  · have := so_lt h h1 hi
    omega
theorem Corr.inj {l : List SE} {L : List DE} (hc : Corr l L) {y : SE} {z : DE} (hy : y ∈ l) (hz : z ∈ L) (e : y.k = z.k) : y.tr = z.tr := by
  obtain ⟨z', hz', e'⟩ := hc.mem1 hy
  rw [← e', so_inj hc.so hz hz' (by rw [← e]; exact tr_k e'.symm)]
theorem ins_so {L : List DE} {k : Int} {a : Nat} {n : DE} (h : (L.map DE.k).Pairwise (· < ·)) (hp : PosP L k a) (hn : n.k = k) (hne : ∀ y ∈ L, y.k ≠ k) : ((L.take a ++ n :: L.drop a).map DE.k).Pairwise (· < ·) := by
  obtain ⟨ha, h1, h2⟩ := hp
  have hd := h
  rw [← List.take_append_drop a L, List.map_append, List.pairwise_append] at hd
  obtain ⟨d1, d2, d3⟩ := hd
  have q1 : ∀ b ∈ (L.drop a).map DE.k, k < b := fun b hb => by
    obtain ⟨z, hz, rfl⟩ := List.mem_map.1 hb
    have hne' := hne z (List.mem_of_mem_drop hz)
    obtain ⟨j, hj, rfl⟩ := List.getElem_of_mem hz
    rw [List.length_drop] at hj
    have e0 : (L.drop a)[j] = L.getD (a + j) zDE := by
      rw [List.getElem_drop]
      simp [List.getD, show a + j < L.length by omega]
    rw [e0] at hne' ⊢
    have h3 := h2 (by omega)
    rcases Nat.eq_zero_or_pos j with hj0 | hj0
    · subst hj0
      rw [Nat.add_zero] at hne' ⊢
      omega
    · have := so_lt h (i := a) (j := a + j) (by omega) (by omega)
      omega
  have q0 : ∀ b ∈ (L.take a).map DE.k, b < k := fun b hb => by
    obtain ⟨z, hz, rfl⟩ := List.mem_map.1 hb
    obtain ⟨j, hj, rfl⟩ := List.getElem_of_mem hz
    have hj' := hj
    rw [List.length_take] at hj'
    have := h1 j (by omega)
    rw [List.getElem_take]
    simpa [List.getD, show j < L.length by omega] using this
  rw [List.map_append, List.map_cons, List.pairwise_append, List.pairwise_cons]
  refine ⟨d1, ⟨fun b hb => by rw [hn]; exact q1 b hb, d2⟩, fun b hb c hc => ?_⟩
  rcases List.mem_cons.1 hc with hc | hc
  · rw [hc, hn]; exact q0 b hb
  · exact d3 b hb c hc
theorem ins_corr {l : List SE} {L : List DE} {a : Nat} {k : Int} {n : SE} {m : DE} (hc : Corr l L) (hp : PosP L k a) (hm : m.k = k) (hne : ∀ y ∈ L, y.k ≠ k) (e : n.tr = m.tr) : Corr (l ++ [n]) (L.take a ++ m :: L.drop a) := by
  refine ⟨?_, ins_so hc.so hp hm hne⟩
  rw [List.map_append, List.map_append, List.map_singleton, e]
  refine List.perm_append_comm.trans ?_
  refine List.Perm.trans ?_ List.perm_middle.symm
  rw [← List.map_append, List.take_append_drop]
  exact List.Perm.cons _ hc.pm
theorem less_eq {L : List DE} {i : Nat} (h : (L.map DE.k).Pairwise (· < ·)) (hi : i < L.length) : L.take i ++ L.drop (i + 1) = L.filter fun z => !decide (z.k = (L.getD i zDE).k) := by
  have e0 : L.getD i zDE = L[i] := by simp [List.getD, hi]
  have h1 : ∀ z ∈ L.take i, z.k ≠ (L.getD i zDE).k := fun z hz => by
    obtain ⟨j, hj, rfl⟩ := List.getElem_of_mem hz
    rw [List.length_take] at hj
    have := so_lt h (i := j) (j := i) (by omega) hi
    rw [List.getElem_take]
    have e1 : L.getD j zDE = L[j]'(by omega) := by simp [List.getD, show j < L.length by omega]
    rw [e1] at this
    omega
  have h2 : ∀ z ∈ L.drop (i + 1), z.k ≠ (L.getD i zDE).k := fun z hz => by
    obtain ⟨j, hj, rfl⟩ := List.getElem_of_mem hz
    rw [List.length_drop] at hj
    have := so_lt h (i := i) (j := i + 1 + j) (by omega) (by omega)
    rw [List.getElem_drop]
    have e1 : L.getD (i + 1 + j) zDE = L[i + 1 + j]'(by omega) := by simp [List.getD, show i + 1 + j < L.length by omega]
    rw [e1] at this
    omega
  have h3 : ∀ {A : List DE}, (∀ z ∈ A, z.k ≠ (L.getD i zDE).k) → A.filter (fun z => !decide (z.k = (L.getD i zDE).k)) = A := fun {A} hA => List.filter_eq_self.2 fun z hz => by
    have := hA z hz
    simp only [Bool.not_eq_true', decide_eq_false_iff_not]
    exact this
  have h4 : L = L.take i ++ (L.getD i zDE :: L.drop (i + 1)) := by
    rw [e0, ← List.drop_eq_getElem_cons hi, List.take_append_drop]
  have h5 : L.filter (fun z => !decide (z.k = (L.getD i zDE).k)) = (L.take i ++ (L.getD i zDE :: L.drop (i + 1))).filter (fun z => !decide (z.k = (L.getD i zDE).k)) := congrArg (List.filter _) h4
  rw [h5, List.filter_append, List.filter_cons, h3 h1, h3 h2]
  simp
theorem filter_corr {l : List SE} {L : List DE} (hc : Corr l L) (q : Int → Bool) : Corr (l.filter fun z => q z.k) (L.filter fun z => q z.k) := by
  refine ⟨?_, hc.so.sublist ((List.filter_sublist).map _)⟩
  have e1 : (l.filter fun z => q z.k).map SE.tr = (l.map SE.tr).filter fun t => q t.k := by rw [List.filter_map]; rfl
  have e2 : (L.filter fun z => q z.k).map DE.tr = (L.map DE.tr).filter fun t => q t.k := by rw [List.filter_map]; rfl
  rw [e1, e2]
  exact hc.pm.filter _
theorem only_corr {l : List SE} {L : List DE} (hc : Corr l L) (k : Int) : Corr (onlyS k l) (L.filter fun z => decide (z.k = k)) := filter_corr hc fun j => decide (j = k)
theorem vic_corr {l : List SE} {L : List DE} (hc : Corr l L) {y : SE} {i : Nat} (hy : y ∈ l) (hp : y.p = false) (hmin : ∀ z ∈ l, z.p = false → ¬ KeyLt z y) (hi : i < L.length) (hv : vicN L L.length = i) : y.k = (L.getD i zDE).k := by
  have hvic := vic_ok L L.length
  rw [hv] at hvic
  rcases hvic with ⟨h1, _⟩ | ⟨n, hn, hr, hnp, h1, h2⟩
  · omega
  have : n = i := by omega
  subst this
  obtain ⟨y', hy', ey⟩ := hc.mem1 hy
  obtain ⟨j, hj, rfl⟩ := de_idx hy'
  obtain ⟨z', hz', ez⟩ := hc.mem2 (de_mem hi)
  have ezk := tr_k ez
  have ezv := tr_v ez
  have ezp := tr_p ez
  have eyk := tr_k ey.symm
  have eyv := tr_v ey.symm
  have eyp := tr_p ey.symm
  have hno := hmin z' hz' (by rw [ezp]; exact hnp)
  rw [hp] at eyp
  have hjv := h1 j hj eyp.symm
  unfold KeyLt rankS at hno
  rcases Nat.lt_trichotomy j n with h | h | h
  · obtain ⟨q1, q2⟩ := h2 j h eyp.symm
    rw [ezv, eyv, q1, q2] at hno
    exact absurd (.inl (by decide)) hno
  · rw [eyk, h]
  · have hlt := so_lt hc.so h hj
    rcases hjv with q | q
    · cases hq : y.v with
      | true =>
        rw [ezv, q, hq] at hno
        exact absurd (.inl (by decide)) hno
      | false =>
        rw [ezv, q, hq] at hno
        exact absurd (.inr ⟨rfl, by omega⟩) hno
    · cases hq : (L.getD n zDE).v with
      | true =>
        rw [ezv, hq, eyv, q] at hno
        exact absurd (.inr ⟨rfl, by omega⟩) hno
      | false =>
        rw [ezv, hq, eyv, q] at hno
        exact absurd (.inl (by decide)) hno
theorem vic_none {l : List SE} {L : List DE} (hc : Corr l L) : (∀ y ∈ l, y.p = true) ↔ vicN L L.length < 0 := by
  have hvic := vic_ok L L.length
  constructor
  · intro h
    rcases hvic with ⟨h1, _⟩ | ⟨n, hn, hr, hnp, _⟩
    · omega
    · obtain ⟨y, hy, e⟩ := hc.mem2 (de_mem hn)
      have := h y hy
      rw [tr_p e, hnp] at this
      cases this
  · intro h y hy
    rcases hvic with ⟨_, h1⟩ | ⟨n, hn, hr, _⟩
    · obtain ⟨z, hz, e⟩ := hc.mem1 hy
      obtain ⟨j, hj, rfl⟩ := de_idx hz
      rw [tr_p e.symm]
      exact h1 j hj
    · omega
theorem put_corr {room : Int} {l l' : List SE} {L L' : List DE} {x : Bk} {g g' e e' : Int} (hc : Corr l L) (h1 : PutRel room l x g e l') (h2 : DPutRel room L x g' e' L') : g = g' ∧ e = e' ∧ Corr l' L' := by
  have hlen := hc.len
  have k1 : ∀ {k : Int}, (∃ y ∈ l, y.k = k) → (∀ y ∈ L, y.k ≠ k) → False := fun {k} ⟨y, hy, e⟩ hn => by
    obtain ⟨z, hz, e'⟩ := hc.mem1 hy
    exact hn z hz (by rw [← e]; exact (tr_k e'.symm).symm)
  have k2 : ∀ {k : Int}, (∃ y ∈ L, y.k = k) → (∀ y ∈ l, y.k ≠ k) → False := fun {k} ⟨y, hy, e⟩ hn => by
    obtain ⟨z, hz, e'⟩ := hc.mem2 hy
    exact hn z hz (by rw [← e]; exact tr_k e')
  rcases h1 with ⟨hr, rfl, rfl, rfl⟩ | ⟨hin, h1⟩
  · rcases h2 with ⟨_, rfl, rfl, rfl⟩ | ⟨hin, _⟩
    · exact ⟨rfl, rfl, hc⟩
    · exact absurd hr (by clear k1 k2; omega)
  rcases h2 with ⟨hr, _⟩ | ⟨_, h2⟩
  · exact absurd hr (by clear k1 k2 h1; omega)
  rcases h1 with ⟨he, rfl, rfl, rfl⟩ | ⟨hne, h1⟩
  · rcases h2 with ⟨_, rfl, rfl, rfl⟩ | ⟨hne, _⟩
    · exact ⟨rfl, rfl, hc⟩
    · exact (k1 he hne).elim
  rcases h2 with ⟨he, _⟩ | ⟨hne', h2⟩
  · exact (k2 he hne).elim
  rcases h1 with ⟨hf, hall, rfl, rfl, rfl⟩ | ⟨n, n1, n2, n3, rfl, h1⟩
  · rcases h2 with ⟨_, _, rfl, rfl, rfl⟩ | ⟨L1, a, m, _, _, _, _, _, _, ⟨h3, _⟩ | ⟨_, i, hi, hv, _⟩⟩
    · exact ⟨rfl, rfl, hc⟩
    · rw [hlen] at hf
      exact absurd (Int.lt_of_lt_of_le h3 hf) (Int.lt_irrefl _)
    · have h9 := (vic_none hc).1 hall
      rw [hv] at h9
      exact absurd h9 (Int.not_lt.2 (Int.natCast_nonneg _))
  rcases h2 with ⟨hf, hv, rfl, rfl, rfl⟩ | ⟨L1, a, m, m1, m2, m3, rfl, hpos, rfl, h2⟩
  · rcases h1 with ⟨h3, _⟩ | ⟨_, y, hy, hyp, _⟩
    · rw [hlen] at h3
      exact absurd (Int.lt_of_lt_of_le h3 hf) (Int.lt_irrefl _)
    · have := (vic_none hc).2 hv y hy
      rw [hyp] at this
      cases this
  have et : n.tr = m.tr := by unfold SE.tr DE.tr; rw [n1, n2, n3, m1, m2, m3]
  have emk : m.k = x.h.height := by show m.x.h.height = _; rw [m1]
  rcases h1 with ⟨hfr, rfl, rfl⟩ | ⟨hfu, y, hy, hyp, hmin, rfl, rfl⟩
  · rcases h2 with ⟨_, rfl, rfl⟩ | ⟨h3, _⟩
    · exact ⟨rfl, rfl, ins_corr hc hpos emk hne' et⟩
    · rw [hlen] at hfr
      exact absurd (Int.lt_of_lt_of_le hfr h3) (Int.lt_irrefl _)
  · rw [hlen] at hfu
    rcases h2 with ⟨h3, _⟩ | ⟨_, i, hi, hv, rfl, rfl⟩
    · exact absurd (Int.lt_of_lt_of_le h3 hfu) (Int.lt_irrefl _)
    · have ek := vic_corr hc hy hyp hmin hi hv
      rw [less_eq hc.so hi] at hpos ⊢
      rw [ek]
      exact ⟨rfl, rfl, ins_corr (filter_corr hc fun j => !decide (j = (L.getD i zDE).k)) hpos emk (fun z hz => hne' z (List.mem_filter.1 hz).1) et⟩
theorem mark_corr {l : List SE} {L L' : List DE} {k e e' : Int} {f : SE → SE} {F : DE → DE} {g : TR → TR} (hc : Corr l L) (hf : ∀ z, (f z).tr = g z.tr) (hF : ∀ z, (F z).tr = g z.tr) (hg : ∀ t, (g t).k = t.k) (h1 : withE l k e) (h2 : MarkRel L k F e' L') : e = e' ∧ Corr (turnS k f l) L' := by
  rcases h2 with ⟨i, hi, hk, rfl, rfl⟩ | ⟨hne, rfl, rfl⟩
  · have he : e = 0 := by
      rcases h1 with ⟨_, h⟩ | ⟨h, _⟩
      · exact h
      · obtain ⟨y, hy, ey⟩ := hc.mem2 (de_mem hi)
        exact absurd (by rw [tr_k ey, hk]) (h y hy)
    have eL : L.set i (F (L.getD i zDE)) = L.map fun z => if z.k = k then F z else z := by
      refine List.ext_getElem (by simp) fun j h3 h4 => ?_
      rw [List.getElem_set, List.getElem_map]
      rw [List.length_set] at h3
      have ej : L[j] = L.getD j zDE := by simp [List.getD, h3]
      rw [ej]
      by_cases hij : i = j
      · subst hij
        rw [if_pos rfl, if_pos hk]
      · rw [if_neg hij, if_neg]
        intro hk2
        rcases Nat.lt_or_gt_of_ne hij with h5 | h5
        · have := so_lt hc.so h5 h3
          omega
        · have := so_lt hc.so h5 hi
          omega
    refine ⟨he, ?_, ?_⟩
    · rw [eL]
      unfold turnS
      have e1 : (l.map fun z => if z.k = k then f z else z).map SE.tr = (l.map SE.tr).map fun t => if t.k = k then g t else t := by
        rw [List.map_map, List.map_map]
        refine List.map_congr_left fun z _ => ?_
        show (if z.k = k then f z else z).tr = if z.k = k then g z.tr else z.tr
        split
        · exact hf z
        · rfl
      have e2 : (L.map fun z => if z.k = k then F z else z).map DE.tr = (L.map DE.tr).map fun t => if t.k = k then g t else t := by
        rw [List.map_map, List.map_map]
        refine List.map_congr_left fun z _ => ?_
        show (if z.k = k then F z else z).tr = if z.k = k then g z.tr else z.tr
        split
        · exact hF z
        · rfl
      rw [e1, e2]
      exact hc.pm.map _
    · have e3 : (L.set i (F (L.getD i zDE))).map DE.k = L.map DE.k := by
        rw [eL, List.map_map]
        refine List.map_congr_left fun z _ => ?_
        show (if z.k = k then F z else z).k = z.k
        split
        · show (F z).tr.k = z.tr.k
          rw [hF, hg]
        · rfl
      rw [e3]
      exact hc.so
  · have hn : ∀ y ∈ l, y.k ≠ k := fun y hy ey => by
      obtain ⟨z, hz, ez⟩ := hc.mem1 hy
      exact hne z hz (by rw [← ey]; exact (tr_k ez.symm).symm)
    have he : e = 10 := by
      rcases h1 with ⟨⟨y, hy, h⟩, _⟩ | ⟨_, h⟩
      · exact absurd h (hn y hy)
      · exact h
    have e1 : turnS k f l = l := by
      unfold turnS
      refine (List.map_congr_left fun z hz => ?_).trans (List.map_id l)
      show (if z.k = k then f z else z) = z
      rw [if_neg (hn z hz)]
    rw [e1]
    exact ⟨he, hc⟩
theorem below_corr {l : List SE} {L : List DE} {k : Int} {y : SE} {z : DE} (hc : Corr l L) (h1 : BelowR l k (some y)) (h2 : DBelow L k (some z)) : y.x = z.x := by
  obtain ⟨hy, hv, hk, hmax⟩ := h1
  obtain ⟨i, hi, rfl, hv2, hk2, hlast⟩ := h2
  obtain ⟨z', hz', ez⟩ := hc.mem2 (de_mem hi)
  have h3 := hmax z' hz' (by rw [tr_v ez]; exact hv2) (by rw [tr_k ez]; exact hk2)
  rw [tr_k ez] at h3
  obtain ⟨y', hy', ey⟩ := hc.mem1 hy
  obtain ⟨j, hj, rfl⟩ := de_idx hy'
  have eyk := tr_k ey.symm
  have eyv := tr_v ey.symm
  have hle : (L.getD j zDE).k ≤ (L.getD i zDE).k := by
    rcases Nat.lt_trichotomy i j with h | h | h
    · exact absurd ⟨by rw [← eyv]; exact hv, by omega⟩ (hlast j h hj)
    · rw [h]; exact Int.le_refl _
    · exact Int.le_of_lt (so_lt hc.so h hi)
  exact tr_x (hc.inj hy (de_mem hi) (by omega))
theorem below_no1 {l : List SE} {L : List DE} {k : Int} {y : SE} (hc : Corr l L) (h1 : BelowR l k (some y)) (h2 : DBelow L k none) : False := by
  obtain ⟨hy, hv, hk, _⟩ := h1
  obtain ⟨z, hz, e⟩ := hc.mem1 hy
  exact h2 z hz ⟨by rw [← tr_v e.symm]; exact hv, by rw [← tr_k e.symm]; exact hk⟩
theorem below_no2 {l : List SE} {L : List DE} {k : Int} {z : DE} (hc : Corr l L) (h1 : BelowR l k none) (h2 : DBelow L k (some z)) : False := by
  obtain ⟨i, hi, rfl, hv, hk, _⟩ := h2
  obtain ⟨y, hy, e⟩ := hc.mem2 (de_mem hi)
  exact h1 y hy (by rw [tr_v e]; exact hv) (by rw [tr_k e]; exact hk)
theorem list_corr {l l1 : List SE} {L : List DE} (hc : Corr l L) (hp : l1.Perm l) (hs : (l1.map SE.k).Pairwise (· ≤ ·)) : l1.map SE.kk = L.map DE.kk := by
  have e1 : ∀ l : List SE, l.map SE.kk = (l.map SE.tr).map fun t => ⟨t.k, t.v, t.p⟩ := fun l => by rw [List.map_map]; rfl
  have e2 : L.map DE.kk = (L.map DE.tr).map fun t => ⟨t.k, t.v, t.p⟩ := by rw [List.map_map]; rfl
  have hpk : (l1.map SE.kk).Perm (L.map DE.kk) := by
    refine (hp.map SE.kk).trans ?_
    rw [e1, e2]
    exact hc.pm.map _
  refine List.Perm.eq_of_pairwise (le := fun a b => a.k ≤ b.k) (fun a b ha hb h1 h2 => ?_) ?_ ?_ hpk
  · obtain ⟨z, hz, rfl⟩ := List.mem_map.1 hb
    obtain ⟨z', hz', rfl⟩ := List.mem_map.1 (hpk.mem_iff.1 ha)
    have : z'.kk.k = z'.k := rfl
    have : z.kk.k = z.k := rfl
    rw [so_inj hc.so hz' hz (by omega)]
  · rw [List.pairwise_map] at hs ⊢
    exact hs
  · have := hc.so
    rw [List.pairwise_map] at this ⊢
    exact this.imp fun h => Int.le_of_lt h
end Go.Proofs.Ytmhnddkpiefkhaa.A

namespace Go.Proofs.Ytmhnddkpiefkhaa.A
open Go Go.Vm
set_option maxRecDepth 10000
set_option linter.unusedVariables false
theorem OverKept_ok {h : Heap} {v : Value} {c : List Value} {n : Nat} (ho : Own h 3 v c n) (hs : n < 1048576) :
    Runs Try.prog T0 (.fn fn_zmQ) [v] h (fun r h' => Fr (ownedBy v) h h') (fun _ _ => False) := by
  refine zmQ_runs ?_
  cases ho with
  | none =>
    refine stp ?_
    refine loop1 zmQ_l0_M 2 (fun m v2 h' => v2 = .int .i64 0 ∧ h' = h) ?_ 0 ⟨rfl, rfl⟩
    rintro m v2 h' x3 x4 x5 x6 x7 x8 x9 x10 x11 x12 ⟨rfl, rfl⟩
    refine stp ?_
    exact Fr.refl
  | lit hq hg =>
    refine stp ?_
    refine loop1 zmQ_l0_M 2 (fun m v2 h' => v2 = .int .i64 0 ∧ h' = h) ?_ 0 ⟨rfl, rfl⟩
    rintro m v2 h' x3 x4 x5 x6 x7 x8 x9 x10 x11 x12 ⟨rfl, rfl⟩
    refine stp ?_
    exact Fr.refl
  | grown hq hn hle hl hl2 hg =>
    rename_i q kk cap j
    refine stp ?_
    refine loop1 zmQ_l0_M 2 (fun m v2 h' => ∃ k : Nat, k ≤ n ∧ m = n - k ∧ v2 = .int .i64 k ∧ (∃ cs, h'.get q = .cells cs 3 ∧ cs.length = cap * 3) ∧ Fr (ownedBy (.slice (some ⟨q, 0, some kk⟩) n cap)) h h') ?_ n ⟨0, by omega, rfl, rfl, ⟨_, hg, hl2⟩, Fr.refl⟩
    rintro m v2 h' x3 x4 x5 x6 x7 x8 x9 x10 x11 x12 ⟨k, hk, rfl, rfl, ⟨cs, hg', hcs⟩, hf⟩
    haveI : HGet h' q _ := ⟨hg'⟩
    refine stp ?_
    refine C.if (fun hlt => ?_) (fun hge => ?_)
    · refine stp ?_
      refine O.by0 (mkStoreN (xs := [.int .i64 (-77), .bool false, .bool false]) (c := cs) (r := q) (es := 3) (by simp; omega) rfl rfl) rfl ?_
      refine stp ?_
      refine loop1a 2 (n - (k + 1)) (by omega) ⟨k + 1, by omega, rfl, rfl, ⟨_, by rw [Heap.get_set, if_pos rfl], ?_⟩, Fr.set hf fun _ => rfl⟩
      rw [over_length _ _ _ (by simp; omega), hcs]
    · refine stp ?_
      exact hf
theorem Room_ok {h : Heap} {p m c : Nat} {room : Int} {l : List SE} (hs : StAt h p m c room l) :
    Runs Try.prog T0 (.fn fn_zccQ) [.pointer (some ⟨p, 0, none⟩)] h (fun r h' => r = .int .i64 room ∧ h' = h) (fun _ _ => False) := by
  haveI : HGet h p _ := ⟨hs.gp⟩
  refine zccQ_runs ?_
  refine stp ?_
  refine O.call' (snone_ok hs) (fun r h0 hr => ?_)
  obtain ⟨rfl, rfl⟩ := hr
  refine stp ?_
  exact ⟨rfl, rfl⟩
theorem OverBlockF_ok {h : Heap} {x : Bk} {sv sl : Value} (hx : x.h.ok) (hh : x.c.hash.length = 32) (hvo : x.c.votes.length ≤ 70) (hva : x.vals.length ≤ 70) (o1 : Own h 2 sv (tcells x.c.votes) x.c.votes.length) (o2 : Own h 5 sl (vcells x.vals) x.vals.length) (hap : ∀ i, ownedBy sv i → ¬ ownedBy sl i) :
    Runs Try.prog T0 (.fn fn_zkQ) [.agg ⟨x.cells sv sl⟩] h (fun r h' => Fr (fun i => ownedBy sv i ∨ ownedBy sl i) h h') (fun _ _ => False) := by
  haveI := l32 hx.prev
  haveI := l32 hx.vals
  haveI := l32 hx.next
  haveI := l32 hx.app
  haveI := l32 hh
  have hlv := fun {i : Nat} (hi : ownedBy sv i) => o1.lt hi
  have hll := fun {i : Nat} (hi : ownedBy sl i) => o2.lt hi
  refine zkQ_runs ?_
  refine stp ?_
  refine O.call' (OverVals_ok (o2.keep (S := fun _ => False) Fr.refl.push fun _ _ => id) (by omega)) (fun r h1 hr => ?_)
  have hf1 := hr
  have hn1 := hf1.n
  simp only [Heap.n_push] at hn1
  haveI hA := hf1.keep (b := h.n) (HGet.new (h := h) (o := .cells (x.cells sv sl) 0)) (by simp) (fun hi => by have := hll hi; omega)
  refine stp ?_
  refine O.call' (OverCommit_ok hh ((o1.keep (S := fun _ => False) Fr.refl.push fun _ _ => id).keep hf1 fun i hi => hap i hi) (by omega)) (fun r h2 hr => ?_)
  have hf2 := hr
  refine stp ?_
  refine Fr.trans (S := fun i => ownedBy sv i ∨ ownedBy sl i) (Fr.trans (S := fun i => ownedBy sv i ∨ ownedBy sl i) Fr.refl.push hf1 fun i _ hi => .inr hi) hf2 fun i _ hi => .inl hi
def ToldS (l : List SE) (k : Int) (x : Bk) (b : Bool) : Prop := b = true ∧ (∃ y ∈ l, y.k = k ∧ y.x = x) ∨ b = false ∧ x = zBk ∧ ∀ y ∈ l, y.k ≠ k
def ToldD (L : List DE) (k : Int) (x : Bk) (b : Bool) : Prop := b = true ∧ (∃ y ∈ L, y.k = k ∧ y.x = x) ∨ b = false ∧ x = zBk ∧ ∀ y ∈ L, y.k ≠ k
def LowS (l : List SE) (k : Int) (x : Bk) (b : Bool) : Prop := b = true ∧ (∃ y, BelowR l k (some y) ∧ y.x = x) ∨ b = false ∧ x = zBk ∧ BelowR l k none
def LowD (L : List DE) (k : Int) (x : Bk) (b : Bool) : Prop := b = true ∧ (∃ y, DBelow L k (some y) ∧ y.x = x) ∨ b = false ∧ x = zBk ∧ DBelow L k none
theorem told_same {l : List SE} {L : List DE} {k : Int} {x y : Bk} {b c : Bool} (hc : Corr l L) (h1 : ToldS l k x b) (h2 : ToldD L k y c) : x = y ∧ b = c := by
  rcases h1 with ⟨rfl, z, hz, hk, rfl⟩ | ⟨rfl, rfl, hno⟩
  · rcases h2 with ⟨rfl, w, hw, hk2, rfl⟩ | ⟨rfl, rfl, hno⟩
    · exact ⟨tr_x (hc.inj hz hw (by rw [hk, hk2])), rfl⟩
    · obtain ⟨w, hw, e⟩ := hc.mem1 hz
      exact absurd (by rw [← hk]; exact (tr_k e.symm).symm) (hno w hw)
  · rcases h2 with ⟨rfl, w, hw, hk2, rfl⟩ | ⟨rfl, rfl, _⟩
    · obtain ⟨z, hz, e⟩ := hc.mem2 hw
      exact absurd (by rw [← hk2]; exact tr_k e) (hno z hz)
    · exact ⟨rfl, rfl⟩
theorem low_same {l : List SE} {L : List DE} {k : Int} {x y : Bk} {b c : Bool} (hc : Corr l L) (h1 : LowS l k x b) (h2 : LowD L k y c) : x = y ∧ b = c := by
  rcases h1 with ⟨rfl, z, hz, rfl⟩ | ⟨rfl, rfl, hno⟩
  · rcases h2 with ⟨rfl, w, hw, rfl⟩ | ⟨rfl, rfl, hno⟩
    · exact ⟨below_corr hc hz hw, rfl⟩
    · exact (below_no1 hc hz hno).elim
  · rcases h2 with ⟨rfl, w, hw, rfl⟩ | ⟨rfl, rfl, _⟩
    · exact (below_no2 hc hno hw).elim
    · exact ⟨rfl, rfl⟩
theorem zBk_new {lo : Nat} {h : Heap} : BkNew lo h zBk (.slice none 0 0) (.slice none 0 0) :=
  ⟨zeroHd_ok, rfl, .none, .none, fun _ e => e.elim, fun _ e => e.elim, fun _ e => e.elim⟩
def ToldV (lo : Nat) (T : Bk → Bool → Prop) (r : Value) (h' : Heap) : Prop := ∃ (x : Bk) (sw sm : Value) (b : Bool), r = .tuple ⟨[.agg ⟨x.cells sw sm⟩, .bool b]⟩ ∧ BkNew lo h' x sw sm ∧ x.c.votes.length ≤ 70 ∧ x.vals.length ≤ 70 ∧ T x b
theorem GetT_ok {h : Heap} {p m c : Nat} {room k : Int} {l : List SE} (hs : StAt h p m c room l) :
    Runs Try.prog T0 (.fn fn_zxbQ) [.pointer (some ⟨p, 0, none⟩), .int .i64 k] h
      (fun r h' => ToldV (h.n + 1) (ToldS l k) r h' ∧ Fr (fun _ => False) h h') (fun _ _ => False) :=
  (Get_ok hs).mono (fun r h' ⟨hr, hf⟩ => ⟨by
    rcases hr with ⟨y, hy, hk, sw, sm, rfl, hn⟩ | ⟨hno, rfl⟩
    · exact ⟨y.x, sw, sm, true, rfl, hn, (hs.ats y hy).lv, (hs.ats y hy).ll, .inl ⟨rfl, y, hy, hk, rfl⟩⟩
    · exact ⟨zBk, _, _, false, rfl, zBk_new, by decide, by decide, .inr ⟨rfl, rfl, hno⟩⟩, hf⟩) fun _ _ h => h
theorem BelowT_ok {h : Heap} {p m c : Nat} {room k : Int} {l : List SE} (hs : StAt h p m c room l) (hlen : l.length < 100000) :
    Runs Try.prog T0 (.fn fn_zubQ) [.pointer (some ⟨p, 0, none⟩), .int .i64 k] h
      (fun r h' => ToldV (h.n + 1) (LowS l k) r h' ∧ Fr (fun _ => False) h h') (fun _ _ => False) :=
  (Below_ok hs hlen).mono (fun r h' ⟨hr, hf⟩ => ⟨by
    rcases hr with ⟨y, hy, sw, sm, rfl, hn⟩ | ⟨hno, rfl⟩
    · exact ⟨y.x, sw, sm, true, rfl, hn, (hs.ats y hy.1).lv, (hs.ats y hy.1).ll, .inl ⟨rfl, y, hy, rfl⟩⟩
    · exact ⟨zBk, _, _, false, rfl, zBk_new, by decide, by decide, .inr ⟨rfl, rfl, hno⟩⟩, hf⟩) fun _ _ h => h
theorem dGetT_ok {h : Heap} {d : Nat} {room k : Int} {L : List DE} {vB vK : Value} (hs : DAt h d room L vB vK) (hl : L.length < 100000) :
    Runs Try.prog T0 (.fn fn_zcbQ) [.pointer (some ⟨d, 0, none⟩), .int .i64 k] h
      (fun r h' => ToldV (h.n + 1) (ToldD L k) r h' ∧ Fr (fun _ => False) h h') (fun _ _ => False) :=
  (dGet_ok hs hl).mono (fun r h' ⟨hr, hf⟩ => ⟨by
    rcases hr with ⟨y, hy, hk, sw, sm, rfl, hn⟩ | ⟨hno, rfl⟩
    · exact ⟨y.x, sw, sm, true, rfl, hn, (hs.ats y hy).lv, (hs.ats y hy).ll, .inl ⟨rfl, y, hy, hk, rfl⟩⟩
    · exact ⟨zBk, _, _, false, rfl, zBk_new, by decide, by decide, .inr ⟨rfl, rfl, hno⟩⟩, hf⟩) fun _ _ h => h
theorem dBelowT_ok {h : Heap} {d : Nat} {room k : Int} {L : List DE} {vB vK : Value} (hs : DAt h d room L vB vK) (hl : L.length < 100000) :
    Runs Try.prog T0 (.fn fn_zabQ) [.pointer (some ⟨d, 0, none⟩), .int .i64 k] h
      (fun r h' => ToldV (h.n + 1) (LowD L k) r h' ∧ Fr (fun _ => False) h h') (fun _ _ => False) :=
  (dBelow_ok hs hl).mono (fun r h' ⟨hr, hf⟩ => ⟨by
    rcases hr with ⟨y, hy, hb, sw, sm, rfl, hn⟩ | ⟨hno, rfl⟩
    · exact ⟨y.x, sw, sm, true, rfl, hn, (hs.ats y hy).lv, (hs.ats y hy).ll, .inl ⟨rfl, y, hb, rfl⟩⟩
    · exact ⟨zBk, _, _, false, rfl, zBk_new, by decide, by decide, .inr ⟨rfl, rfl, hno⟩⟩, hf⟩) fun _ _ h => h
structure Both (lo : Nat) (h : Heap) (p m d c : Nat) (room : Int) (S : List SE) (D : List DE) (vB vK : Value) : Prop where
  st : StAt h p m c room S
  dt : DAt h d room D vB vK
  co : Corr S D
  iv : InvS room S
  rm : room ≤ 4096
  mn : ∀ j, Mine p m S j → lo ≤ j ∧ ¬ DOwn d vB vK j ∧ ¬ DIn D j
  dn : ∀ j, DOwn d vB vK j → lo ≤ j
theorem Both.len {lo : Nat} {h : Heap} {p m d c : Nat} {room : Int} {S : List SE} {D : List DE} {vB vK : Value} (hb : Both lo h p m d c room S D vB vK) : S.length < 100000 ∧ D.length < 100000 := by
  have h1 := hb.iv.le
  have h2 := hb.rm
  have h3 := hb.co.len
  omega
theorem DAt.olt {h : Heap} {d : Nat} {room : Int} {L : List DE} {vB vK : Value} (hs : DAt h d room L vB vK) {j : Nat} (hj : DOwn d vB vK j) : j < h.n := by
  rcases hj with rfl | hj | hj
  · exact hs.dl
  · exact hs.oB.lt hj
  · exact hs.oK.lt hj
theorem DAt.ilt {h : Heap} {d : Nat} {room : Int} {L : List DE} {vB vK : Value} (hs : DAt h d room L vB vK) {j : Nat} (hj : DIn L j) : j < h.n := by
  obtain ⟨e, he, hj⟩ := hj
  exact hj.elim (Rd.block_lt (hs.ats e he).rd.sv) (Rd.block_lt (hs.ats e he).rd.sl)
theorem Both.keep {lo : Nat} {h h' : Heap} {p m d c : Nat} {room : Int} {S : List SE} {D : List DE} {vB vK : Value} (hb : Both lo h p m d c room S D vB vK) (hf : Fr (fun j => h.n ≤ j) h h') : Both lo h' p m d c room S D vB vK :=
  ⟨hb.st.keep hf fun j hj e => by have := hb.st.mlt hj; omega, hb.dt.keep hf (fun j hj e => by have := hb.dt.olt hj; omega) (fun j hj e => by have := hb.dt.ilt hj; omega), hb.co, hb.iv, hb.rm, hb.mn, hb.dn⟩
theorem Both.keepS {lo : Nat} {T : Nat → Prop} {h h' : Heap} {p m d c : Nat} {room : Int} {S : List SE} {D : List DE} {vB vK : Value} (hb : Both lo h p m d c room S D vB vK) (hf : Fr T h h') (h1 : ∀ j, Mine p m S j → ¬ T j) (h2 : ∀ j, DOwn d vB vK j → ¬ T j) (h3 : ∀ j, DIn D j → ¬ T j) : Both lo h' p m d c room S D vB vK :=
  ⟨hb.st.keep hf h1, hb.dt.keep hf h2 h3, hb.co, hb.iv, hb.rm, hb.mn, hb.dn⟩
theorem Both.step {lo k : Nat} {h h' : Heap} {p m d c c' : Nat} {room : Int} {S S' : List SE} {D D' : List DE} {vB vK vB' vK' : Value} (hb : Both lo h p m d c room S D vB vK) (hlo : lo ≤ h.n) (hk : h.n ≤ k) (st : StAt h' p m c' room S') (dt : DAt h' d room D' vB' vK') (co : Corr S' D') (iv : InvS room S')
    (h1 : ∀ j, Mine p m S' j → Mine p m S j ∨ h.n ≤ j ∧ j < k) (h2 : ∀ j, DOwn d vB' vK' j → DOwn d vB vK j ∨ k ≤ j) (h3 : ∀ j, DIn D' j → DIn D j ∨ k ≤ j) : Both lo h' p m d c' room S' D' vB' vK' := by
  refine ⟨st, dt, co, iv, hb.rm, fun j hj => ?_, fun j hj => ?_⟩
  · rcases h1 j hj with q | q
    · obtain ⟨q1, q2, q3⟩ := hb.mn j q
      have q4 := hb.st.mlt q
      refine ⟨q1, fun e => ?_, fun e => ?_⟩
      · rcases h2 j e with e | e
        · exact q2 e
        · omega
      · rcases h3 j e with e | e
        · exact q3 e
        · omega
    · refine ⟨by omega, fun e => ?_, fun e => ?_⟩
      · rcases h2 j e with e | e
        · have := hb.dt.olt e
          omega
        · omega
      · rcases h3 j e with e | e
        · have := hb.dt.ilt e
          omega
        · omega
  · rcases h2 j hj with e | e
    · exact hb.dn j e
    · omega
theorem SameBlock_self {h : Heap} {x : Bk} {sv sl sw sm : Value} (hx : BkRd h x sv sl) (hy : BkRd h x sw sm) (h1 : x.c.votes.length ≤ 70) (h2 : x.vals.length ≤ 70) :
    Runs Try.prog T0 (.fn fn_zoQ) [.agg ⟨x.cells sv sl⟩, .agg ⟨x.cells sw sm⟩] h (fun r h' => r = .bool true ∧ Fr (fun _ => False) h h') (fun _ _ => False) :=
  (SameBlock_ok hx hy (by omega) (by omega) (by omega) (by omega)).mono (fun r h' ⟨hr, hf⟩ => ⟨by rw [hr, sameB_self], hf⟩) fun _ _ h => h
theorem SameKept_self {h : Heap} {v w : Value} {l : List KK} (hv : Rd h 3 v (kkcells l) l.length) (hw : Rd h 3 w (kkcells l) l.length) (hs : l.length < 1048576) :
    Runs Try.prog T0 (.fn fn_zqQ) [v, w] h (fun r h' => r = .bool true ∧ h' = h) (fun _ _ => False) :=
  (SameKept_ok hv hw hs hs).mono (fun r h' ⟨hr, hf⟩ => ⟨by rw [hr, decide_eq_true rfl], hf⟩) fun _ _ h => h
section
variable {P : Program} {ts : List Value} {h : Heap} {x y : Operand}
theorem xneqB_same {b : Bool} {t t' ty : TypeId} [i : IsBoolT P t] [e1 : Ev ts x (.bool b)] [e2 : Ev ts y (.bool b)] : XOp P ts h (.bin .neq (so (.binOp .neq t x y t') ty) x y) (.bool false) h := by
  have := (XOp.neqB : XOp P ts h (.bin .neq (so (.binOp .neq t x y t') ty) x y) (.bool (!(b == b))) h)
  rw [beq_self_eq_true] at this
  exact this
end
end Go.Proofs.Ytmhnddkpiefkhaa.A

set_option maxRecDepth 100000
set_option linter.unusedVariables false
namespace Go.Proofs.Ytmhnddkpiefkhaa.A
open Go Go.Vm
abbrev fn_ztQ : FuncId := 6
def ztQ_l0 : ACode :=
 (.seq (.seq (.region [
 o1 49 (.mov (tm 7)),
 o1 50 (.eq .ptr true (so (.binOp .neq 62 (tm 49) (.const (.pointer none)) 62) 4) (tm 49) (.const (.pointer none))),
 o1 51 (.mov (tm 50)),
 o4 52 (.mov (tm 9)) 51,
 o4 53 (.mov (tm 1)) 51,
 o4 54 (.lenSl (tm 53)) 51,
 o4 55 (.bin .lss (so (.binOp .lss 3 (tm 52) (tm 54) 3) 4) (tm 52) (tm 54)) 51,
 o1 56 (.pick (tm 51) (tm 55) (.const (.bool false)))]) (.cond (tm 56)
 .skip
 (.exit 0))) (.seq (.block 1 (.seq (.region [
 o1 59 (.mov (tm 1)),
 o1 60 (.mov (tm 9)),
 o1 61 (.indexSl 169 (tm 59) (tm 60)),
 o1 62 (.load (some 169) (tm 61)),
 o1 10 (.alloc 53 ((.int .i64 0) :: ((.int .i64 0) :: ((.bool false) :: ((.string ⟨⟨[]⟩⟩) :: ((.int .i64 0) :: ((.int .i64 0) :: (z32 ++ (z32 ++ (z32 ++ (z32 ++ ((.int .i64 0) :: (z32 ++ [(.slice none 0 0), (.slice none 0 0)]))))))))))))),
 o3 (.store 169 (tm 10) (tm 62)),
 o1 11 (.mov (.const (.bool true)))]) (.seq (.region [
 o1 63 (.fieldAddr 3 (tm 10)),
 o1 64 (.load (some 166) (tm 63)),
 o1 65 (.callV (.func 25) [(tm 64)]),
 o1 12 (.alloc 36 ((.string ⟨⟨[]⟩⟩) :: ((.int .i64 0) :: ((.int .i64 0) :: (z32 ++ (z32 ++ (z32 ++ (z32 ++ ((.int .i64 0) :: (z32 ++ [(.slice none 0 0), (.slice none 0 0)])))))))))),
 o3 (.store 166 (tm 12) (tm 65))]) (.seq (.seq (.region [
 o1 66 (.fieldAddr 0 (tm 10)),
 o1 67 (.load none (tm 66))]) (.block 2 (.seq (.region [
 o1 69 (.bin .eql (so (.binOp .eql 3 (tm 67) k0 3) 4) (tm 67) k0),
 o1 68 (.mov (tm 69))]) (.cond (tm 68)
 (.seq (.region [
 o1 71 (.mov (tm 5)),
 o1 72 (.load (some 166) (tm 12)),
 o1 73 (.callV (.func 21) [(tm 71), (tm 72)]),
 o1 70 (.mov (tm 73)),
 o1 74 (.extract 0 (tm 70)),
 o1 75 (.extract 1 (tm 70)),
 o1 13 (.mov (tm 74)),
 o1 14 (.mov (tm 75))]) (.seq (.region [
 o1 77 (.mov (tm 7)),
 o1 78 (.fieldAddr 3 (tm 10)),
 o1 79 (.load (some 166) (tm 78)),
 o1 80 (.callV (.func 26) [(tm 77), (tm 79)]),
 o1 76 (.mov (tm 80)),
 o1 81 (.extract 0 (tm 76)),
 o1 82 (.extract 1 (tm 76)),
 o1 15 (.mov (tm 81)),
 o1 16 (.mov (tm 82))]) (.seq (.region [
 o1 83 (.mov (tm 13)),
 o1 84 (.mov (tm 15)),
 o1 85 (.bin .eql (so (.binOp .eql 3 (tm 83) (tm 84) 3) 4) (tm 83) (tm 84)),
 o1 86 (.mov (tm 85)),
 o4 87 (.mov (tm 14)) 86,
 o4 88 (.mov (tm 16)) 86,
 o4 89 (.bin .eql (so (.binOp .eql 24 (tm 87) (tm 88) 24) 4) (tm 87) (tm 88)) 86,
 o1 90 (.pick (tm 86) (tm 89) (.const (.bool false))),
 o1 91 (.mov (tm 90)),
 o4 92 (.load (some 166) (tm 12)) 91,
 o4 93 (.fieldAddr 3 (tm 10)) 91,
 o4 94 (.load (some 166) (tm 93)) 91,
 o4 95 (.callV (.func 27) [(tm 92), (tm 94)]) 91,
 o1 96 (.pick (tm 91) (tm 95) (.const (.bool false))),
 o1 11 (.mov (tm 96))]) (.region [
 o1 97 (.load (some 166) (tm 12)),
 o1 98 (.callV (.func 28) [(tm 97)])]))))
 (.seq (.region [
 o1 100 (.bin .eql (so (.binOp .eql 3 (tm 67) (.const (.int .i64 1)) 3) 4) (tm 67) (.const (.int .i64 1))),
 o1 99 (.mov (tm 100))]) (.cond (tm 99)
 (.regionD [
 o1 101 (.mov (tm 5)),
 o1 102 (.fieldAddr 1 (tm 10)),
 o1 103 (.load none (tm 102)),
 o1 104 (.fieldAddr 2 (tm 10)),
 o1 105 (.load none (tm 104)),
 o1 107 (.mov (tm 7)),
 o1 108 (.fieldAddr 1 (tm 10)),
 o1 109 (.load none (tm 108)),
 o1 110 (.fieldAddr 2 (tm 10)),
 o1 111 (.load none (tm 110)),
 ⟨some 106, .callV (.func 12) [(tm 101), (tm 103), (tm 105)], none, [(some 111, .load none (tm 110), none), (some 110, .fieldAddr 2 (tm 10), none), (some 109, .load none (tm 108), none), (some 108, .fieldAddr 1 (tm 10), none), (some 107, .mov (tm 7), none)], false⟩,
 o2 112 (.callV (.func 29) [(tm 107), (tm 109), (tm 111)]),
 o2 113 (.bin .eql (so (.binOp .eql 24 (tm 106) (tm 112) 24) 4) (tm 106) (tm 112)),
 o2 11 (.mov (tm 113))])
 (.seq (.region [
 o1 115 (.bin .eql (so (.binOp .eql 3 (tm 67) (.const (.int .i64 2)) 3) 4) (tm 67) (.const (.int .i64 2))),
 o1 114 (.mov (tm 115))]) (.cond (tm 114)
 (.regionD [
 o1 116 (.mov (tm 5)),
 o1 117 (.fieldAddr 1 (tm 10)),
 o1 118 (.load none (tm 117)),
 o1 120 (.mov (tm 7)),
 o1 121 (.fieldAddr 1 (tm 10)),
 o1 122 (.load none (tm 121)),
 ⟨some 119, .callV (.func 18) [(tm 116), (tm 118)], none, [(some 122, .load none (tm 121), none), (some 121, .fieldAddr 1 (tm 10), none), (some 120, .mov (tm 7), none)], false⟩,
 o2 123 (.callV (.func 30) [(tm 120), (tm 122)]),
 o2 124 (.bin .eql (so (.binOp .eql 24 (tm 119) (tm 123) 24) 4) (tm 119) (tm 123)),
 o2 11 (.mov (tm 124))])
 (.seq (.region [
 o1 126 (.bin .eql (so (.binOp .eql 3 (tm 67) (.const (.int .i64 3)) 3) 4) (tm 67) (.const (.int .i64 3))),
 o1 125 (.mov (tm 126))]) (.cond (tm 125)
 (.seq (.region [
 o1 127 (.mov (tm 5)),
 o1 128 (.fieldAddr 1 (tm 10)),
 o1 129 (.load none (tm 128)),
 o1 130 (.callV (.func 13) [(tm 127), (tm 129)])]) (.region [
 o1 131 (.mov (tm 7)),
 o1 132 (.fieldAddr 1 (tm 10)),
 o1 133 (.load none (tm 132)),
 o1 134 (.callV (.func 31) [(tm 131), (tm 133)])]))
 .skip)))))))))) (.seq (.region [
 o1 136 (.mov (tm 5)),
 o1 137 (.fieldAddr 1 (tm 10)),
 o1 138 (.load none (tm 137)),
 o1 139 (.callV (.func 14) [(tm 136), (tm 138)]),
 o1 135 (.mov (tm 139)),
 o1 140 (.extract 0 (tm 135)),
 o1 141 (.extract 1 (tm 135)),
 o1 17 (.alloc 36 ((.string ⟨⟨[]⟩⟩) :: ((.int .i64 0) :: ((.int .i64 0) :: (z32 ++ (z32 ++ (z32 ++ (z32 ++ ((.int .i64 0) :: (z32 ++ [(.slice none 0 0), (.slice none 0 0)])))))))))),
 o3 (.store 166 (tm 17) (tm 140)),
 o1 18 (.mov (tm 141))]) (.seq (.region [
 o1 143 (.mov (tm 7)),
 o1 144 (.fieldAddr 1 (tm 10)),
 o1 145 (.load none (tm 144)),
 o1 146 (.callV (.func 32) [(tm 143), (tm 145)]),
 o1 142 (.mov (tm 146)),
 o1 147 (.extract 0 (tm 142)),
 o1 148 (.extract 1 (tm 142)),
 o1 19 (.alloc 36 ((.string ⟨⟨[]⟩⟩) :: ((.int .i64 0) :: ((.int .i64 0) :: (z32 ++ (z32 ++ (z32 ++ (z32 ++ ((.int .i64 0) :: (z32 ++ [(.slice none 0 0), (.slice none 0 0)])))))))))),
 o3 (.store 166 (tm 19) (tm 147)),
 o1 20 (.mov (tm 148))]) (.seq (.region [
 o1 150 (.mov (tm 5)),
 o1 151 (.fieldAddr 1 (tm 10)),
 o1 152 (.load none (tm 151)),
 o1 153 (.callV (.func 10) [(tm 150), (tm 152)]),
 o1 149 (.mov (tm 153)),
 o1 154 (.extract 0 (tm 149)),
 o1 155 (.extract 1 (tm 149)),
 o1 21 (.alloc 36 ((.string ⟨⟨[]⟩⟩) :: ((.int .i64 0) :: ((.int .i64 0) :: (z32 ++ (z32 ++ (z32 ++ (z32 ++ ((.int .i64 0) :: (z32 ++ [(.slice none 0 0), (.slice none 0 0)])))))))))),
 o3 (.store 166 (tm 21) (tm 154)),
 o1 22 (.mov (tm 155))]) (.seq (.region [
 o1 157 (.mov (tm 7)),
 o1 158 (.fieldAddr 1 (tm 10)),
 o1 159 (.load none (tm 158)),
 o1 160 (.callV (.func 33) [(tm 157), (tm 159)]),
 o1 156 (.mov (tm 160)),
 o1 161 (.extract 0 (tm 156)),
 o1 162 (.extract 1 (tm 156)),
 o1 23 (.alloc 36 ((.string ⟨⟨[]⟩⟩) :: ((.int .i64 0) :: ((.int .i64 0) :: (z32 ++ (z32 ++ (z32 ++ (z32 ++ ((.int .i64 0) :: (z32 ++ [(.slice none 0 0), (.slice none 0 0)])))))))))),
 o3 (.store 166 (tm 23) (tm 161)),
 o1 24 (.mov (tm 162))]) (.seq (.region [
 o1 163 (.mov (tm 5)),
 o1 164 (.callV (.func 17) [(tm 163)]),
 o1 25 (.mov (tm 164))]) (.seq (.seq (.regionD [
 o2 165 (.mov (tm 11)),
 o2 166 (.raw (so (.unOp .not 4 (tm 165)) 4)),
 o2 167 (.mov (tm 166)),
 o5 168 (.load (some 166) (tm 17)) 167,
 o5 169 (.load (some 166) (tm 19)) 167,
 ⟨some 170, .callV (.func 27) [(tm 168), (tm 169)], some (167, false), [], true⟩,
 ⟨some 171, .raw (so (.unOp .not 4 (tm 170)) 4), some (167, false), [], true⟩,
 o2 172 (.pick (tm 167) (.const (.bool true)) (tm 171)),
 o2 173 (.mov (tm 172)),
 o5 174 (.mov (tm 18)) 173,
 o5 175 (.mov (tm 20)) 173,
 ⟨some 176, .bin .neq (so (.binOp .neq 4 (tm 174) (tm 175) 4) 4) (tm 174) (tm 175), some (173, false), [], true⟩,
 o2 177 (.pick (tm 173) (.const (.bool true)) (tm 176)),
 o2 178 (.mov (tm 177)),
 o5 179 (.load (some 166) (tm 21)) 178,
 o5 180 (.load (some 166) (tm 23)) 178,
 ⟨some 181, .callV (.func 27) [(tm 179), (tm 180)], some (178, false), [], true⟩,
 ⟨some 182, .raw (so (.unOp .not 4 (tm 181)) 4), some (178, false), [], true⟩,
 o2 183 (.pick (tm 178) (.const (.bool true)) (tm 182)),
 o2 184 (.mov (tm 183)),
 o5 185 (.mov (tm 22)) 184,
 o5 186 (.mov (tm 24)) 184,
 ⟨some 187, .bin .neq (so (.binOp .neq 4 (tm 185) (tm 186) 4) 4) (tm 185) (tm 186), some (184, false), [], true⟩,
 o2 188 (.pick (tm 184) (.const (.bool true)) (tm 187)),
 o2 189 (.mov (tm 188)),
 o5 190 (.mov (tm 25)) 189,
 o5 191 (.mov (tm 7)) 189,
 o5 192 (.nilCheck (tm 191)) 189,
 o5 193 (.fieldAddr 2 (tm 192)) 189,
 o5 194 (.load none (tm 193)) 189,
 ⟨some 195, .callV (.func 16) [(tm 190), (tm 194)], some (189, false), [], true⟩,
 ⟨some 196, .raw (so (.unOp .not 4 (tm 195)) 4), some (189, false), [], true⟩,
 o2 197 (.pick (tm 189) (.const (.bool true)) (tm 196)),
 o2 198 (.mov (tm 197)),
 o5 199 (.mov (tm 5)) 198,
 o5 201 (.mov (tm 7)) 198,
 o5 202 (.nilCheck (tm 201)) 198,
 o5 203 (.fieldAddr 0 (tm 202)) 198,
 o5 204 (.load none (tm 203)) 198,
 ⟨some 200, .callV (.func 34) [(tm 199)], some (198, false), [(some 204, .load none (tm 203), some (198, false)), (some 203, .fieldAddr 0 (tm 202), some (198, false)), (some 202, .nilCheck (tm 201), some (198, false)), (some 201, .mov (tm 7), some (198, false))], false⟩,
 ⟨some 205, .bin .neq (so (.binOp .neq 3 (tm 200) (tm 204) 3) 4) (tm 200) (tm 204), some (198, false), [], true⟩,
 o2 206 (.pick (tm 198) (.const (.bool true)) (tm 205))]) (.cond (tm 206)
 (.seq (.region [
 o1 4 (.mov (.const (.bool false)))]) .ret)
 .skip)) (.seq (.region [
 o1 207 (.load (some 166) (tm 17)),
 o1 208 (.callV (.func 28) [(tm 207)])]) (.seq (.region [
 o1 209 (.load (some 166) (tm 21)),
 o1 210 (.callV (.func 28) [(tm 209)])]) (.region [
 o1 211 (.mov (tm 25)),
 o1 212 (.callV (.func 35) [(tm 211)])]))))))))))))) (.region [
 o1 57 (.mov (tm 9)),
 o1 58 (.bin .add (so (.binOp .add 3 (tm 57) (.const (.int .i64 1)) 3) 3) (tm 57) (.const (.int .i64 1))),
 o1 9 (.mov (tm 58))])))
def ztQ_c : ACode :=
 (.seq (.region [
 o1 4 (.mov (.const (.bool false)))]) (.seq (.seq (.region [
 o1 26 (.mov (tm 1)),
 o1 27 (.callV (.func 19) [(tm 26)])]) (.cond (tm 27)
 (.seq (.region [
 o1 28 (.callV (.func 15) []),
 o1 4 (.mov (tm 28))]) .ret)
 .skip)) (.seq (.region [
 o1 30 (.mov (tm 0)),
 o1 31 (.callV (.func 9) [(tm 30)]),
 o1 29 (.mov (tm 31)),
 o1 32 (.extract 0 (tm 29)),
 o1 33 (.extract 1 (tm 29)),
 o1 5 (.mov (tm 32)),
 o1 6 (.mov (tm 33))]) (.seq (.region [
 o1 35 (.mov (tm 0)),
 o1 36 (.callV (.func 24) [(tm 35)]),
 o1 34 (.mov (tm 36)),
 o1 37 (.extract 0 (tm 34)),
 o1 38 (.extract 1 (tm 34)),
 o1 7 (.mov (tm 37)),
 o1 8 (.mov (tm 38))]) (.seq (.seq (.region [
 o1 39 (.mov (tm 6)),
 o1 40 (.mov (tm 8)),
 o1 41 (.bin .neq (so (.binOp .neq 24 (tm 39) (tm 40) 24) 4) (tm 39) (tm 40)),
 o1 42 (.mov (tm 41)),
 o5 43 (.mov (tm 5)) 42,
 o5 44 (.eq .ptr false (so (.binOp .eql 22 (tm 43) (.const (.pointer none)) 22) 4) (tm 43) (.const (.pointer none))) 42,
 o5 45 (.mov (tm 7)) 42,
 o5 46 (.eq .ptr false (so (.binOp .eql 62 (tm 45) (.const (.pointer none)) 62) 4) (tm 45) (.const (.pointer none))) 42,
 o5 47 (.bin .neq (so (.binOp .neq 4 (tm 44) (tm 46) 4) 4) (tm 44) (tm 46)) 42,
 o1 48 (.pick (tm 42) (.const (.bool true)) (tm 47))]) (.cond (tm 48)
 (.seq (.region [
 o1 4 (.mov (.const (.bool false)))]) .ret)
 .skip)) (.seq (.seq (.region [
 o1 9 (.mov k0)]) (.block 0 (.loop ztQ_l0))) (.seq (.region [
 o1 213 (.callV (.func 15) []),
 o1 4 (.mov (tm 213))]) .ret)))))))
def ztQ : AFunc := ⟨214, [(4, none)], ztQ_c, none⟩
theorem ztQ_t0 : tableOf Try.prog 6 = some ztQ := by kernel_rfl
theorem ztQ_t : T0 6 = some ztQ := withKept_t rfl (withTrue_t rfl ztQ_t0)
theorem ztQ_runs {v0 v1 : Value} {h : Heap} {R : RP} {X : XP} (k : RunC Try.prog T0 ztQ_c ⟨[v0, v1, U, U, U, U, U, U, U, U, U, U, U, U, U, U, U, U, U, U, U, U, U, U, U, U, U, U, U, U, U, U, U, U, U, U, U, U, U, U, U, U, U, U, U, U, U, U, U, U, U, U, U, U, U, U, U, U, U, U, U, U, U, U, U, U, U, U, U, U, U, U, U, U, U, U, U, U, U, U, U, U, U, U, U, U, U, U, U, U, U, U, U, U, U, U, U, U, U, U, U, U, U, U, U, U, U, U, U, U, U, U, U, U, U, U, U, U, U, U, U, U, U, U, U, U, U, U, U, U, U, U, U, U, U, U, U, U, U, U, U, U, U, U, U, U, U, U, U, U, U, U, U, U, U, U, U, U, U, U, U, U, U, U, U, U, U, U, U, U, U, U, U, U, U, U, U, U, U, U, U, U, U, U, U, U, U, U, U, U, U, U, U, U, U, U, U, U, U, U, U, U, U, U, U, U, U, U, U, U, U, U, U, U], [], h, none⟩ (bodyQ Try.prog T0 [(4, none)] R X)) :
 Runs Try.prog T0 (.fn 6) [v0, v1] h R X := Runs.fn ztQ_t rfl k
abbrev ztQ_l0_M : List Nat := [0, 0, 0, 0, 1, 0, 0, 0, 0, 2, 1, 1, 1, 1, 1, 1, 1, 1, 1, 1, 1, 1, 1, 1, 1, 1, 0, 0, 0, 0, 0, 0, 0, 0, 0, 0, 0, 0, 0, 0, 0, 0, 0, 0, 0, 0, 0, 0, 0, 1, 1, 1, 1, 1, 1, 1, 1, 1, 1, 1, 1, 1, 1, 1, 1, 1, 1, 1, 1, 1, 1, 1, 1, 1, 1, 1, 1, 1, 1, 1, 1, 1, 1, 1, 1, 1, 1, 1, 1, 1, 1, 1, 1, 1, 1, 1, 1, 1, 1, 1, 1, 1, 1, 1, 1, 1, 1, 1, 1, 1, 1, 1, 1, 1, 1, 1, 1, 1, 1, 1, 1, 1, 1, 1, 1, 1, 1, 1, 1, 1, 1, 1, 1, 1, 1, 1, 1, 1, 1, 1, 1, 1, 1, 1, 1, 1, 1, 1, 1, 1, 1, 1, 1, 1, 1, 1, 1, 1, 1, 1, 1, 1, 1, 1, 1, 1, 1, 1, 1, 1, 1, 1, 1, 1, 1, 1, 1, 1, 1, 1, 1, 1, 1, 1, 1, 1, 1, 1, 1, 1, 1, 1, 1, 1, 1, 1, 1, 1, 1, 1, 1, 1, 1, 1, 1, 1, 1, 1, 1, 1, 1, 1, 1, 0]
end Go.Proofs.Ytmhnddkpiefkhaa.A

namespace Go.Proofs.Ytmhnddkpiefkhaa.A
open Go Go.Vm
set_option maxRecDepth 10000
set_option linter.unusedVariables false
set_option maxHeartbeats 400000000 in
theorem StoreActs_true {h : Heap} {n : Int} {w : Value} {l : List AC} (hv : Rd h 169 w (acells l) l.length) (hl : ∀ a ∈ l, BkRd h a.b a.sv a.sl) :
    Runs Try.prog T0 (.fn fn_ztQ) [.int .i64 n, w] h (fun r h' => r = .bool true) (fun _ _ => False) := by
  obtain ⟨aw, cw, rfl, hwl, hwc⟩ := id hv
  refine ztQ_runs ?_
  refine stp ?_
  refine O.call' (long_ok hv hl) (fun r h1 hr => ?_)
  obtain ⟨⟨b, rfl, hlong⟩, f1⟩ := hr
  cases b with
  | true =>
    refine stp ?_
    refine O.call' zuQ_known (fun r h2 hr => ?_)
    obtain ⟨rfl, rfl⟩ := hr
    refine stp ?_
    rfl
  | false =>
  obtain ⟨hl40, hacts⟩ := hlong rfl
  refine stp ?_
  refine O.call' SNew_ok (fun r h2 hr => ?_)
  obtain ⟨f2, hr⟩ := hr
  rcases hr with ⟨hbad, rfl⟩ | ⟨hroom, rfl, hs2⟩
  · refine stp ?_
    refine O.call' dNew_ok (fun r h3 hr => ?_)
    obtain ⟨f3, hr⟩ := hr
    rcases hr with ⟨_, rfl⟩ | ⟨hroom, _⟩
    · refine stp ?_
      refine loop1 ztQ_l0_M 9 (fun q v9 hx => v9 = .int .i64 0) ?_ 0 rfl
      rintro m v9 h' x4 x10 x11 x12 x13 x14 x15 x16 x17 x18 x19 x20 x21 x22 x23 x24 x25 x49 x50 x51 x52 x53 x54 x55 x56 x57 x58 x59 x60 x61 x62 x63 x64 x65 x66 x67 x68 x69 x70 x71 x72 x73 x74 x75 x76 x77 x78 x79 x80 x81 x82 x83 x84 x85 x86 x87 x88 x89 x90 x91 x92 x93 x94 x95 x96 x97 x98 x99 x100 x101 x102 x103 x104 x105 x106 x107 x108 x109 x110 x111 x112 x113 x114 x115 x116 x117 x118 x119 x120 x121 x122 x123 x124 x125 x126 x127 x128 x129 x130 x131 x132 x133 x134 x135 x136 x137 x138 x139 x140 x141 x142 x143 x144 x145 x146 x147 x148 x149 x150 x151 x152 x153 x154 x155 x156 x157 x158 x159 x160 x161 x162 x163 x164 x165 x166 x167 x168 x169 x170 x171 x172 x173 x174 x175 x176 x177 x178 x179 x180 x181 x182 x183 x184 x185 x186 x187 x188 x189 x190 x191 x192 x193 x194 x195 x196 x197 x198 x199 x200 x201 x202 x203 x204 x205 x206 x207 x208 x209 x210 x211 x212 rfl
      refine stp ?_
      refine O.call' zuQ_known (fun r h2 hr => ?_)
      obtain ⟨rfl, rfl⟩ := hr
      refine stp ?_
      rfl
    · omega
  refine stp ?_
  refine O.call' dNew_ok (fun r h3 hr => ?_)
  obtain ⟨f3, hr⟩ := hr
  rcases hr with ⟨hbad, _⟩ | ⟨_, rfl, hd3⟩
  · omega
  have F3 := (f1.trans' f2).trans' f3
  have n1 := f1.n
  have n2 := hs2.pl
  have n3 := f3.n
  have hs3 := hs2.keep f3 fun _ _ => id
  have hb0 : Both h.n h3 (h1.n + 1) h1.n h2.n 0 n [] [] (.slice none 0 0) (.slice none 0 0) := by
    refine ⟨hs3, hd3, Corr.nil, ⟨by simp; omega, by simp, by simp⟩, hroom.2, fun j hj => ?_, fun j hj => ?_⟩
    · rcases hj with e | e | ⟨_, e, _⟩
      · exact ⟨by omega, fun q => by rcases q with q | q | q; · omega
                                     · exact q.elim
                                     · exact q.elim, fun ⟨_, q, _⟩ => absurd q (by simp)⟩
      · exact ⟨by omega, fun q => by rcases q with q | q | q; · omega
                                     · exact q.elim
                                     · exact q.elim, fun ⟨_, q, _⟩ => absurd q (by simp)⟩
      · exact absurd e (by simp)
    · rcases hj with e | e | e
      · omega
      · exact e.elim
      · exact e.elim
  generalize h1.n + 1 = p at *
  generalize h1.n = m at *
  generalize h2.n = d at *
  refine stp ?_
  refine loop1 ztQ_l0_M 9 (fun q v9 hx => ∃ (i c : Nat) (S : List SE) (Y : List DE) (vB vK : Value), i ≤ l.length ∧ q = l.length - i ∧ v9 = .int .i64 i ∧ Both h.n hx p m d c n S Y vB vK ∧ Fr (fun _ => False) h hx) ?_ l.length ⟨0, 0, [], [], _, _, by omega, rfl, rfl, hb0, F3⟩
  rintro m v9 h' x4 x10 x11 x12 x13 x14 x15 x16 x17 x18 x19 x20 x21 x22 x23 x24 x25 x49 x50 x51 x52 x53 x54 x55 x56 x57 x58 x59 x60 x61 x62 x63 x64 x65 x66 x67 x68 x69 x70 x71 x72 x73 x74 x75 x76 x77 x78 x79 x80 x81 x82 x83 x84 x85 x86 x87 x88 x89 x90 x91 x92 x93 x94 x95 x96 x97 x98 x99 x100 x101 x102 x103 x104 x105 x106 x107 x108 x109 x110 x111 x112 x113 x114 x115 x116 x117 x118 x119 x120 x121 x122 x123 x124 x125 x126 x127 x128 x129 x130 x131 x132 x133 x134 x135 x136 x137 x138 x139 x140 x141 x142 x143 x144 x145 x146 x147 x148 x149 x150 x151 x152 x153 x154 x155 x156 x157 x158 x159 x160 x161 x162 x163 x164 x165 x166 x167 x168 x169 x170 x171 x172 x173 x174 x175 x176 x177 x178 x179 x180 x181 x182 x183 x184 x185 x186 x187 x188 x189 x190 x191 x192 x193 x194 x195 x196 x197 x198 x199 x200 x201 x202 x203 x204 x205 x206 x207 x208 x209 x210 x211 x212 ⟨i, c, S, Y, vB, vK, hi, rfl, rfl, hB, hF⟩
  refine stp ?_
  refine C.if (fun hlt => ?_) (fun hge => ?_)
  case refine_2 =>
    refine stp ?_
    refine O.call' zuQ_known (fun r h2 hr => ?_)
    obtain ⟨rfl, rfl⟩ := hr
    refine stp ?_
    rfl
  have hlt : i < l.length := by omega
  obtain ⟨b, o, sp, rfl, hb, hcc⟩ := hwc (by omega)
  have hccx : cellsAt h' b o (l.length * 169) = some (acells l) := (cellsAt_keep hF hb id).trans hcc
  have cA := act_cells hl hccx rfl hlt
  have hm := hl _ (act_mem hlt)
  have hao := hacts _ (act_mem hlt)
  have hblk : ∀ j, blockOf (l.getD i zAC).sv j ∨ blockOf (l.getD i zAC).sl j → j < h.n := fun j hj => hj.elim (Rd.block_lt hm.sv) (Rd.block_lt hm.sl)
  generalize l.getD i zAC = X at *
  obtain ⟨xk, xw, xi, xb, xsv, xsl⟩ := X
  have hm : BkRd h xb xsv xsl := hm
  have hao : actOK ⟨xk, xw, xi, xb, xsv, xsl⟩ := hao
  have hlv : xb.c.votes.length ≤ 70 := hao.2.1
  have hll : xb.vals.length ≤ 70 := hao.1
  have hblk : ∀ j, blockOf xsv j ∨ blockOf xsl j → j < h.n := hblk
  haveI := l32 hm.hd.prev
  haveI := l32 hm.hd.vals
  haveI := l32 hm.hd.next
  haveI := l32 hm.hd.app
  haveI := l32 hm.hash
  have cA : Cells h' b (o + i * 169) 169 (.int .i64 xk :: .int .i64 xw :: .bool xi :: xb.cells xsv xsl) := cA
  haveI := cA
  have nF := hF.n
  obtain ⟨hSl, hDl⟩ := hB.len
  obtain ⟨ax1, cx1, rfl, _, _⟩ := id hm.sv
  obtain ⟨ax2, cx2, rfl, _, _⟩ := id hm.sl
  refine stp ?_
  generalize hXC : (.int .i64 xk :: .int .i64 xw :: .bool xi :: xb.cells (.slice ax1 xb.c.votes.length cx1) (.slice ax2 xb.vals.length cx2) : List Value) = XC
  have gX0 : (h'.push (.cells XC 0)).get h'.n = .cells XC 0 := HGet.new.eq
  have FX0 : Fr (fun _ => False) h' (h'.push (.cells XC 0)) := Fr.refl.push
  have nX0 : (h'.push (.cells XC 0)).n = h'.n + 1 := rfl
  generalize h'.push (.cells XC 0) = hx at *
  refine O.call' (CopyBlockA_ok (hm.keep (hF.trans' FX0) fun _ _ => id) (by omega) (by omega)) (fun r h5 hr => ?_)
  obtain ⟨swi, smi, rfl, oI1, oI2, mI1, mI2, mI3, f5⟩ := hr
  have lI1 := fun {j : Nat} (hj : ownedBy swi j) => oI1.lt hj
  have lI2 := fun {j : Nat} (hj : ownedBy smi j) => oI2.lt hj
  obtain ⟨ai1, ci1, rfl, _, _⟩ := id oI1.rd
  obtain ⟨ai2, ci2, rfl, _, _⟩ := id oI2.rd
  haveI : HGet h5 h'.n _ := f5.keep ⟨gX0⟩ (by omega) id
  haveI : BLt h'.n h5 := ⟨by have := f5.n; omega⟩
  subst hXC
  refine stp ?_
  have n5 := f5.n
  have gI : (h5.push (.cells (xb.cells (.slice ai1 xb.c.votes.length ci1) (.slice ai2 xb.vals.length ci2)) 0)).get h5.n = .cells (xb.cells (.slice ai1 xb.c.votes.length ci1) (.slice ai2 xb.vals.length ci2)) 0 := HGet.new.eq
  have gXC : (h5.push (.cells (xb.cells (.slice ai1 xb.c.votes.length ci1) (.slice ai2 xb.vals.length ci2)) 0)).get h'.n = .cells (.int .i64 xk :: .int .i64 xw :: .bool xi :: xb.cells (.slice ax1 xb.c.votes.length cx1) (.slice ax2 xb.vals.length cx2)) 0 := by
    rw [Heap.get_push, if_neg (by omega), f5.get _ (by omega) id]
    exact gX0
  have FC : Fr (fun _ => False) h' (h5.push (.cells (xb.cells (.slice ai1 xb.c.votes.length ci1) (.slice ai2 xb.vals.length ci2)) 0)) := (FX0.trans' f5).push
  have nC : (h5.push (.cells (xb.cells (.slice ai1 xb.c.votes.length ci1) (.slice ai2 xb.vals.length ci2)) 0)).n = h5.n + 1 := rfl
  have oC1 := oI1.keep (S := fun _ => False) (Fr.refl.push (o := .cells (xb.cells (.slice ai1 xb.c.votes.length ci1) (.slice ai2 xb.vals.length ci2)) 0)) fun _ _ => id
  have oC2 := oI2.keep (S := fun _ => False) (Fr.refl.push (o := .cells (xb.cells (.slice ai1 xb.c.votes.length ci1) (.slice ai2 xb.vals.length ci2)) 0)) fun _ _ => id
  generalize h5.push (.cells (xb.cells (.slice ai1 xb.c.votes.length ci1) (.slice ai2 xb.vals.length ci2)) 0) = hC at *
  have hBC := hB.keep (FC.mono fun _ _ e => e.elim)
  have FhC := hF.trans' FC
  have isI : ∀ j, ownedBy (.slice ai1 xb.c.votes.length ci1) j ∨ ownedBy (.slice ai2 xb.vals.length ci2) j → h'.n < j ∧ j < h5.n := fun j hj => hj.elim (fun e => ⟨by have := mI1 j e; omega, lI1 e⟩) (fun e => ⟨by have := mI2 j e; omega, lI2 e⟩)
  have hMl : ∀ j, Mine p m S j → h.n ≤ j ∧ j < h'.n := fun j hj => ⟨(hB.mn j hj).1, hB.st.mlt hj⟩
  have hDo : ∀ j, DOwn d vB vK j → h.n ≤ j ∧ j < h'.n := fun j hj => ⟨hB.dn j hj, hB.dt.olt hj⟩
  have hDi : ∀ j, DIn Y j → j < h'.n := fun j hj => hB.dt.ilt hj
  have hml := hMl m (.inr (.inl rfl))
  have hdl := hDo d (.inl rfl)
  have hmd : m ≠ d := fun e => (hB.mn m (.inr (.inl rfl))).2.1 (.inl e)
  have hlo : h.n ≤ hC.n := by omega
  clear mI1 mI2 lI1 lI2 oI1 oI2 f5 gX0 FX0 hccx hcc cA
  refine cut1 [0, 0, 0, 0, 0, 0, 0, 0, 0, 0, 0, 2, 0, 1, 1, 1, 1, 0, 0, 0, 0, 0, 0, 0, 0, 0, 0, 0, 0, 0, 0, 0, 0, 0, 0, 0, 0, 0, 0, 0, 0, 0, 0, 0, 0, 0, 0, 0, 0, 0, 0, 0, 0, 0, 0, 0, 0, 0, 0, 0, 0, 0, 0, 0, 0, 0, 0, 0, 0, 0, 1, 1, 1, 1, 1, 1, 1, 1, 1, 1, 1, 1, 1, 1, 1, 1, 1, 1, 1, 1, 1, 1, 1, 1, 1, 1, 1, 1, 1, 1, 1, 1, 1, 1, 1, 1, 1, 1, 1, 1, 1, 1, 1, 1, 1, 1, 1, 1, 1, 1, 1, 1, 1, 1, 1, 1, 1, 1, 1, 1, 1, 1, 1, 1, 1, 0, 0, 0, 0, 0, 0, 0, 0, 0, 0, 0, 0, 0, 0, 0, 0, 0, 0, 0, 0, 0, 0, 0, 0, 0, 0, 0, 0, 0, 0, 0, 0, 0, 0, 0, 0, 0, 0, 0, 0, 0, 0, 0, 0, 0, 0, 0, 0, 0, 0, 0, 0, 0, 0, 0, 0, 0, 0, 0, 0, 0, 0, 0, 0, 0, 0, 0, 0, 0, 0, 0, 0, 0, 0, 0, 0, 0, 0, 0] .normal (fun v hz => v = .bool true ∧ ∃ (c' : Nat) (S' : List SE) (D' : List DE) (vB' vK' : Value), Both h.n hz p m d c' n S' D' vB' vK' ∧ Fr (fun _ => False) h hz ∧ hz.get h'.n = .cells (.int .i64 xk :: .int .i64 xw :: .bool xi :: xb.cells (.slice ax1 xb.c.votes.length cx1) (.slice ax2 xb.vals.length cx2)) 0 ∧ h'.n < hz.n) ?_ ?_
  · haveI : HGet hC h'.n _ := ⟨gXC⟩
    refine C.if (fun hk0 => ?_) (fun hk0 => ?_)
    · haveI : HGet hC h5.n _ := ⟨gI⟩
      refine stp ?_
      refine O.call' (Put_ok hBC.st hSl ⟨hm.hd, hm.hash, oC1.rd, oC2.rd⟩ hlv hll (fun j hj e => by have := isI j (hj.imp block_own block_own); omega)) (fun r h6 hr => ?_)
      obtain ⟨gone, e, S', c', rfl, hrel, hs6, f6, hmine⟩ := hr
      have n6 := f6.n
      have gX6 : h6.get h'.n = _ := (f6.get _ (by omega) (by omega)).trans gXC
      haveI : HGet h6 h'.n _ := ⟨gX6⟩
      have F6 : Fr (fun _ => False) h h6 := FhC.trans f6 fun j hj e => by omega
      have hd6 := hBC.dt.keep f6 (fun j hj e => (hB.mn j (.inr (.inl e))).2.1 hj) (fun j hj e => (hB.mn j (.inr (.inl e))).2.2 hj)
      refine stp ?_
      refine O.call' (dPut_ok hd6 hDl (hm.keep F6 fun _ _ => id) hlv hll (fun j hj e => by have := hblk j hj; omega)) (fun r h7 hr => ?_)
      obtain ⟨gone2, e2, D', vB', vK', rfl, hrel2, hd7, f7, hown7, hin7⟩ := hr
      have n7 := f7.n
      obtain ⟨rfl, rfl, hco⟩ := put_corr hB.co hrel hrel2
      have hs7 := hs6.keep f7 (fun j hj q => by
        rcases hmine j hj with h8 | h8
        · exact (hB.mn j h8).2.1 (.inl q)
        · omega)
      have hB7 := hBC.step (k := h6.n) hlo n6 hs7 hd7 hco (put_inv hrel hB.iv) (fun j hj => (hmine j hj).imp id fun q => ⟨q, hs6.mlt hj⟩) hown7 hin7
      have F7 : Fr (fun _ => False) h h7 := F6.trans f7 fun j hj e => by omega
      have gX7 : h7.get h'.n = _ := (f7.get _ (by omega) (by omega)).trans gX6
      have gI7 : h7.get h5.n = _ := (f7.get _ (by omega) (by omega)).trans ((f6.get _ (by omega) (by omega)).trans gI)
      haveI : HGet h7 h'.n _ := ⟨gX7⟩
      haveI : HGet h7 h5.n _ := ⟨gI7⟩
      have o71 := (oC1.keep f6 fun j hj e => by have := isI j (.inl hj); omega).keep f7 fun j hj e => by have := isI j (.inl hj); omega
      have o72 := (oC2.keep f6 fun j hj e => by have := isI j (.inr hj); omega).keep f7 fun j hj e => by have := isI j (.inr hj); omega
      haveI q1 : ∀ {ts : List Value} {h : Heap} {O : Oper} {x y : Operand} [Ev ts x (.int .i64 gone)] [Ev ts y (.int .i64 gone)], XOp Try.prog ts h (.bin .eql O x y) (.bool true) h := xeql1 rfl
      haveI q2 : ∀ {ts : List Value} {h : Heap} {O : Oper} {x y : Operand} [Ev ts x (.int .i64 e)] [Ev ts y (.int .i64 e)], XOp Try.prog ts h (.bin .eql O x y) (.bool true) h := xeql1 rfl
      refine stp ?_
      refine O.callT (SameBlock_self ⟨hm.hd, hm.hash, o71.rd, o72.rd⟩ (hm.keep F7 fun _ _ => id) hlv hll) (fun r h8 hr => ?_)
      obtain ⟨rfl, f8⟩ := hr
      have n8 := f8.n
      haveI : HGet h8 h5.n _ := f8.keep ⟨gI7⟩ (by omega) id
      refine stp ?_
      refine O.call' (OverBlockF_ok hm.hd hm.hash hlv hll (o71.keep f8 fun _ _ => id) (o72.keep f8 fun _ _ => id) mI3) (fun r h9 hr => ?_)
      have n9 := hr.n
      refine stp ?_
      refine cutQ1.out 11 ⟨rfl, _, _, _, _, _, (hB7.keep (f8.mono fun _ _ e => e.elim)).keepS hr (fun j hj e => ?_) (fun j hj e => ?_) (fun j hj e => ?_), (F7.trans' f8).trans hr fun j hj e => by have := isI j e; omega, (hr.get _ (by omega) fun e => by have := isI _ e; omega).trans ((f8.get _ (by omega) id).trans gX7), by omega⟩
      · have h2 := isI j e
        rcases hmine j hj with h3 | h3
        · have := hMl j h3; omega
        · omega
      · have h2 := isI j e
        rcases hown7 j hj with h3 | h3
        · have := hDo j h3; omega
        · omega
      · have h2 := isI j e
        rcases hin7 j hj with h3 | h3
        · have := hDi j h3; omega
        · omega
    have hyb : ∀ j, (∃ y ∈ S, j = y.b) → Mine p m S j := fun j ⟨y, hy, e⟩ => .inr (.inr ⟨y, hy, .inl e⟩)
    have hvk : ∀ j, ownedBy vK j → DOwn d vB vK j := fun j hj => .inr (.inr hj)
    refine stp ?_
    refine C.if (fun hk1 => ?_) (fun hk1 => ?_)
    · refine stp ?_
      refine D.callX (Pin_ok hBC.st) (fun r h6 hr => ?_) (fun r h6 hr => ?_) (fun _ _ hx => hx.elim)
      · obtain ⟨e, rfl, _, _, f6, _⟩ := hr
        haveI : HGet h6 h'.n _ := ⟨(f6.get _ (by omega) fun q => by have := hMl _ (hyb _ q); omega).trans gXC⟩
        repeat refine stab_cons inferInstance ?_
        rfl
      obtain ⟨e, rfl, hwe, hs6, f6, hmine⟩ := hr
      have n6 := f6.n
      have hd6 := hBC.dt.keep f6 (fun j hj e => (hB.mn j (hyb j e)).2.1 hj) (fun j hj e => (hB.mn j (hyb j e)).2.2 hj)
      have F6 : Fr (fun _ => False) h h6 := FhC.trans f6 fun j hj e => by have := hMl _ (hyb _ e); omega
      have gX6 : h6.get h'.n = _ := (f6.get _ (by omega) fun q => by have := hMl _ (hyb _ q); omega).trans gXC
      haveI : HGet h6 h'.n _ := ⟨gX6⟩
      refine stp ?_
      refine D.callX (dPin_ok hd6 hDl) (fun r h7 hr => rfl) (fun r h7 hr => ?_) (fun _ _ hx => hx.elim)
      obtain ⟨e2, D', rfl, hmr, hd7, f7, hin⟩ := hr
      have n7 := f7.n
      obtain ⟨rfl, hco⟩ := mark_corr (f := pinF xi) (g := fun t => ⟨t.x, t.v, xi⟩) hB.co (fun _ => rfl) (fun _ => rfl) (fun _ => rfl) hwe hmr
      have hB7 := hBC.step (k := h6.n) hlo n6 (hs6.keep f7 fun j hj q => (hB.mn j (hmine j hj)).2.1 (hvk j q)) hd7 hco (turn_inv (fun _ => rfl) hB.iv) (fun j hj => .inl (hmine j hj)) (fun j hj => .inl hj) (fun j hj => .inl (hin j hj))
      haveI q2 : ∀ {ts : List Value} {h : Heap} {O : Oper} {x y : Operand} [Ev ts x (.int .i64 e)] [Ev ts y (.int .i64 e)], XOp Try.prog ts h (.bin .eql O x y) (.bool true) h := xeql1 rfl
      refine stp ?_
      exact cutQ1.out 11 ⟨rfl, _, _, _, _, _, hB7, F6.trans f7 fun j hj e => by have := hDo j (hvk j e); omega, (f7.get _ (by omega) fun e => by have := hDo _ (hvk _ e); omega).trans gX6, by omega⟩
    refine stp ?_
    refine C.if (fun hk2 => ?_) (fun hk2 => ?_)
    · refine stp ?_
      refine D.callX (Verify_ok hBC.st) (fun r h6 hr => ?_) (fun r h6 hr => ?_) (fun _ _ hx => hx.elim)
      · obtain ⟨e, rfl, _, _, f6, _⟩ := hr
        haveI : HGet h6 h'.n _ := ⟨(f6.get _ (by omega) fun q => by have := hMl _ (hyb _ q); omega).trans gXC⟩
        repeat refine stab_cons inferInstance ?_
        rfl
      obtain ⟨e, rfl, hwe, hs6, f6, hmine⟩ := hr
      have n6 := f6.n
      have hd6 := hBC.dt.keep f6 (fun j hj e => (hB.mn j (hyb j e)).2.1 hj) (fun j hj e => (hB.mn j (hyb j e)).2.2 hj)
      have F6 : Fr (fun _ => False) h h6 := FhC.trans f6 fun j hj e => by have := hMl _ (hyb _ e); omega
      have gX6 : h6.get h'.n = _ := (f6.get _ (by omega) fun q => by have := hMl _ (hyb _ q); omega).trans gXC
      haveI : HGet h6 h'.n _ := ⟨gX6⟩
      refine stp ?_
      refine D.callX (dVerify_ok hd6 hDl) (fun r h7 hr => rfl) (fun r h7 hr => ?_) (fun _ _ hx => hx.elim)
      obtain ⟨e2, D', rfl, hmr, hd7, f7, hin⟩ := hr
      have n7 := f7.n
      obtain ⟨rfl, hco⟩ := mark_corr (f := verF) (g := fun t => ⟨t.x, true, t.p⟩) hB.co (fun _ => rfl) (fun _ => rfl) (fun _ => rfl) hwe hmr
      have hB7 := hBC.step (k := h6.n) hlo n6 (hs6.keep f7 fun j hj q => (hB.mn j (hmine j hj)).2.1 (hvk j q)) hd7 hco (turn_inv (fun _ => rfl) hB.iv) (fun j hj => .inl (hmine j hj)) (fun j hj => .inl hj) (fun j hj => .inl (hin j hj))
      haveI q2 : ∀ {ts : List Value} {h : Heap} {O : Oper} {x y : Operand} [Ev ts x (.int .i64 e)] [Ev ts y (.int .i64 e)], XOp Try.prog ts h (.bin .eql O x y) (.bool true) h := xeql1 rfl
      refine stp ?_
      exact cutQ1.out 11 ⟨rfl, _, _, _, _, _, hB7, F6.trans f7 fun j hj e => by have := hDo j (hvk j e); omega, (f7.get _ (by omega) fun e => by have := hDo _ (hvk _ e); omega).trans gX6, by omega⟩
    refine stp ?_
    refine C.if (fun hk3 => ?_) (fun hk3 => ?_)
    · refine stp ?_
      refine O.call' (Clear_ok hBC.st) (fun r h6 hr => ?_)
      obtain ⟨hs6, f6, hmine⟩ := hr
      have n6 := f6.n
      have hd6 := hBC.dt.keep f6 (fun j hj e => (hB.mn j (.inr (.inl e))).2.1 hj) (fun j hj e => (hB.mn j (.inr (.inl e))).2.2 hj)
      have F6 : Fr (fun _ => False) h h6 := FhC.trans f6 fun j hj e => by omega
      have gX6 : h6.get h'.n = _ := (f6.get _ (by omega) (by omega)).trans gXC
      haveI : HGet h6 h'.n _ := ⟨gX6⟩
      refine stp ?_
      refine O.call' (dClear_ok hd6 hDl) (fun r h7 hr => ?_)
      obtain ⟨vB', vK', hd7, f7, hown7⟩ := hr
      have n7 := f7.n
      have hB7 := hBC.step (k := h6.n) hlo n6 (hs6.keep f7 fun j hj q => (hB.mn j (hmine j hj)).2.1 (.inl q)) hd7 (only_corr hB.co xw) (only_inv hB.iv) (fun j hj => .inl (hmine j hj)) hown7 (fun j ⟨e, he, hj⟩ => .inl ⟨e, (List.mem_filter.1 he).1, hj⟩)
      refine stp ?_
      exact cutQ1.out 11 ⟨rfl, _, _, _, _, _, hB7, F6.trans f7 fun j hj e => by omega, (f7.get _ (by omega) (by omega)).trans gX6, by omega⟩
    · refine stp ?_
      exact cutQ1.out 11 ⟨rfl, _, _, _, _, _, hBC, FhC, gXC, by omega⟩
  intro v11 h5z x13 x14 x15 x16 x70 x71 x72 x73 x74 x75 x76 x77 x78 x79 x80 x81 x82 x83 x84 x85 x86 x87 x88 x89 x90 x91 x92 x93 x94 x95 x96 x97 x98 x99 x100 x101 x102 x103 x104 x105 x106 x107 x108 x109 x110 x111 x112 x113 x114 x115 x116 x117 x118 x119 x120 x121 x122 x123 x124 x125 x126 x127 x128 x129 x130 x131 x132 x133 x134 ⟨e11, c2, S2, D2, vB2, vK2, hB5, F5, gX5, lt5⟩
  subst e11
  have hnh : h.n ≤ h5z.n := F5.n
  clear hBC FhC isI hMl hDo hDi hml hdl hmd hlo gXC gI FC nC oC1 oC2 mI3 hB hSl hDl
  obtain ⟨hSl, hYl⟩ := hB5.len
  have hdl5 := hB5.dt.dl
  generalize h'.n = aX at *
  haveI : HGet h5z aX _ := ⟨gX5⟩
  have gX : h5z.get aX = _ := gX5
  have FF : Fr (fun _ => False) h5z h5z := Fr.refl
  refine stp ?_
  refine O.call' (GetT_ok hB5.st) (fun r g1 hr => ?_)
  obtain ⟨⟨y1, sw1, sm1, b1, rfl, N1, lv1, ll1, t1⟩, f1⟩ := hr
  have aw1 := fun {j : Nat} (hj : ownedBy sw1 j) => N1.sv.lt hj
  have am1 := fun {j : Nat} (hj : ownedBy sm1 j) => N1.sl.lt hj
  obtain ⟨av1, cv1, rfl, _, _⟩ := id N1.sv.rd
  obtain ⟨al1, cl1, rfl, _, _⟩ := id N1.sl.rd
  have hn_f1 := f1.n
  have gX := (f1.get _ (by omega) id).trans gX
  have FF := FF.trans' f1
  haveI : HGet _ aX _ := ⟨gX⟩
  haveI := l32 N1.hd.prev
  haveI := l32 N1.hd.vals
  haveI := l32 N1.hd.next
  haveI := l32 N1.hd.app
  haveI := l32 N1.hash
  refine stp ?_
  have e1 : Fr (fun _ => False) g1 (g1.push (.cells (y1.cells (.slice av1 y1.c.votes.length cv1) (.slice al1 y1.vals.length cl1)) 0)) := Fr.refl.push
  have gA1 : (g1.push (.cells (y1.cells (.slice av1 y1.c.votes.length cv1) (.slice al1 y1.vals.length cl1)) 0)).get g1.n = .cells (y1.cells (.slice av1 y1.c.votes.length cv1) (.slice al1 y1.vals.length cl1)) 0 := HGet.new.eq
  have m1 : (g1.push (.cells (y1.cells (.slice av1 y1.c.votes.length cv1) (.slice al1 y1.vals.length cl1)) 0)).n = g1.n + 1 := rfl
  generalize g1.push (.cells (y1.cells (.slice av1 y1.c.votes.length cv1) (.slice al1 y1.vals.length cl1)) 0) = k1 at *
  have hn_e1 := e1.n
  have gX := (e1.get _ (by omega) id).trans gX
  have N1 := N1.keep e1 fun _ _ => id
  have FF := FF.trans' e1
  haveI : HGet _ aX _ := ⟨gX⟩
  refine stp ?_
  refine O.call' (dGetT_ok (hB5.dt.keep FF (fun _ _ => id) (fun _ _ => id)) hYl) (fun r g2 hr => ?_)
  obtain ⟨⟨y2, sw2, sm2, b2, rfl, N2, lv2, ll2, t2⟩, f2⟩ := hr
  obtain ⟨rfl, rfl⟩ := told_same hB5.co t1 t2
  have aw2 := fun {j : Nat} (hj : ownedBy sw2 j) => N2.sv.lt hj
  have am2 := fun {j : Nat} (hj : ownedBy sm2 j) => N2.sl.lt hj
  obtain ⟨av2, cv2, rfl, _, _⟩ := id N2.sv.rd
  obtain ⟨al2, cl2, rfl, _, _⟩ := id N2.sl.rd
  have hn_f2 := f2.n
  have gX := (f2.get _ (by omega) id).trans gX
  have gA1 := (f2.get _ (by omega) id).trans gA1
  have N1 := N1.keep f2 fun _ _ => id
  have FF := FF.trans' f2
  haveI : HGet _ aX _ := ⟨gX⟩
  refine stp ?_
  have e2 : Fr (fun _ => False) g2 (g2.push (.cells (y1.cells (.slice av2 y1.c.votes.length cv2) (.slice al2 y1.vals.length cl2)) 0)) := Fr.refl.push
  have gA2 : (g2.push (.cells (y1.cells (.slice av2 y1.c.votes.length cv2) (.slice al2 y1.vals.length cl2)) 0)).get g2.n = .cells (y1.cells (.slice av2 y1.c.votes.length cv2) (.slice al2 y1.vals.length cl2)) 0 := HGet.new.eq
  have m2 : (g2.push (.cells (y1.cells (.slice av2 y1.c.votes.length cv2) (.slice al2 y1.vals.length cl2)) 0)).n = g2.n + 1 := rfl
  generalize g2.push (.cells (y1.cells (.slice av2 y1.c.votes.length cv2) (.slice al2 y1.vals.length cl2)) 0) = k2 at *
  have hn_e2 := e2.n
  have gX := (e2.get _ (by omega) id).trans gX
  have gA1 := (e2.get _ (by omega) id).trans gA1
  have N1 := N1.keep e2 fun _ _ => id
  have N2 := N2.keep e2 fun _ _ => id
  have FF := FF.trans' e2
  haveI : HGet _ aX _ := ⟨gX⟩
  refine stp ?_
  refine O.call' (BelowT_ok (hB5.st.keep FF fun _ _ => id) hSl) (fun r g3 hr => ?_)
  obtain ⟨⟨y3, sw3, sm3, b3, rfl, N3, lv3, ll3, t3⟩, f3⟩ := hr
  have aw3 := fun {j : Nat} (hj : ownedBy sw3 j) => N3.sv.lt hj
  have am3 := fun {j : Nat} (hj : ownedBy sm3 j) => N3.sl.lt hj
  obtain ⟨av3, cv3, rfl, _, _⟩ := id N3.sv.rd
  obtain ⟨al3, cl3, rfl, _, _⟩ := id N3.sl.rd
  have hn_f3 := f3.n
  have gX := (f3.get _ (by omega) id).trans gX
  have gA1 := (f3.get _ (by omega) id).trans gA1
  have gA2 := (f3.get _ (by omega) id).trans gA2
  have N1 := N1.keep f3 fun _ _ => id
  have N2 := N2.keep f3 fun _ _ => id
  have FF := FF.trans' f3
  haveI : HGet _ aX _ := ⟨gX⟩
  haveI := l32 N3.hd.prev
  haveI := l32 N3.hd.vals
  haveI := l32 N3.hd.next
  haveI := l32 N3.hd.app
  haveI := l32 N3.hash
  refine stp ?_
  have e3 : Fr (fun _ => False) g3 (g3.push (.cells (y3.cells (.slice av3 y3.c.votes.length cv3) (.slice al3 y3.vals.length cl3)) 0)) := Fr.refl.push
  have gA3 : (g3.push (.cells (y3.cells (.slice av3 y3.c.votes.length cv3) (.slice al3 y3.vals.length cl3)) 0)).get g3.n = .cells (y3.cells (.slice av3 y3.c.votes.length cv3) (.slice al3 y3.vals.length cl3)) 0 := HGet.new.eq
  have m3 : (g3.push (.cells (y3.cells (.slice av3 y3.c.votes.length cv3) (.slice al3 y3.vals.length cl3)) 0)).n = g3.n + 1 := rfl
  generalize g3.push (.cells (y3.cells (.slice av3 y3.c.votes.length cv3) (.slice al3 y3.vals.length cl3)) 0) = k3 at *
  have hn_e3 := e3.n
  have gX := (e3.get _ (by omega) id).trans gX
  have gA1 := (e3.get _ (by omega) id).trans gA1
  have gA2 := (e3.get _ (by omega) id).trans gA2
  have N1 := N1.keep e3 fun _ _ => id
  have N2 := N2.keep e3 fun _ _ => id
  have N3 := N3.keep e3 fun _ _ => id
  have FF := FF.trans' e3
  haveI : HGet _ aX _ := ⟨gX⟩
  refine stp ?_
  refine O.call' (dBelowT_ok (hB5.dt.keep FF (fun _ _ => id) (fun _ _ => id)) hYl) (fun r g4 hr => ?_)
  obtain ⟨⟨y4, sw4, sm4, b4, rfl, N4, lv4, ll4, t4⟩, f4⟩ := hr
  obtain ⟨rfl, rfl⟩ := low_same hB5.co t3 t4
  have aw4 := fun {j : Nat} (hj : ownedBy sw4 j) => N4.sv.lt hj
  have am4 := fun {j : Nat} (hj : ownedBy sm4 j) => N4.sl.lt hj
  obtain ⟨av4, cv4, rfl, _, _⟩ := id N4.sv.rd
  obtain ⟨al4, cl4, rfl, _, _⟩ := id N4.sl.rd
  have hn_f4 := f4.n
  have gX := (f4.get _ (by omega) id).trans gX
  have gA1 := (f4.get _ (by omega) id).trans gA1
  have gA2 := (f4.get _ (by omega) id).trans gA2
  have gA3 := (f4.get _ (by omega) id).trans gA3
  have N1 := N1.keep f4 fun _ _ => id
  have N2 := N2.keep f4 fun _ _ => id
  have N3 := N3.keep f4 fun _ _ => id
  have FF := FF.trans' f4
  haveI : HGet _ aX _ := ⟨gX⟩
  refine stp ?_
  have e4 : Fr (fun _ => False) g4 (g4.push (.cells (y3.cells (.slice av4 y3.c.votes.length cv4) (.slice al4 y3.vals.length cl4)) 0)) := Fr.refl.push
  have gA4 : (g4.push (.cells (y3.cells (.slice av4 y3.c.votes.length cv4) (.slice al4 y3.vals.length cl4)) 0)).get g4.n = .cells (y3.cells (.slice av4 y3.c.votes.length cv4) (.slice al4 y3.vals.length cl4)) 0 := HGet.new.eq
  have m4 : (g4.push (.cells (y3.cells (.slice av4 y3.c.votes.length cv4) (.slice al4 y3.vals.length cl4)) 0)).n = g4.n + 1 := rfl
  generalize g4.push (.cells (y3.cells (.slice av4 y3.c.votes.length cv4) (.slice al4 y3.vals.length cl4)) 0) = k4 at *
  have hn_e4 := e4.n
  have gX := (e4.get _ (by omega) id).trans gX
  have gA1 := (e4.get _ (by omega) id).trans gA1
  have gA2 := (e4.get _ (by omega) id).trans gA2
  have gA3 := (e4.get _ (by omega) id).trans gA3
  have N1 := N1.keep e4 fun _ _ => id
  have N2 := N2.keep e4 fun _ _ => id
  have N3 := N3.keep e4 fun _ _ => id
  have N4 := N4.keep e4 fun _ _ => id
  have FF := FF.trans' e4
  haveI : HGet _ aX _ := ⟨gX⟩
  refine stp ?_
  refine O.call' (List_ok (hB5.st.keep FF fun _ _ => id) hSl) (fun r g5 hr => ?_)
  obtain ⟨L1, hL1, hsort, oA, nA, f5⟩ := hr
  have eL := list_corr hB5.co hL1 hsort
  rw [eL] at oA
  have aA := fun {j : Nat} (hj : ownedBy r j) => oA.lt hj
  obtain ⟨avA, cvA, rfl, _, _⟩ := id oA.rd
  have hn_f5 := f5.n
  have gX := (f5.get _ (by omega) id).trans gX
  have gA1 := (f5.get _ (by omega) id).trans gA1
  have gA2 := (f5.get _ (by omega) id).trans gA2
  have gA3 := (f5.get _ (by omega) id).trans gA3
  have gA4 := (f5.get _ (by omega) id).trans gA4
  have N1 := N1.keep f5 fun _ _ => id
  have N2 := N2.keep f5 fun _ _ => id
  have N3 := N3.keep f5 fun _ _ => id
  have N4 := N4.keep f5 fun _ _ => id
  have FF := FF.trans' f5
  haveI : HGet _ aX _ := ⟨gX⟩
  obtain ⟨aK, cK, rfl, _, _⟩ := id hB5.dt.oK.rd
  have hBx := hB5.keep (FF.mono fun _ _ e => e.elim)
  have gD := hBx.dt.gd
  haveI : HGet _ d _ := ⟨gD⟩
  haveI : HGet _ g1.n _ := ⟨gA1⟩
  haveI : HGet _ g2.n _ := ⟨gA2⟩
  haveI : HGet _ g3.n _ := ⟨gA3⟩
  haveI : HGet _ g4.n _ := ⟨gA4⟩
  haveI q1 : ∀ {ts : List Value} {h : Heap} {x y : Operand} {t t' ty : TypeId} [IsBoolT Try.prog t] [Ev ts x (.bool b1)] [Ev ts y (.bool b1)], XOp Try.prog ts h (.bin .neq (so (.binOp .neq t x y t') ty) x y) (.bool false) h := xneqB_same
  haveI q3 : ∀ {ts : List Value} {h : Heap} {x y : Operand} {t t' ty : TypeId} [IsBoolT Try.prog t] [Ev ts x (.bool b3)] [Ev ts y (.bool b3)], XOp Try.prog ts h (.bin .neq (so (.binOp .neq t x y t') ty) x y) (.bool false) h := xneqB_same
  haveI qn : ∀ {ts : List Value} {h : Heap} {O : Oper} {x y : Operand} [Ev ts x (.int .i64 n)] [Ev ts y (.int .i64 n)], XOp Try.prog ts h (.bin .neq O x y) (.bool false) h := xneqI0 rfl
  refine stp ?_
  refine D.callT (SameBlock_self N1.rd N2.rd lv1 ll1) (fun r g6 hr => rfl) (fun r g6 hr => ?_)
  obtain ⟨rfl, f6⟩ := hr
  have hn_f6 := f6.n
  have gX := (f6.get _ (by omega) id).trans gX
  have gA1 := (f6.get _ (by omega) id).trans gA1
  have gA2 := (f6.get _ (by omega) id).trans gA2
  have gA3 := (f6.get _ (by omega) id).trans gA3
  have gA4 := (f6.get _ (by omega) id).trans gA4
  have gD := (f6.get _ (by omega) id).trans gD
  have N1 := N1.keep f6 fun _ _ => id
  have N2 := N2.keep f6 fun _ _ => id
  have N3 := N3.keep f6 fun _ _ => id
  have N4 := N4.keep f6 fun _ _ => id
  have oA := oA.keep f6 fun _ _ => id
  have FF := FF.trans' f6
  haveI : HGet _ aX _ := ⟨gX⟩
  haveI : HGet _ d _ := ⟨gD⟩
  haveI : HGet _ g1.n _ := ⟨gA1⟩
  haveI : HGet _ g2.n _ := ⟨gA2⟩
  haveI : HGet _ g3.n _ := ⟨gA3⟩
  haveI : HGet _ g4.n _ := ⟨gA4⟩
  refine stp ?_
  refine D.callT (SameBlock_self N3.rd N4.rd lv3 ll3) (fun r g7 hr => rfl) (fun r g7 hr => ?_)
  obtain ⟨rfl, f7⟩ := hr
  have hn_f7 := f7.n
  have gX := (f7.get _ (by omega) id).trans gX
  have gA1 := (f7.get _ (by omega) id).trans gA1
  have gA2 := (f7.get _ (by omega) id).trans gA2
  have gA3 := (f7.get _ (by omega) id).trans gA3
  have gA4 := (f7.get _ (by omega) id).trans gA4
  have gD := (f7.get _ (by omega) id).trans gD
  have N1 := N1.keep f7 fun _ _ => id
  have N2 := N2.keep f7 fun _ _ => id
  have N3 := N3.keep f7 fun _ _ => id
  have N4 := N4.keep f7 fun _ _ => id
  have oA := oA.keep f7 fun _ _ => id
  have FF := FF.trans' f7
  haveI : HGet _ aX _ := ⟨gX⟩
  haveI : HGet _ d _ := ⟨gD⟩
  haveI : HGet _ g1.n _ := ⟨gA1⟩
  haveI : HGet _ g3.n _ := ⟨gA3⟩
  have hBy := hB5.keep (FF.mono fun _ _ e => e.elim)
  refine stp ?_
  refine D.callT (SameKept_self oA.rd (by rw [List.length_map]; exact hBy.dt.oK.rd) (by rw [List.length_map]; omega)) (fun r g8 hr => rfl) (fun r g8 hr => ?_)
  obtain ⟨rfl, rfl⟩ := hr
  refine stp ?_
  refine D.callT (Room_ok hBy.st) (fun r g9 hr => ?_) (fun r g9 hr => ?_)
  · obtain ⟨rfl, rfl⟩ := hr
    repeat refine stab_consT inferInstance ?_
    rfl
  obtain ⟨rfl, rfl⟩ := hr
  refine stp ?_
  refine O.call' (OverBlockF_ok N1.hd N1.hash lv1 ll1 N1.sv N1.sl (fun i h1 h2 => N1.ne i h2 h1)) (fun r g10 hr => ?_)
  have f10 := hr
  have n10 := f10.n
  have s1 : ∀ j, ownedBy (.slice av1 y1.c.votes.length cv1) j ∨ ownedBy (.slice al1 y1.vals.length cl1) j → h5z.n + 1 ≤ j ∧ j < g1.n := fun j hj => hj.elim (fun e => ⟨N1.nv j e, aw1 e⟩) (fun e => ⟨N1.nl j e, am1 e⟩)
  have gA3 := (f10.get _ (by omega) fun e => by have := s1 _ e; omega).trans gA3
  have N3 := N3.keep f10 fun i hi e => by have := s1 _ e; omega
  have oA := oA.keep f10 fun i hi e => by have := s1 _ e; have := nA i hi; omega
  haveI : HGet _ g3.n _ := ⟨gA3⟩
  refine stp ?_
  refine O.call' (OverBlockF_ok N3.hd N3.hash lv3 ll3 N3.sv N3.sl (fun i h1 h2 => N3.ne i h2 h1)) (fun r g11 hr => ?_)
  have f11 := hr
  have n11 := f11.n
  have s3 : ∀ j, ownedBy (.slice av3 y3.c.votes.length cv3) j ∨ ownedBy (.slice al3 y3.vals.length cl3) j → k2.n + 1 ≤ j ∧ j < g3.n := fun j hj => hj.elim (fun e => ⟨N3.nv j e, aw3 e⟩) (fun e => ⟨N3.nl j e, am3 e⟩)
  have oA := oA.keep f11 fun i hi e => by have := s3 _ e; have := nA i hi; omega
  refine stp ?_
  refine O.call' (OverKept_ok oA (by rw [List.length_map]; omega)) (fun r g12 hr => ?_)
  have f12 := hr
  have n12 := f12.n
  refine stp ?_
  have FE : Fr (fun j => h5z.n ≤ j) h5z g12 := (((FF.mono fun _ _ e => e.elim).trans f10 fun j _ e => by have := s1 j e; omega).trans f11 fun j _ e => by have := s3 j e; omega).trans f12 fun j _ e => by have := nA j e; omega
  exact loop1a 9 (l.length - (i + 1)) (by omega) ⟨i + 1, c2, S2, D2, vB2, _, by omega, rfl, rfl, hB5.keep FE, F5.trans FE fun j hj e => by omega⟩
end Go.Proofs.Ytmhnddkpiefkhaa.A

namespace Go.Proofs.Ytmhnddkpiefkhaa.A
open Go Go.Vm
set_option maxRecDepth 100000
set_option linter.unusedVariables false
theorem fits_actsV {h : Heap} {t te : TypeId} {v : Value} (ht : Try.prog.underlying t = some (.slice te)) (f0 : fieldAt Try.prog te 0 = some (0, 3)) (f1 : fieldAt Try.prog te 1 = some (1, 3)) (f2 : fieldAt Try.prog te 2 = some (2, 4)) (f3 : fieldAt Try.prog te 3 = some (3, 36)) (ui : Try.prog.underlying 3 = some (.int .i64)) (ci : Try.prog.cellsOf 3 = 1) (ub : Try.prog.underlying 4 = some .bool) (cB : Try.prog.cellsOf 4 = 1) (cb : Try.prog.cellsOf 36 = 166) (ce : Try.prog.cellsOf te = 169) (hv : FitsV Try.prog h 8 t v) :
    ∃ l : List AC, Rd h 169 v (acells l) l.length ∧ ∀ a ∈ l, BkRd h a.b a.sv a.sl := by
  unfold FitsV at hv
  rw [ht] at hv
  obtain ⟨v', l, e, h1, h2⟩ := fits_acts (n := 0) ht f0 f1 f2 f3 ui ci ub cB cb ce hv
  injection e with e _
  subst e
  exact ⟨l, h1, h2⟩
theorem StoreActs_run (h : Heap) (vs : List Value) (hf : FitsAll Try.prog h 8 [3, 49] vs) : Runs Try.prog T0 (.fn fn_ztQ) vs h (fun r _ => r = .bool true) (fun _ _ => False) := by
  obtain ⟨v1, _, rfl, h1, hf⟩ := hf.cons
  obtain ⟨v2, _, rfl, h2, hf⟩ := hf.cons
  obtain rfl := hf.nil
  obtain ⟨n, rfl, _⟩ := FitsV.int (k := .i64) h1 (by kernel_rfl)
  obtain ⟨l, hl, hl2⟩ := fits_actsV (te := 53) (by kernel_rfl) (by kernel_rfl) (by kernel_rfl) (by kernel_rfl) (by kernel_rfl) (by kernel_rfl) (by kernel_rfl) (by kernel_rfl) (by kernel_rfl) (by kernel_rfl) (by kernel_rfl) h2
  exact StoreActs_true hl hl2
end Go.Proofs.Ytmhnddkpiefkhaa.A

namespace Go.Proofs.Ytmhnddkpiefkhaa.A
open Go Go.Vm
set_option maxRecDepth 100000
theorem ran_15 : allTrue (xcall Try.prog R.tab 1000 60 (.fn 15) [] Heap.init) = true := by kernel_rfl
theorem has_15 : (tableOf Try.prog 15).isSome = true := by kernel_rfl
theorem known : KnownAll Try.prog prims := ⟨⟨Option.isSome_iff_exists.1 has_15, fun w => known_calls (Checked.mixed Try.checked) R.tab_ok ran_15 w⟩, trivial⟩
theorem T0_ok : TableOK Try.prog T0 := withKept_ok (withTrue_ok known) fun k hk => by simp at hk
end Go.Proofs.Ytmhnddkpiefkhaa.A
