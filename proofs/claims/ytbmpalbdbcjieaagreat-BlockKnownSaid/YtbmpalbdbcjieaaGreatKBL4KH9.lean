/- Contracts of BLAKE2s, 4: a state made, bytes written, the hash. -/
import Derived.Test.YtbmpalbdbcjieaaGreatKBLcKH9
import Derived.Test.YtbmpalbdbcjieaaGreatVK
namespace Go.Proofs.YtbmpalbdbcjieaaGreat.K
open Go Go.Vm
set_option maxRecDepth 10000
set_option linter.unusedVariables false

theorem eight {l : List UInt32} (h : l.length = 8) : ∃ a b c d e f g i, l = [a, b, c, d, e, f, g, i] := by
  match l, h with
  | [a, b, c, d, e, f, g, i], _ => exact ⟨a, b, c, d, e, f, g, i, rfl⟩

def h0S : List UInt32 := [1795745351, 3144134277, 1013904242, 2773480762, 1359893119, 2600822924, 528734635, 1541459225]
/-- the words behind so many blocks -/
def stepsS (l : List UInt8) : Nat → List UInt32
  | 0 => h0S
  | t + 1 => blockS (stepsS l t) ((l.drop (64 * t)).take 64) (64 * (t + 1)) false
theorem outS_len (h v : List UInt32) : (outS h v).length = 8 := by simp [outS]
theorem blockS_len (h : List UInt32) (b : List UInt8) (n : Nat) (x : Bool) : (blockS h b n x).length = 8 := outS_len _ _
theorem stepsS_len (l : List UInt8) : ∀ t, (stepsS l t).length = 8
  | 0 => rfl
  | t + 1 => blockS_len _ _ _ _
def outB (h : List UInt32) (i : Nat) : UInt8 := (h.getD (i / 4) 0 >>> UInt32.ofNat (8 * (i % 4))).toUInt8
def bytes32 (h : List UInt32) : List UInt8 := (List.range 32).map (outB h)
def full (l : List UInt8) : Nat := (l.length - 1) / 64
/-- the hash of bytes -/
def sumS (l : List UInt8) : List UInt8 :=
  bytes32 (blockS (stepsS l (full l)) (l.drop (64 * full l) ++ List.replicate (64 - (l.length - 64 * full l)) 0) l.length true)

/-- a state: its counter, its words, what is no block yet -/
def StAt (h : Heap) (p c n : Nat) (hs : List UInt32) (rest : Value) : Prop :=
  h.get p = .cells (ptr c 0 :: (wcells hs ++ [rest])) 0 ∧ h.get c = .cells [.int .i64 (n : Nat)] 0 ∧ hs.length = 8 ∧ p < h.n ∧ c < h.n ∧ p ≠ c
theorem StAt.keep {S : Nat → Prop} {h h' : Heap} {p c n : Nat} {hs : List UInt32} {rest : Value} (hs' : StAt h p c n hs rest) (hf : Fr S h h') (h1 : ¬ S p) (h2 : ¬ S c) : StAt h' p c n hs rest :=
  ⟨by rw [hf.get _ hs'.2.2.2.1 h1, hs'.1], by rw [hf.get _ hs'.2.2.2.2.1 h2, hs'.2.1], hs'.2.2.1, hf.lt hs'.2.2.2.1, hf.lt hs'.2.2.2.2.1, hs'.2.2.2.2.2⟩

theorem New_ok {h : Heap} : Runs Tryz.prog T0 (.fn fn_blake_New) [] h (fun r h' => ∃ p c, r = ptr p 0 ∧ StAt h' p c 0 h0S (.slice none 0 0) ∧ h.n ≤ p ∧ h.n ≤ c ∧ Fr (fun _ => False) h h') (fun _ _ => False) := by
  refine blake_New_runs (v := undef) ?_
  refine stp ?_
  refine O.call' begin_ok (fun r h1 hr => ?_)
  obtain ⟨rfl, hf1⟩ := hr
  refine stp ?_
  refine O.how XOp.xorI ?_
  rw [show (IntKind.u32.wrap ((BitVec.ofInt IntKind.u32.bits 1779033703 ^^^ BitVec.ofInt IntKind.u32.bits 16842784).toNat : Nat)) = 1795745351 from by decide]
  refine stp ?_
  have hn1 := hf1.n
  refine ⟨_, _, rfl, ⟨by rw [Heap.get_push, if_pos rfl]; rfl, by rw [Heap.get_push, if_neg (by simp), Heap.get_push, if_pos rfl]; rfl, rfl, by simp, by simp <;> omega, by simp⟩, by simp <;> omega, by simp <;> omega, hf1.push.push.push⟩

theorem none_okB {h : Heap} {p c n : Nat} {hs : List UInt32} {rest : Value} (hst : StAt h p c n hs rest) : Runs Tryz.prog T0 (.fn fn_blake_State_none) [ptr p 0] h (fun r h' => r = .bool false ∧ h' = h) (fun _ _ => False) := by
  obtain ⟨g1, g2, hl, hp, hc, hne⟩ := hst
  haveI : HGet h p _ := ⟨g1⟩
  refine blake_State_none_runs ?_
  refine stp ?_
  exact ⟨rfl, rfl⟩
theorem take_okB {h : Heap} {c n : Nat} (hg : h.get c = .cells [.int .i64 (n : Nat)] 0) (hn : n < 1048576) : Runs Tryz.prog T0 (.fn fn_blake_counter_take) [ptr c 0, .int .i64 64] h (fun r h' => h' = h.set c (.cells [.int .i64 ((n + 64 : Nat) : Int)] 0)) (fun _ _ => False) := by
  haveI : HGet h c _ := ⟨hg⟩
  refine blake_counter_take_runs ?_
  refine stp ?_
  rw [show ((n : Int) + 64) = ((n + 64 : Nat) : Int) from by omega]
theorem clen_ok {h : Heap} {c n : Nat} (hg : h.get c = .cells [.int .i64 (n : Nat)] 0) : Runs Tryz.prog T0 (.fn fn_blake_counter_Len) [ptr c 0] h (fun r h' => r = .int .i64 (n : Nat) ∧ h' = h) (fun _ _ => False) := by
  haveI : HGet h c _ := ⟨hg⟩
  refine blake_counter_Len_runs ?_
  refine stp ?_
  exact ⟨rfl, rfl⟩
theorem Len_okB {h : Heap} {p c n m cap : Nat} {a : Option Addr} {hs : List UInt32} (hst : StAt h p c n hs (.slice a m cap)) (hn : n < 1048576) (hm : m < 1048576) :
    Runs Tryz.prog T0 (.fn fn_blake_State_Len) [ptr p 0] h (fun r h' => r = .int .i64 ((n + m : Nat) : Int) ∧ h' = h) (fun _ _ => False) := by
  have hst' := hst
  obtain ⟨g1, g2, hl, hp, hc, hne⟩ := hst
  obtain ⟨a0, a1, a2, a3, a4, a5, a6, a7, rfl⟩ := eight hl
  haveI : HGet h p (.cells [ptr c 0, .int .u32 (a0.toNat : Nat), .int .u32 (a1.toNat : Nat), .int .u32 (a2.toNat : Nat), .int .u32 (a3.toNat : Nat), .int .u32 (a4.toNat : Nat), .int .u32 (a5.toNat : Nat), .int .u32 (a6.toNat : Nat), .int .u32 (a7.toNat : Nat), .slice a m cap] 0) := ⟨g1⟩
  refine blake_State_Len_runs ?_
  refine stp ?_
  refine O.call' (none_okB hst') (fun r h1 hr => ?_)
  obtain ⟨rfl, rfl⟩ := hr
  refine stp ?_
  refine D.callX (clen_ok g2) (fun r h2 hr => ?_) (fun r h2 hr => ?_) (fun _ _ hx => hx.elim)
  · obtain ⟨rfl, rfl⟩ := hr
    exact StabL.ok
  obtain ⟨rfl, rfl⟩ := hr
  refine stp ?_
  exact ⟨rfl, rfl⟩

theorem own_sl {h : Heap} {v : Value} {l : List UInt8} (ho : Own h 1 v (bcells l) l.length) (hl : 0 < l.length) : ∃ q, Sl h v q l ∧ ownedBy v q := by
  generalize hn : l.length = n at *
  generalize hc : bcells l = c at *
  cases ho with
  | none => omega
  | lit _ _ => omega
  | grown hq hn0 hle hl1 hl2 hg =>
    rename_i q k cap j
    subst hn
    subst hc
    exact ⟨q, ⟨0, some k, cap, _, 1, rfl, hle, hq, hg, fun _ => rfl, by
      rw [cellsAt_of (by rw [hg]; rfl) (by rw [List.length_append]; omega), List.drop_zero, List.take_append_of_le_length (by omega), List.take_of_length_le (by omega)]⟩, rfl⟩

theorem Sl.rd {h : Heap} {v : Value} {q : Nat} {l : List UInt8} (hs : Sl h v q l) : Rd h 1 v (bcells l) l.length := by
  obtain ⟨o, sp, cap, cs, es, rfl, h2, h3, h4, h5, h6⟩ := hs.ex
  exact Rd.mk h3 (by rw [Nat.mul_one]; exact h6)

set_option maxHeartbeats 1000000 in
theorem Write_ok {h : Heap} {p c : Nat} {v : Value} {l : List UInt8} (hst : StAt h p c 0 h0S (.slice none 0 0)) (hv : Rd h 1 v (bcells l) l.length) (hl : 0 < l.length) (hsm : l.length < 1048576) :
    Runs Tryz.prog T0 (.fn fn_blake_State_Write) [ptr p 0, v] h (fun r h' => ∃ q rest, StAt h' p c (64 * full l) (stepsS l (full l)) rest ∧ Sl h' rest q (l.drop (64 * full l)) ∧ h.n ≤ q ∧ Fr (fun i => i = p ∨ i = c) h h') (fun _ _ => False) := by
  have hst' := hst
  obtain ⟨g1, g2, hl0, hp, hc, hne⟩ := hst
  haveI : HGet h p (.cells [ptr c 0, .int .u32 ((1795745351 : UInt32).toNat : Nat), .int .u32 ((3144134277 : UInt32).toNat : Nat), .int .u32 ((1013904242 : UInt32).toNat : Nat), .int .u32 ((2773480762 : UInt32).toNat : Nat), .int .u32 ((1359893119 : UInt32).toNat : Nat), .int .u32 ((2600822924 : UInt32).toNat : Nat), .int .u32 ((528734635 : UInt32).toNat : Nat), .int .u32 ((1541459225 : UInt32).toNat : Nat), .slice none 0 0] 0) := ⟨g1⟩
  refine blake_State_Write_runs ?_
  refine stp ?_
  refine O.call' (none_okB hst') (fun r h1 hr => ?_)
  obtain ⟨rfl, rfl⟩ := hr
  refine stp ?_
  refine O.append .none (hv.new _) (by rw [bcells_len]; omega) (bcells_one l) (by omega) (by omega) (by omega) (fun v' h2 ho2 hf2 hnew => ?_)
  rw [Nat.zero_add, List.nil_append] at ho2
  obtain ⟨q, hsl, hqo⟩ := own_sl ho2 hl
  have hq : h1.n ≤ q := (hnew q hqo).elim (fun h => h.elim) id
  have hn2 := hf2.n
  haveI : HGet h2 p _ := hf2.keep this hp id
  have hsl1 := hsl
  obtain ⟨o, sp, cap, cs, es, rfl, _, _, _, _, _⟩ := hsl1.ex
  have g2c : h2.get c = .cells [.int .i64 0] 0 := by rw [hf2.get _ hc id, g2]; rfl
  refine stp ?_
  have hF : Fr (fun i => i = p ∨ i = c) h1 h2 := hf2.mono fun _ _ h => h.elim
  refine blake_State_Write_l0_rule (v := undef) (fun m h' => ∃ t rest, 64 * t < l.length ∧ m = l.length - t ∧ StAt h' p c (64 * t) (stepsS l t) rest ∧ Sl h' rest q (l.drop (64 * t)) ∧ Fr (fun i => i = p ∨ i = c) h1 h') ?_ l.length ?_
  rotate_left
  · exact ⟨0, _, by omega, rfl, ⟨by rw [Heap.get_set, if_pos rfl]; rfl, by rw [Heap.get_set, if_neg (by omega), g2c]; rfl, rfl, by simp; omega, by simp; omega, hne⟩, (hsl.keep (S := fun i => i = p) (Fr.refl.set fun _ => rfl) (by omega)), hF.set fun _ => .inl rfl⟩
  rintro m h' x16 x17 x18 x19 x20 x21 x22 x23 x24 x25 x26 x27 x28 x29 x30 x31 x32 x33 x34 x35 x36 x37 x38 x39 x40 x41 x42 x43 x44 x45 x46 x47 x48 x49 x50 ⟨t, rest, ht, rfl, hst, hsl, hf⟩
  have hst0 := hst
  have hsl0 := hsl
  obtain ⟨g1, g2, hl0, hp, hc, hne⟩ := hst
  obtain ⟨o, sp, cap, cs, es, rfl, hs2, hs3, hs4, hs5, hs6⟩ := hsl.ex
  obtain ⟨a0, a1, a2, a3, a4, a5, a6, a7, e8⟩ := eight hl0
  have hdl : (l.drop (64 * t)).length = l.length - 64 * t := by rw [List.length_drop]
  haveI : HGet h' p (.cells [ptr c 0, .int .u32 (a0.toNat : Nat), .int .u32 (a1.toNat : Nat), .int .u32 (a2.toNat : Nat), .int .u32 (a3.toNat : Nat), .int .u32 (a4.toNat : Nat), .int .u32 (a5.toNat : Nat), .int .u32 (a6.toNat : Nat), .int .u32 (a7.toNat : Nat), .slice (some ⟨q, o, sp⟩) (l.drop (64 * t)).length cap] 0) := ⟨by rw [g1, e8]; rfl⟩
  refine stp ?_
  refine C.if (fun hgt => ?_) (fun hle => ?_)
  · refine stp ?_
    refine O.call' (take_okB g2 (by omega)) (fun r h3 hr => ?_)
    subst hr
    generalize hh3 : h'.set c _ = h3
    have g3p : h3.get p = .cells ([ptr c 0] ++ (wcells (stepsS l t) ++ [.slice (some ⟨q, o, sp⟩) (l.drop (64 * t)).length cap])) 0 := by rw [← hh3, Heap.get_set, if_neg hne, g1]; rfl
    have g3c : h3.get c = .cells [.int .i64 ((64 * t + 64 : Nat) : Int)] 0 := by rw [← hh3, Heap.get_set, if_pos rfl]
    have hqn := hsl.lt
    have f3 : Fr (fun i => i = p ∨ i = c) h' h3 := by rw [← hh3]; exact Fr.refl.set fun _ => .inr rfl
    have hsl3 := hsl.keep (S := fun i => i = c) (h' := h3) (by rw [← hh3]; exact Fr.refl.set fun _ => rfl) (by omega)
    have hn3 : h3.n = h'.n := by rw [← hh3]; simp
    clear hh3
    haveI : HGet h3 c _ := ⟨g3c⟩
    haveI : HGet h3 p (.cells [ptr c 0, .int .u32 (a0.toNat : Nat), .int .u32 (a1.toNat : Nat), .int .u32 (a2.toNat : Nat), .int .u32 (a3.toNat : Nat), .int .u32 (a4.toNat : Nat), .int .u32 (a5.toNat : Nat), .int .u32 (a6.toNat : Nat), .int .u32 (a7.toNat : Nat), .slice (some ⟨q, o, sp⟩) (l.drop (64 * t)).length cap] 0) := ⟨by rw [g3p, e8]; rfl⟩
    obtain ⟨v1, hs1, hop⟩ := hsl3.part (i := 0) (j := 64) (by omega) (by omega)
    refine stp ?_
    refine D.how (hop (fun c hc => bnd_at (K := .i64) rfl rfl (by omega)) rfl) rfl ?_
    refine stp ?_
    refine D.callX (block_ok (p := p) (pre := [ptr c 0]) g3p (by omega) hl0 hs1 (by rw [List.length_take, List.length_drop]; omega) (by omega)) (fun r h4 hr => rfl) (fun r h4 hr => ?_) (fun _ _ hx => hx.elim)
    obtain ⟨g4p, f4⟩ := hr
    rw [show blockS (stepsS l t) (((l.drop (64 * t)).drop 0).take (64 - 0)) (64 * t + 64) false = stepsS l (t + 1) from rfl] at g4p
    have hl4 := stepsS_len l (t + 1)
    obtain ⟨b0, b1, b2, b3, b4, b5, b6, b7, e9⟩ := eight hl4
    haveI : HGet h4 p (.cells [ptr c 0, .int .u32 (b0.toNat : Nat), .int .u32 (b1.toNat : Nat), .int .u32 (b2.toNat : Nat), .int .u32 (b3.toNat : Nat), .int .u32 (b4.toNat : Nat), .int .u32 (b5.toNat : Nat), .int .u32 (b6.toNat : Nat), .int .u32 (b7.toNat : Nat), .slice (some ⟨q, o, sp⟩) (l.drop (64 * t)).length cap] 0) := ⟨by rw [g4p, e9]; rfl⟩
    have hsl4 := hsl3.keep f4 (by omega)
    have hn4 := f4.n
    obtain ⟨v2, hs2', hop2⟩ := hsl4.part (i := 64) (j := (l.drop (64 * t)).length) (by omega) (by omega)
    have hd2 : ((l.drop (64 * t)).drop 64).take ((l.drop (64 * t)).length - 64) = l.drop (64 * (t + 1)) := by
      rw [List.take_of_length_le (by rw [List.length_drop]; omega), List.drop_drop]; congr 1
    rw [hd2] at hs2'
    have g4c : h4.get c = .cells [.int .i64 ((64 * t + 64 : Nat) : Int)] 0 := by rw [f4.get _ (by omega) (by omega), g3c]
    have hsl5 := hs2'
    obtain ⟨o2, sp2, cap2, cs2, es2, rfl, _, _, _, _, _⟩ := hsl5.ex
    refine stp ?_
    refine O.how (hop2 (fun c hc => rfl) (bnd_at (K := .i64) rfl rfl (by omega))) ?_
    refine stp ?_
    refine blake_State_Write_l0_again (v := undef) (l.length - (t + 1)) (by omega) ⟨t + 1, _, by omega, rfl, ⟨by rw [Heap.get_set, if_pos rfl, e9]; rfl, by rw [Heap.get_set, if_neg (by omega), g4c]; rfl, hl4, by simp; omega, by simp; omega, hne⟩, hs2'.keep (S := fun i => i = p) (Fr.refl.set fun _ => rfl) (by omega), (hf.trans' (f3.trans' (f4.mono fun _ _ h => .inl h))).set fun _ => .inl rfl⟩
  · refine stp ?_
    have hT : full l = t := by unfold full; omega
    rw [hT]
    exact ⟨q, _, hst0, hsl0, hq, hf⟩

/-! the hash -/
theorem u8_of32 (w : UInt32) : IntKind.u8.wrap (w.toNat : Int) = ((w.toUInt8).toNat : Nat) := by
  rw [wrap_u8, UInt32.toNat_toUInt8]; omega
theorem bcells_set : ∀ {l : List UInt8} {i : Nat} {b : UInt8}, i < l.length → over (bcells l) i [.int .u8 (b.toNat : Nat)] = bcells (l.set i b)
  | [], i, b, h => by simp at h
  | v :: l, 0, b, _ => by
    show _ :: over (bcells l) 0 [] = _
    rw [over_nil]; rfl
  | v :: l, i + 1, b, h => by
    show _ :: over (bcells l) i _ = _
    rw [bcells_set (by simpa using h)]; rfl
theorem put_b {h : Heap} {q es i : Nat} {l : List UInt8} {b : UInt8} (hg : h.get q = .cells (bcells l) es) (hi : i < l.length) : Put h q i [.int .u8 (b.toNat : Nat)] (h.set q (.cells (bcells (l.set i b)) es)) := ⟨by
  simp only [putAt, hg]
  rw [if_pos ⟨by rw [bcells_len]; simp; omega, rfl⟩, bcells_set hi]⟩
theorem getD_setB {l : List UInt8} {i j : Nat} {w : UInt8} (hi : i < l.length) : (l.set i w).getD j 0 = if j = i then w else l.getD j 0 := by
  simp only [List.getD_eq_getElem?_getD, List.getElem?_set]
  by_cases h : i = j
  · subst h; simp [hi]
  · rw [if_neg h, if_neg (Ne.symm h)]
theorem bytes_ext {l m : List UInt8} (h : l.length = m.length) (hg : ∀ j, j < l.length → l.getD j 0 = m.getD j 0) : l = m := by
  apply List.ext_getElem h
  intro i h1 h2
  have := hg i h1
  simpa [List.getD_eq_getElem?_getD, List.getElem?_eq_getElem h1, List.getElem?_eq_getElem h2] using this
theorem repeat_zero : ∀ n : Nat, repeatL [.int .u8 0] n = bcells (List.replicate n 0)
  | 0 => rfl
  | n + 1 => by
    show _ :: repeatL _ n = _
    rw [repeat_zero n]; rfl

set_option maxHeartbeats 1000000 in
theorem StSum_ok {h : Heap} {p c n q : Nat} {hs : List UInt32} {v : Value} {d : List UInt8} (hst : StAt h p c n hs v) (hv : Sl h v q d) (hd : 0 < d.length ∧ d.length ≤ 64) (hn : n + d.length < 1048576) :
    Runs Tryz.prog T0 (.fn fn_blake_State_Sum) [ptr p 0] h (fun r h' => r = .tuple ⟨[.agg ⟨bcells (bytes32 (blockS hs (d ++ List.replicate (64 - d.length) 0) (n + d.length) true))⟩, .int .i64 0]⟩ ∧ Fr (fun _ => False) h h') (fun _ _ => False) := by
  obtain ⟨o, sp, cap, cs, es, rfl, hs2, hs3, hs4, hs5, hs6⟩ := hv.ex
  have hst' := hst
  obtain ⟨g1, g2, hl0, hp, hc, hne⟩ := hst
  obtain ⟨a0, a1, a2, a3, a4, a5, a6, a7, e8⟩ := eight hl0
  have i1 : HGet h p (.cells [ptr c 0, .int .u32 (a0.toNat : Nat), .int .u32 (a1.toNat : Nat), .int .u32 (a2.toNat : Nat), .int .u32 (a3.toNat : Nat), .int .u32 (a4.toNat : Nat), .int .u32 (a5.toNat : Nat), .int .u32 (a6.toNat : Nat), .int .u32 (a7.toNat : Nat), .slice (some ⟨q, o, sp⟩) d.length cap] 0) := ⟨by rw [g1, e8]; rfl⟩
  haveI := i1
  haveI : BLt p h := ⟨hp⟩
  refine blake_State_Sum_runs ?_
  refine stp ?_
  refine O.call' (none_okB (hst'.keep (S := fun _ => False) Fr.refl.push id id)) (fun r h1 hr => ?_)
  obtain ⟨rfl, rfl⟩ := hr
  refine stp ?_
  generalize hH : (h.push (.cells z32 0)).push (.cells _ 0) = H
  have hHn : H.n = h.n + 2 := by rw [← hH]; rfl
  have gO : H.get h.n = .cells (bcells (List.replicate 32 0)) 0 := by rw [← hH, Heap.get_push, if_neg (by simp), Heap.get_push, if_pos rfl]; rfl
  have gW : H.get (h.n + 1) = .cells ([] ++ (wcells hs ++ [])) 0 := by rw [← hH, Heap.get_push, if_pos (by simp), e8]; rfl
  have hF : Fr (fun _ => False) h H := by rw [← hH]; exact Fr.refl.push.push
  clear hH
  haveI i2 := hF.keep i1 hp id
  have hvH := hv.keep hF id
  have hstH := hst'.keep hF id id
  simp only [Heap.n_push]
  refine D.callX (Clone_ok hvH.rd (by omega)) (fun r h2 hr => ?_) (fun r h2 hr => ?_) (fun _ _ hx => hx.elim)
  · obtain ⟨hr1, hr2, hr3⟩ := hr
    haveI := hr2.keep i2 (hF.lt hp) id
    exact stab_cons (XOp.subI (by omega)) StabL.ok
  obtain ⟨ho2, hf2, hnew2⟩ := hr
  have hn2 := hf2.n
  have hm : ((64 : Int) - (d.length : Int)).toNat = 64 - d.length := by omega
  refine D.append (m := 64 - d.length) (d := bcells (List.replicate (64 - d.length) 0)) ho2 ?_ (by rw [bcells_len]; simp) (bcells_one _) (by omega) (by omega) (by omega) (fun v' h3 ho3 hf3 hnew3 => ?_)
  · simp only [newCells]
    rw [if_pos (by simp; omega), hm, repeat_zero]
  rw [← bcells_append] at ho3
  have hlen : (d ++ List.replicate (64 - d.length) 0).length = 64 := by simp; omega
  rw [show d.length + (64 - d.length) = (d ++ List.replicate (64 - d.length) 0).length from by rw [hlen]; omega] at ho3
  obtain ⟨q2, hsl2, hqo2⟩ := own_sl ho3 (by omega)
  have hq2 : H.n ≤ q2 := (hnew3 q2 hqo2).elim (hnew2 q2) (fun h => by omega)
  have hF3 : Fr (fun _ => False) H h3 := Fr.trans (S := fun _ => False) hf2 hf3 fun i hi h => by have := hnew2 i h; omega
  have hn3 := hF3.n
  refine stp ?_
  refine O.call' (Len_okB (hstH.keep hF3 id id) (by omega) (by omega)) (fun r h4 hr => ?_)
  obtain ⟨rfl, rfl⟩ := hr
  refine stp ?_
  refine O.call' (block_ok (many := n + d.length) (last := true) (hs := hs) (p := h.n + 1) (pre := []) (post := []) (by rw [hF3.get _ (by omega) id, gW]) (by omega) hl0 hsl2 hlen (by omega)) (fun r h5 hr => ?_)
  obtain ⟨g5w, f5⟩ := hr
  have hn5 := f5.n
  have gO5 : h5.get h.n = .cells (bcells (List.replicate 32 0)) 0 := by rw [f5.get _ (by omega) (by omega), hF3.get _ (by omega) id, gO]
  have hF5 : Fr (fun _ => False) h h5 := Fr.trans (S := fun _ => False) hF (Fr.trans (S := fun i => i = h.n + 1) (hF3.mono fun _ _ h => h.elim) f5 fun _ _ h => h) fun i hi h => by omega
  rw [List.nil_append, List.append_nil] at g5w
  have hBl := blockS_len hs (d ++ List.replicate (64 - d.length) 0) (n + d.length) true
  generalize blockS hs (d ++ List.replicate (64 - d.length) 0) (n + d.length) true = BS at *
  refine stp ?_
  refine blake_State_Sum_l0_rule (fun m v30 h' => ∃ k : Nat, k ≤ 32 ∧ m = 32 - k ∧ v30 = .int .i64 k ∧ (∃ bs : List UInt8, h'.get h.n = .cells (bcells bs) 0 ∧ bs.length = 32 ∧ ∀ j, j < 32 → bs.getD j 0 = if j < k then outB BS j else 0) ∧ Fr (fun i => i = h.n) h5 h') ?_ 32 ⟨0, by omega, rfl, rfl, ⟨_, gO5, by simp, fun j hj => by rw [if_neg (by omega)]; simp only [List.getD_eq_getElem?_getD, List.getElem?_replicate, if_pos hj]; rfl⟩, Fr.refl⟩
  rintro m v30 h' x6 x31 x32 x33 x34 x35 x36 x37 x38 x39 x40 x41 x42 x43 x44 ⟨k, hk, rfl, rfl, ⟨bs, gb, hbl, hb⟩, hf⟩
  refine stp ?_
  refine C.if (fun hlt => ?_) (fun hge => ?_)
  · have hk : k < 32 := by omega
    haveI : HGet h' (h.n + 1) (.cells (wcells BS) 0) := ⟨by rw [hf.get _ (by omega) (by omega), g5w]⟩
    haveI : WIx BS (k / 4) := ⟨by omega⟩
    haveI := fun b => put_b (b := b) gb (i := k) (by omega)
    refine stp ?_
    refine O.how (XOp.quoI (by decide)) ?_
    rw [show IntKind.i64.wrap ((k : Int).tdiv 4) = ((k / 4 : Nat) : Int) from by rw [Int.tdiv_eq_ediv_of_nonneg (by omega), mul_in (by omega)]; omega]
    refine stp ?_
    refine O.how (XOp.remI (by decide)) ?_
    rw [show (k : Int).tmod 4 = ((k % 4 : Nat) : Int) from by rw [Int.tmod_eq_emod_of_nonneg (by omega)]; omega]
    refine stp ?_
    refine O.how (XOp.shrW (8 * (k % 4)) (by rw [mul_in (by omega)]; omega) (by omega)) ?_
    refine stp ?_
    rw [u8_of32]
    refine stp ?_
    refine blake_State_Sum_l0_again (32 - (k + 1)) (by omega) ⟨k + 1, by omega, rfl, rfl, ⟨_, by rw [Heap.get_set, if_pos rfl], by simpa using hbl, fun j hj => ?_⟩, hf.set fun _ => rfl⟩
    rw [getD_setB (by omega)]
    by_cases e : j = k
    · rw [if_pos e, e, if_pos (by omega)]; rfl
    · rw [if_neg e, hb j hj]
      by_cases e2 : j < k
      · rw [if_pos e2, if_pos (by omega)]
      · rw [if_neg e2, if_neg (by omega)]
  · obtain rfl : k = 32 := by omega
    have hout : bs = bytes32 BS := bytes_ext (by rw [hbl]; simp [bytes32]) fun j hj => by
      rw [hb j (by omega), if_pos (by omega)]
      simp [bytes32, List.getD_eq_getElem?_getD, show j < 32 from by omega]
    subst hout
    haveI : HGet h' h.n _ := ⟨gb⟩
    haveI : L32 (bcells (bytes32 BS)) := ⟨by rw [bcells_len, hbl]⟩
    refine stp ?_
    refine ⟨rfl, Fr.set (Fr.trans (S := fun _ => False) (S' := fun i => i = h.n) hF5 hf fun i hi h => by omega) fun h => by omega⟩

theorem sumS_len (l : List UInt8) : (sumS l).length = 32 := by simp [sumS, bytes32]
/-- blake.Sum -/
theorem Sum_ok {h : Heap} {v : Value} {l : List UInt8} (hv : Rd h 1 v (bcells l) l.length) (hl : 0 < l.length) (hsm : l.length < 1048576) :
    Runs Tryz.prog T0 (.fn fn_blake_Sum) [v] h (fun r h' => r = .agg ⟨bcells (sumS l)⟩ ∧ Fr (fun _ => False) h h') (fun _ _ => False) := by
  refine blake_Sum_runs ?_
  refine stp ?_
  refine O.call' New_ok (fun r h1 hr => ?_)
  obtain ⟨p, c, rfl, hst, hp, hc, hf1⟩ := hr
  have hn1 := hf1.n
  simp only [Heap.n_push] at hp hc hn1
  have hF1 : Fr (fun _ => False) h h1 := Fr.trans (S := fun _ => False) Fr.refl.push hf1 fun _ _ h => h
  have gO1 : HGet h1 h.n (.cells z32 0) := hf1.keep (b := h.n) HGet.new (by simp) id
  refine stp ?_
  refine O.call' (Write_ok hst (hv.keep hF1 fun _ _ => id) hl hsm) (fun r h2 hr => ?_)
  obtain ⟨q, rest, hst2, hsl2, hq, hf2⟩ := hr
  have hn2 := hf2.n
  have hF2 : Fr (fun _ => False) h h2 := Fr.trans (S := fun _ => False) hF1 hf2 fun i hi h => by omega
  have gO2 := hf2.keep (b := h.n) gO1 (by omega) (by omega)
  have hdl : (l.drop (64 * full l)).length = l.length - 64 * full l := by rw [List.length_drop]
  have hfl : 64 * full l < l.length ∧ l.length ≤ 64 * full l + 64 := by unfold full; omega
  refine stp ?_
  refine O.call' (StSum_ok hst2 hsl2 (by omega) (by omega)) (fun r h3 hr => ?_)
  obtain ⟨rfl, hf3⟩ := hr
  have hn3 := hf3.n
  haveI gO3 := hf3.keep (b := h.n) gO2 (by omega) id
  rw [hdl, show 64 * full l + (l.length - 64 * full l) = l.length from by omega]
  have hS : bytes32 (blockS (stepsS l (full l)) (l.drop (64 * full l) ++ List.replicate (64 - (l.length - 64 * full l)) 0) l.length true) = sumS l := rfl
  rw [hS]
  have hsl := sumS_len l
  haveI : L32 (bcells (sumS l)) := ⟨by rw [bcells_len, hsl]⟩
  haveI : BLt h.n h3 := ⟨by omega⟩
  refine stp ?_
  exact ⟨rfl, Fr.set (Fr.push (Fr.trans (S := fun _ => False) hF2 hf3 fun _ _ h => h)) fun h => by omega⟩
end Go.Proofs.YtbmpalbdbcjieaaGreat.K
