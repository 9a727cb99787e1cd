/- Contracts of functions, over the machine. -/
import Derived.Test.YtninaabbojcdpaaGreatQMsgBack4
import Derived.Test.YtninaabbojcdpaaGreatRows
noncomputable section
namespace Go.Proofs.YtninaabbojcdpaaGreat.A
open Go Go.Vm
set_option maxRecDepth 100000
set_option linter.unusedVariables false
theorem wf_u64 {x : Int} (h : (Lit.int .u64 x).wf = true) : 0 ≤ x ∧ x ≤ 18446744073709551615 := by
  simp [Lit.wf, IntKind.min, IntKind.max, IntKind.signed, IntKind.bits] at h
  omega
theorem votes_cells_fitS {h : Heap} {m : Nat} {te ti tu : TypeId} (f0 : fieldAt Tryz.prog te 0 = some (0, ti)) (f1 : fieldAt Tryz.prog te 1 = some (1, tu)) (ui : Tryz.prog.underlying ti = some (.int .i64)) (uu : Tryz.prog.underlying tu = some (.int .u64))
    (ce : Tryz.prog.cellsOf te = 2) (ci : Tryz.prog.cellsOf ti = 1) (cu : Tryz.prog.cellsOf tu = 1) : ∀ (len : Nat) (c : List Value), c.length = len * 2 → (∀ i, i < len → Fits Tryz.prog h (m + 2) te ((c.drop (i * 2)).take 2)) →
    ∃ l : List Vote, c = tcells l ∧ l.length = len ∧ ∀ v ∈ l, v.sig < 18446744073709551616
  | 0, c, hl, _ => ⟨[], by rw [tcells_nil]; simpa using hl, rfl, by simp⟩
  | len + 1, c, hl, hall => by
    have h0 := hall 0 (by omega)
    rw [Nat.zero_mul, List.drop_zero] at h0
    obtain ⟨a, g0, w0⟩ := (h0.field f0).int ui
    obtain ⟨p, g1, w1⟩ := (h0.field f1).int uu
    rw [ci] at g0
    rw [cu] at g1
    obtain ⟨l, e1, e2, e3⟩ := votes_cells_fitS f0 f1 ui uu ce ci cu len (c.drop 2) (by rw [List.length_drop]; omega) fun i hi => by
      have := hall (i + 1) (by omega)
      rw [List.drop_drop]
      rw [show (i + 1) * 2 = 2 + i * 2 from by omega] at this
      exact this
    have hp := wf_u64 w1
    refine ⟨⟨a, p.toNat⟩ :: l, ?_, by simp [e2], fun v hv => (List.mem_cons.1 hv).elim (fun e => by rw [e]; show p.toNat < _; omega) (e3 v)⟩
    rw [tcells_cons, ← e1]
    match c, hl with
    | [], hl => simp at hl
    | [u], hl => simp at hl; omega
    | u :: w :: c, hl =>
      have g0 : [u] = [Value.int .i64 a] := g0
      have g1 : [w] = [Value.int .u64 p] := g1
      have g0 : u = Value.int .i64 a := by injection g0
      have g1 : w = Value.int .u64 p := by injection g1
      rw [g0, g1]
      show _ = [Value.int .i64 a, Value.int .u64 ((p.toNat : Nat) : Int)] ++ c
      rw [show ((p.toNat : Nat) : Int) = p from by omega]
      rfl
theorem fits_votesS {h : Heap} {m : Nat} {t te ti tu : TypeId} {cs : List Value} (ht : Tryz.prog.underlying t = some (.slice te)) (f0 : fieldAt Tryz.prog te 0 = some (0, ti)) (f1 : fieldAt Tryz.prog te 1 = some (1, tu)) (ui : Tryz.prog.underlying ti = some (.int .i64)) (uu : Tryz.prog.underlying tu = some (.int .u64))
    (ce : Tryz.prog.cellsOf te = 2) (ci : Tryz.prog.cellsOf ti = 1) (cu : Tryz.prog.cellsOf tu = 1) (hv : Fits Tryz.prog h (m + 3) t cs) : ∃ (v : Value) (l : List Vote), cs = [v] ∧ Rd h 2 v (tcells l) l.length ∧ ∀ v ∈ l, v.sig < 18446744073709551616 := by
  unfold Fits at hv
  rw [ht] at hv
  rcases hv with hv | ⟨b, len, cap, c, hv, hb, hlc, hcap, hro, hl, hall⟩
  · exact ⟨_, [], hv, Rd.nil, by simp⟩
  · rw [ce] at hl hall
    obtain ⟨l, rfl, e2, e3⟩ := votes_cells_fitS f0 f1 ui uu ce ci cu len c hl hall
    refine ⟨_, l, hv, ⟨_, _, by rw [e2], tcells_len l, fun hn => ⟨b, 0, none, rfl, hb, ?_⟩⟩, e3⟩
    rw [cellsAt_of (c := tcells l) (by rw [hro (by omega)]; rfl) (by rw [tcells_len]; omega), List.drop_zero, List.take_of_length_le (by rw [tcells_len]; omega)]
theorem fits_vals1 {h : Heap} {m : Nat} {t te tk tb ti : TypeId} {cs : List Value} (ht : Tryz.prog.underlying t = some (.slice te)) (f0 : fieldAt Tryz.prog te 0 = some (0, tk)) (f1 : fieldAt Tryz.prog te 1 = some (4, ti)) (uk : Tryz.prog.underlying tk = some (.array 4 tb)) (ub : Tryz.prog.underlying tb = some (.int .u8)) (ui : Tryz.prog.underlying ti = some (.int .i64))
    (ce : Tryz.prog.cellsOf te = 5) (ck : Tryz.prog.cellsOf tk = 4) (cb : Tryz.prog.cellsOf tb = 1) (ci : Tryz.prog.cellsOf ti = 1) (hv : Fits Tryz.prog h (m + 4) t cs) : ∃ (v : Value) (l : List Val), cs = [v] ∧ Rd h 5 v (vcells l) l.length := by
  unfold Fits at hv
  rw [ht] at hv
  rcases hv with hv | ⟨b, len, cap, c, hv, hb, hlc, hcap, hro, hl, hall⟩
  · exact ⟨_, [], hv, Rd.nil⟩
  · rw [ce] at hl hall
    obtain ⟨l, rfl, e2, e3⟩ := vals_cells_fit f0 f1 uk ub ui ce ck cb ci len c hl hall
    refine ⟨_, l, hv, ⟨_, _, by rw [e2], vcells_len l, fun hn => ⟨b, 0, none, rfl, hb, ?_⟩⟩⟩
    rw [cellsAt_of (c := vcells l) (by rw [hro (by omega)]; rfl) (by rw [vcells_len]; omega), List.drop_zero, List.take_of_length_le (by rw [vcells_len]; omega)]
theorem fits_bkS {h : Heap} {cs : List Value} (hv : Fits Tryz.prog h 8 36 cs) : ∃ (x : Bk) (sv sl : Value), cs = x.cells sv sl ∧ BkRd h x sv sl ∧ ∀ v ∈ x.c.votes, v.sig < 18446744073709551616 := by
  have b0 : fieldAt Tryz.prog 36 0 = some (0, 30) := by kernel_rfl
  have b1 : fieldAt Tryz.prog 36 1 = some (131, 33) := by kernel_rfl
  have b2 : fieldAt Tryz.prog 36 2 = some (165, 34) := by kernel_rfl
  have m0 : fieldAt Tryz.prog 33 0 = some (0, 3) := by kernel_rfl
  have m1 : fieldAt Tryz.prog 33 1 = some (1, 28) := by kernel_rfl
  have m2 : fieldAt Tryz.prog 33 2 = some (33, 31) := by kernel_rfl
  have v0 : fieldAt Tryz.prog 134 0 = some (0, 3) := by kernel_rfl
  have v1 : fieldAt Tryz.prog 134 1 = some (1, 124) := by kernel_rfl
  have l0 : fieldAt Tryz.prog 132 0 = some (0, 130) := by kernel_rfl
  have l1 : fieldAt Tryz.prog 132 1 = some (4, 3) := by kernel_rfl
  have uv : Tryz.prog.underlying 31 = some (.slice 134) := by kernel_rfl
  have ul : Tryz.prog.underlying 34 = some (.slice 132) := by kernel_rfl
  have uk : Tryz.prog.underlying 130 = some (.array 4 5) := by kernel_rfl
  have uu : Tryz.prog.underlying 124 = some (.int .u64) := by kernel_rfl
  have g0 : fieldAt Tryz.prog 30 0 = some (0, 9) := by kernel_rfl
  have g1 : fieldAt Tryz.prog 30 1 = some (1, 3) := by kernel_rfl
  have g2 : fieldAt Tryz.prog 30 2 = some (2, 3) := by kernel_rfl
  have g3 : fieldAt Tryz.prog 30 3 = some (3, 28) := by kernel_rfl
  have g4 : fieldAt Tryz.prog 30 4 = some (35, 28) := by kernel_rfl
  have g5 : fieldAt Tryz.prog 30 5 = some (67, 28) := by kernel_rfl
  have g6 : fieldAt Tryz.prog 30 6 = some (99, 28) := by kernel_rfl
  have u1 : Tryz.prog.underlying 9 = some .string := by kernel_rfl
  have u2 : Tryz.prog.underlying 3 = some (.int .i64) := by kernel_rfl
  have u3 : Tryz.prog.underlying 28 = some (.array 32 5) := by kernel_rfl
  have u4 : Tryz.prog.underlying 5 = some (.int .u8) := by kernel_rfl
  have c1 : Tryz.prog.cellsOf 9 = 1 := by kernel_rfl
  have c2 : Tryz.prog.cellsOf 3 = 1 := by kernel_rfl
  have c3 : Tryz.prog.cellsOf 28 = 32 := by kernel_rfl
  have c4 : Tryz.prog.cellsOf 5 = 1 := by kernel_rfl
  have c5 : Tryz.prog.cellsOf 30 = 131 := by kernel_rfl
  have c6 : Tryz.prog.cellsOf 33 = 34 := by kernel_rfl
  have c7 : Tryz.prog.cellsOf 36 = 166 := by kernel_rfl
  have c8 : Tryz.prog.cellsOf 134 = 2 := by kernel_rfl
  have c9 : Tryz.prog.cellsOf 132 = 5 := by kernel_rfl
  have d1 : Tryz.prog.cellsOf 130 = 4 := by kernel_rfl
  have d2 : Tryz.prog.cellsOf 124 = 1 := by kernel_rfl
  have d3 : Tryz.prog.cellsOf 31 = 1 := by kernel_rfl
  have d4 : Tryz.prog.cellsOf 34 = 1 := by kernel_rfl
  have hlen := hv.len b0
  rw [c7] at hlen
  obtain ⟨x, hx, _, _, hh⟩ := fits_header (m := 4) g0 g1 g2 g3 g4 g5 g6 u1 u2 u3 u4 c1 c2 c3 c4 c5 (hv.field b0)
  rw [c5] at hh
  have hc := hv.field b1
  rw [c6] at hc
  obtain ⟨ht, k0, _⟩ := (hc.field m0).int u2
  obtain ⟨hs, k1, k1l⟩ := fits_flat32 (m := 4) u3 u4 c4 c3 (hc.field m1)
  obtain ⟨sv, vs, k2, k2r, k2s⟩ := fits_votesS (m := 3) uv v0 v1 u2 uu c8 c2 d2 (hc.field m2)
  obtain ⟨sl, ls, k3, k3r⟩ := fits_vals1 (m := 3) ul l0 l1 uk u4 u2 c9 d1 c4 c2 (hv.field b2)
  rw [c2] at k0
  rw [c3] at k1
  rw [d3] at k2
  rw [d4] at k3
  refine ⟨⟨x, ⟨ht, hs, vs⟩, ls⟩, sv, sl, ?_, ⟨hx, k1l, k2r, k3r⟩, k2s⟩
  have hcc : (cs.drop 131).take 34 = .int .i64 ht :: (bcells hs ++ [sv]) := by
    have hl2 : ((cs.drop 131).take 34).length = 34 := by rw [List.length_take, List.length_drop]; omega
    generalize (cs.drop 131).take 34 = c at *
    rw [← List.drop_zero (l := c), vsplit c 0 1, k0, vsplit c (0 + 1) 32, k1, vsplit c (0 + 1 + 32) 1, k2, show c.drop (0 + 1 + 32 + 1) = [] from List.drop_eq_nil_of_le (by omega), List.append_nil]
    rfl
  rw [← List.drop_zero (l := cs), vsplit cs 0 131, hh, vsplit cs (0 + 131) 34, hcc, vsplit cs (0 + 131 + 34) 1, k3, show cs.drop (0 + 131 + 34 + 1) = [] from List.drop_eq_nil_of_le (by omega), List.append_nil]
  simp only [Bk.cells, Hd.cells, List.cons_append, List.append_assoc, List.nil_append]
theorem MsgBack_run (h : Heap) (vs : List Value) (hf : FitsAll Tryz.prog h 8 [26, 3, 36, 3] vs) : Runs Tryz.prog T0 (.fn fn_zmbQ) vs h (fun r _ => r = .bool true) (fun _ _ => False) := by
  obtain ⟨v1, _, rfl, h1, hf⟩ := hf.cons
  obtain ⟨v2, _, rfl, h2, hf⟩ := hf.cons
  obtain ⟨v3, _, rfl, h3, hf⟩ := hf.cons
  obtain ⟨v4, _, rfl, h4, hf⟩ := hf.cons
  obtain rfl := hf.nil
  have a0 : fieldAt Tryz.prog 26 0 = some (0, 3) := by kernel_rfl
  have a1 : fieldAt Tryz.prog 26 1 = some (1, 3) := by kernel_rfl
  have u2 : Tryz.prog.underlying 3 = some (.int .i64) := by kernel_rfl
  have c2 : Tryz.prog.cellsOf 3 = 1 := by kernel_rfl
  have c0 : Tryz.prog.cellsOf 26 = 2 := by kernel_rfl
  have b0 : fieldAt Tryz.prog 36 0 = some (0, 30) := by kernel_rfl
  obtain ⟨cs, rfl, hc⟩ := FitsV.agg h1 a0
  have hl := hc.len a0
  rw [c0] at hl
  obtain ⟨n, k0, _⟩ := (hc.field a0).int u2
  obtain ⟨ht, k1, _⟩ := (hc.field a1).int u2
  rw [c2] at k0 k1
  obtain ⟨m, rfl, _⟩ := i64_fits h2
  obtain ⟨cut, rfl, _⟩ := i64_fits h4
  obtain ⟨ds, rfl, hd⟩ := FitsV.agg h3 b0
  obtain ⟨x, sv, sl, rfl, hb, hs⟩ := fits_bkS hd
  have e : cs = [.int .i64 n, .int .i64 ht] := by
    match cs, hl with
    | [u, w], _ =>
      have k0 : [u] = [Value.int .i64 n] := k0
      have k1 : [w] = [Value.int .i64 ht] := k1
      have k0 : u = Value.int .i64 n := by injection k0
      have k1 : w = Value.int .i64 ht := by injection k1
      rw [k0, k1]
  subst e
  exact MsgBack_true hb hs
end Go.Proofs.YtninaabbojcdpaaGreat.A

set_option maxRecDepth 100000
set_option linter.unusedVariables false
namespace Go.Proofs.YtninaabbojcdpaaGreat.R
open Go Go.Vm
open Go.Proofs.YtninaabbojcdpaaGreat.A
abbrev ty_internal_abi_BoundsErrorCode : TypeId := 6
abbrev ty_runtime_boundsError : TypeId := 8
abbrev ty_runtime_errorString : TypeId := 10
abbrev ty_runtime_plainError : TypeId := 11
abbrev ty_runtime_errorAddressString : TypeId := 14
abbrev ty_internal_runtime_maps_unhashableTypeError : TypeId := 19
abbrev ty_api_Ask : TypeId := 26
abbrev ty_api_Hash : TypeId := 28
abbrev ty_api_Header : TypeId := 30
abbrev ty_api_Commit : TypeId := 33
abbrev ty_api_Block : TypeId := 36
abbrev ty_api_Answer : TypeId := 38
abbrev ty_api_Msg : TypeId := 40
abbrev ty_api_Errno : TypeId := 41
abbrev ty_api_Fault : TypeId := 43
abbrev ty_msg_wrong : TypeId := 66
abbrev ty_msg_reader : TypeId := 72
abbrev ty_lr04_Reader : TypeId := 82
abbrev ty_iter_Seq_api_Errno_ : TypeId := 99
abbrev ty_wire_Reader : TypeId := 111
abbrev ty_api_Key : TypeId := 130
abbrev ty_api_Validator : TypeId := 132
abbrev ty_api_Vote : TypeId := 134
abbrev ty_msg_told : TypeId := 136
abbrev ty_lr04_Writer : TypeId := 140
abbrev ty_wire_Writer : TypeId := 149
abbrev ty_wire_wrong : TypeId := 162
abbrev ty_msg_ask : TypeId := 168
abbrev ty_msg_answer : TypeId := 169
abbrev ty_header_rule : TypeId := 175
abbrev ty_vals_look : TypeId := 177
abbrev ty_runtime_TypeAssertionError : TypeId := 207
abbrev ty_runtime_PanicNilError : TypeId := 210
abbrev ty_internal_abi_TFlag : TypeId := 212
abbrev ty_internal_abi_Kind : TypeId := 213
abbrev ty_internal_abi_NameOff : TypeId := 216
abbrev ty_internal_abi_TypeOff : TypeId := 217
abbrev ty_internal_abi_Type : TypeId := 219
instance : IsIface Tryz.prog 20 := ⟨by kernel_rfl⟩
instance : IsIface Tryz.prog 135 := ⟨by kernel_rfl⟩
instance : IsIface Tryz.prog 136 := ⟨by kernel_rfl⟩
abbrev prims : List FuncId := []
abbrev kepts : List FuncId := []
def T0 : Table := withKept (withTrue Tryz.prog prims) kepts
instance : IsBoolT Tryz.prog 4 := ⟨by kernel_rfl⟩
instance : TLeaves Tryz.prog 7 (.i .i64 :: (.i .i64 :: (.b :: (.i .u8 :: [])))) := ⟨by kernel_rfl, by kernel_rfl, by kernel_rfl⟩
instance : TLeaves Tryz.prog 8 (.i .i64 :: (.i .i64 :: (.b :: (.i .u8 :: [])))) := ⟨by kernel_rfl, by kernel_rfl, by kernel_rfl⟩
instance : TLeaves Tryz.prog 25 (.i .i64 :: (.i .i64 :: [])) := ⟨by kernel_rfl, by kernel_rfl, by kernel_rfl⟩
instance : TLeaves Tryz.prog 26 (.i .i64 :: (.i .i64 :: [])) := ⟨by kernel_rfl, by kernel_rfl, by kernel_rfl⟩
instance : TLeaves Tryz.prog 27 (u8s 32) := ⟨by kernel_rfl, by kernel_rfl, by kernel_rfl⟩
instance : TLeaves Tryz.prog 28 (u8s 32) := ⟨by kernel_rfl, by kernel_rfl, by kernel_rfl⟩
instance : TLeaves Tryz.prog 29 (.s :: (.i .i64 :: (.i .i64 :: (u8s 32 ++ (u8s 32 ++ (u8s 32 ++ (u8s 32))))))) := ⟨by kernel_rfl, by kernel_rfl, by kernel_rfl⟩
instance : TLeaves Tryz.prog 30 (.s :: (.i .i64 :: (.i .i64 :: (u8s 32 ++ (u8s 32 ++ (u8s 32 ++ (u8s 32))))))) := ⟨by kernel_rfl, by kernel_rfl, by kernel_rfl⟩
instance : TLeaves Tryz.prog 42 (.i .i64 :: (.i .i64 :: [])) := ⟨by kernel_rfl, by kernel_rfl, by kernel_rfl⟩
instance : TLeaves Tryz.prog 43 (.i .i64 :: (.i .i64 :: [])) := ⟨by kernel_rfl, by kernel_rfl, by kernel_rfl⟩
instance : TLeaves Tryz.prog 65 (.i .i64 :: (.i .i64 :: [])) := ⟨by kernel_rfl, by kernel_rfl, by kernel_rfl⟩
instance : TLeaves Tryz.prog 66 (.i .i64 :: (.i .i64 :: [])) := ⟨by kernel_rfl, by kernel_rfl, by kernel_rfl⟩
instance : TLeaves Tryz.prog 129 (u8s 4) := ⟨by kernel_rfl, by kernel_rfl, by kernel_rfl⟩
instance : TLeaves Tryz.prog 130 (u8s 4) := ⟨by kernel_rfl, by kernel_rfl, by kernel_rfl⟩
instance : TLeaves Tryz.prog 131 (u8s 4 ++ (.i .i64 :: [])) := ⟨by kernel_rfl, by kernel_rfl, by kernel_rfl⟩
instance : TLeaves Tryz.prog 132 (u8s 4 ++ (.i .i64 :: [])) := ⟨by kernel_rfl, by kernel_rfl, by kernel_rfl⟩
instance : TLeaves Tryz.prog 133 (.i .i64 :: (.i .u64 :: [])) := ⟨by kernel_rfl, by kernel_rfl, by kernel_rfl⟩
instance : TLeaves Tryz.prog 134 (.i .i64 :: (.i .u64 :: [])) := ⟨by kernel_rfl, by kernel_rfl, by kernel_rfl⟩
instance : TLeaves Tryz.prog 161 (.i .i64 :: (.i .i64 :: [])) := ⟨by kernel_rfl, by kernel_rfl, by kernel_rfl⟩
instance : TLeaves Tryz.prog 162 (.i .i64 :: (.i .i64 :: [])) := ⟨by kernel_rfl, by kernel_rfl, by kernel_rfl⟩
instance : TLeaves Tryz.prog 168 (.i .i64 :: (.i .i64 :: [])) := ⟨by kernel_rfl, by kernel_rfl, by kernel_rfl⟩
instance : TLeaves Tryz.prog 176 (u8s 4 ++ (.b :: (.i .i64 :: (.i .i64 :: [])))) := ⟨by kernel_rfl, by kernel_rfl, by kernel_rfl⟩
instance : TLeaves Tryz.prog 177 (u8s 4 ++ (.b :: (.i .i64 :: (.i .i64 :: [])))) := ⟨by kernel_rfl, by kernel_rfl, by kernel_rfl⟩
instance : TLeaves Tryz.prog 181 (u8s 4 ++ (u8s 4)) := ⟨by kernel_rfl, by kernel_rfl, by kernel_rfl⟩
instance : TLeaves Tryz.prog 185 (u8s 4 ++ (u8s 4 ++ (.i .u8 :: []))) := ⟨by kernel_rfl, by kernel_rfl, by kernel_rfl⟩
abbrev fn_znbQ : FuncId := 5
def znbQ_c : ACode :=
 (.seq (.region [
 o1 0 (.mov (.const (.bool false)))]) (.seq (.region [
 o1 2 (.buildSlice 5 [(.int .u8 0), (.int .u8 0), (.int .u8 0), (.int .u8 0), (.int .u8 0), (.int .u8 0), (.int .u8 0)] 7 [(0, 1, (.const (.int .u8 1))), (1, 1, (.const (.int .u8 1))), (2, 1, (.const (.int .u8 2))), (3, 1, (.const (.int .u8 1))), (4, 1, (.const (.int .u8 44))), (5, 1, (.const (.int .u8 1))), (6, 1, (.const (.int .u8 1)))]),
 o1 3 (.callV (.func 17) [(.const (.int .i64 300)), (.const (.int .i64 1)), (tm 2), k0]),
 o1 4 (.mov (tm 3)),
 o4 5 (.callV (.func 17) [k0, (.const (.int .i64 1)), (.const (.slice none 0 0)), (.const (.int .i64 3))]) 4,
 o1 6 (.pick (tm 4) (tm 5) (.const (.bool false))),
 o1 7 (.mov (tm 6)),
 o4 8 (.callV (.func 17) [(.const (.int .i64 1)), k0, (.const (.slice none 0 0)), (.const (.int .i64 3))]) 7,
 o1 9 (.pick (tm 7) (tm 8) (.const (.bool false))),
 o1 1 (.mov (tm 9))]) (.seq (.region [
 o1 10 (.callV (.func 9) []),
 o1 11 (.mov (tm 10)),
 o4 12 (.mov (tm 1)) 11,
 o1 13 (.pick (tm 11) (tm 12) (.const (.bool false))),
 o1 14 (.mov (tm 13)),
 o4 15 (.buildSlice 5 [(.int .u8 0), (.int .u8 0), (.int .u8 0), (.int .u8 0), (.int .u8 0)] 5 [(0, 1, (.const (.int .u8 1))), (1, 1, (.const (.int .u8 1))), (2, 1, (.const (.int .u8 0))), (3, 1, (.const (.int .u8 1))), (4, 1, (.const (.int .u8 1)))]) 14,
 o4 16 (.callV (.func 18) [(.const (.int .i64 3)), (.const (.int .i64 2)), (tm 15)]) 14,
 o1 17 (.pick (tm 14) (tm 16) (.const (.bool false))),
 o1 18 (.mov (tm 17)),
 o4 19 (.buildSlice 5 [(.int .u8 0), (.int .u8 0), (.int .u8 0), (.int .u8 0), (.int .u8 0)] 5 [(0, 1, (.const (.int .u8 1))), (1, 1, (.const (.int .u8 1))), (2, 1, (.const (.int .u8 1))), (3, 1, (.const (.int .u8 1))), (4, 1, (.const (.int .u8 0)))]) 18,
 o4 20 (.callV (.func 18) [(.const (.int .i64 3)), (.const (.int .i64 4)), (tm 19)]) 18,
 o1 21 (.pick (tm 18) (tm 20) (.const (.bool false))),
 o1 22 (.mov (tm 21)),
 o4 23 (.buildSlice 5 [(.int .u8 0), (.int .u8 0), (.int .u8 0), (.int .u8 0), (.int .u8 0), (.int .u8 0), (.int .u8 0)] 7 [(0, 1, (.const (.int .u8 1))), (1, 1, (.const (.int .u8 2))), (2, 1, (.const (.int .u8 1))), (3, 1, (.const (.int .u8 1))), (4, 1, (.const (.int .u8 1))), (5, 1, (.const (.int .u8 1))), (6, 1, (.const (.int .u8 0)))]) 22,
 o4 24 (.callV (.func 18) [(.const (.int .i64 5)), (.const (.int .i64 4)), (tm 23)]) 22,
 o1 25 (.pick (tm 22) (tm 24) (.const (.bool false))),
 o1 26 (.mov (tm 25)),
 o4 27 (.buildSlice 5 [(.int .u8 0), (.int .u8 0), (.int .u8 0), (.int .u8 0), (.int .u8 0), (.int .u8 0), (.int .u8 0)] 7 [(0, 1, (.const (.int .u8 1))), (1, 1, (.const (.int .u8 1))), (2, 1, (.const (.int .u8 1))), (3, 1, (.const (.int .u8 1))), (4, 1, (.const (.int .u8 1))), (5, 1, (.const (.int .u8 2))), (6, 1, (.const (.int .u8 0)))]) 26,
 o4 28 (.callV (.func 18) [(.const (.int .i64 4)), (.const (.int .i64 6)), (tm 27)]) 26,
 o1 29 (.pick (tm 26) (tm 28) (.const (.bool false))),
 o1 0 (.mov (tm 29))]) .ret)))
def znbQ : AFunc := ⟨30, [(0, none)], znbQ_c, none⟩
theorem znbQ_t0 : tableOf Tryz.prog 5 = some znbQ := by kernel_rfl
def zqbQ_c : ACode :=
 (.seq (.region [
 o1 0 (.mov (.const (.bool false)))]) (.seq (.region [
 o1 4 (.buildSlice 5 [(.int .u8 0), (.int .u8 0), (.int .u8 0), (.int .u8 0), (.int .u8 0), (.int .u8 0)] 6 [(0, 1, (.const (.int .u8 1))), (1, 1, (.const (.int .u8 1))), (2, 1, (.const (.int .u8 1))), (3, 1, (.const (.int .u8 1))), (4, 1, (.const (.int .u8 1))), (5, 1, (.const (.int .u8 2)))]),
 o1 5 (.callV (.func 11) [(tm 4)]),
 o1 3 (.mov (tm 5)),
 o1 6 (.extract 0 (tm 3)),
 o1 7 (.extract 1 (tm 3)),
 o1 1 (.alloc 40 ((.int .i64 0) :: ((.int .i64 0) :: ((.int .i64 0) :: ((.int .i64 0) :: ((.string ⟨⟨[]⟩⟩) :: ((.int .i64 0) :: ((.int .i64 0) :: (z32 ++ (z32 ++ (z32 ++ (z32 ++ ((.int .i64 0) :: (z32 ++ [(.slice none 0 0), (.slice none 0 0)])))))))))))))),
 o1 2 (.alloc 43 [(.int .i64 0), (.int .i64 0)]),
 o3 (.store 170 (tm 1) (tm 6)),
 o3 (.store 2 (tm 2) (tm 7))]) (.seq (.region [
 o1 8 (.buildSlice 5 [(.int .u8 0), (.int .u8 0), (.int .u8 0), (.int .u8 0), (.int .u8 0), (.int .u8 0)] 6 [(0, 1, (.const (.int .u8 1))), (1, 1, (.const (.int .u8 1))), (2, 1, (.const (.int .u8 1))), (3, 1, (.const (.int .u8 1))), (4, 1, (.const (.int .u8 1))), (5, 1, (.const (.int .u8 2)))]),
 o1 9 (.callV (.func 17) [(.const (.int .i64 1)), (.const (.int .i64 2)), (tm 8), k0]),
 o1 10 (.mov (tm 9)),
 o4 11 (.load (some 170) (tm 1)) 10,
 o4 12 (.build [(.int .i64 0), (.int .i64 0)] [(0, 1, (.const (.int .i64 1))), (1, 1, (.const (.int .i64 2)))]) 10,
 o4 13 (.build ((.int .i64 0) :: ((.int .i64 0) :: ((.int .i64 0) :: ((.int .i64 0) :: ((.string ⟨⟨[]⟩⟩) :: ((.int .i64 0) :: ((.int .i64 0) :: (z32 ++ (z32 ++ (z32 ++ (z32 ++ ((.int .i64 0) :: (z32 ++ [(.slice none 0 0), (.slice none 0 0)]))))))))))))) [(0, 1, (.const (.int .i64 1))), (1, 2, (tm 12))]) 10,
 o4 14 (.callV (.func 13) [(tm 11), (tm 13)]) 10,
 o1 15 (.pick (tm 10) (tm 14) (.const (.bool false))),
 o1 16 (.mov (tm 15)),
 o4 17 (.load (some 2) (tm 2)) 16,
 o4 18 (.build [(.int .i64 0), (.int .i64 0)] []) 16,
 o4 19 (.bin .eql (so (.binOp .eql 43 (tm 17) (tm 18) 43) 4) (tm 17) (tm 18)) 16,
 o1 20 (.pick (tm 16) (tm 19) (.const (.bool false))),
 o1 21 (.mov (tm 20)),
 o4 22 (.buildSlice 5 [(.int .u8 0), (.int .u8 0)] 2 [(0, 1, (.const (.int .u8 1))), (1, 1, (.const (.int .u8 3)))]) 21,
 o4 23 (.callV (.func 18) [(.const (.int .i64 5)), k0, (tm 22)]) 21,
 o1 24 (.pick (tm 21) (tm 23) (.const (.bool false))),
 o1 0 (.mov (tm 24))]) .ret)))
def zqbQ : AFunc := ⟨25, [(0, none)], zqbQ_c, none⟩
theorem zqbQ_t0 : tableOf Tryz.prog 9 = some zqbQ := by kernel_rfl
def zpbQ_c : ACode :=
 (.seq (.region [
 o1 8 (.mov (.const (.bool false)))]) (.seq (.region [
 o1 12 (.mov (tm 0)),
 o1 13 (.mov (tm 1)),
 o1 14 (.build [(.int .i64 0), (.int .i64 0)] [(0, 1, (tm 12)), (1, 1, (tm 13))]),
 o1 15 (.callV (.func 21) [(tm 14)]),
 o1 11 (.mov (tm 15)),
 o1 16 (.extract 0 (tm 11)),
 o1 17 (.extract 1 (tm 11)),
 o1 9 (.mov (tm 16)),
 o1 10 (.mov (tm 17))]) (.seq (.region [
 o1 18 (.mov (tm 9)),
 o1 19 (.mov (tm 2)),
 o1 20 (.callV (.func 25) [(tm 18), (tm 19)]),
 o1 21 (.mov (tm 20)),
 o4 22 (.mov (tm 10)) 21,
 o4 23 (.mov (tm 3)) 21,
 o4 24 (.bin .eql (so (.binOp .eql 41 (tm 22) (tm 23) 41) 4) (tm 22) (tm 23)) 21,
 o1 25 (.pick (tm 21) (tm 24) (.const (.bool false))),
 o1 8 (.mov (tm 25))]) .ret)))
def zpbQ : AFunc := ⟨26, [(8, none)], zpbQ_c, none⟩
theorem zpbQ_t0 : tableOf Tryz.prog 17 = some zpbQ := by kernel_rfl
def zrbQ_c : ACode :=
 (.seq (.region [
 o1 6 (.mov (.const (.bool false)))]) (.seq (.region [
 o1 10 (.mov (tm 2)),
 o1 11 (.callV (.func 11) [(tm 10)]),
 o1 9 (.mov (tm 11)),
 o1 12 (.extract 0 (tm 9)),
 o1 13 (.extract 1 (tm 9)),
 o1 7 (.alloc 40 ((.int .i64 0) :: ((.int .i64 0) :: ((.int .i64 0) :: ((.int .i64 0) :: ((.string ⟨⟨[]⟩⟩) :: ((.int .i64 0) :: ((.int .i64 0) :: (z32 ++ (z32 ++ (z32 ++ (z32 ++ ((.int .i64 0) :: (z32 ++ [(.slice none 0 0), (.slice none 0 0)])))))))))))))),
 o1 8 (.alloc 43 [(.int .i64 0), (.int .i64 0)]),
 o3 (.store 170 (tm 7) (tm 12)),
 o3 (.store 2 (tm 8) (tm 13))]) (.seq (.region [
 o1 14 (.load (some 170) (tm 7)),
 o1 15 (.build ((.int .i64 0) :: ((.int .i64 0) :: ((.int .i64 0) :: ((.int .i64 0) :: ((.string ⟨⟨[]⟩⟩) :: ((.int .i64 0) :: ((.int .i64 0) :: (z32 ++ (z32 ++ (z32 ++ (z32 ++ ((.int .i64 0) :: (z32 ++ [(.slice none 0 0), (.slice none 0 0)]))))))))))))) []),
 o1 16 (.callV (.func 13) [(tm 14), (tm 15)]),
 o1 17 (.mov (tm 16)),
 o4 18 (.load (some 2) (tm 8)) 17,
 o4 19 (.mov (tm 0)) 17,
 o4 20 (.mov (tm 1)) 17,
 o4 21 (.build [(.int .i64 0), (.int .i64 0)] [(0, 1, (tm 19)), (1, 1, (tm 20))]) 17,
 o4 22 (.bin .eql (so (.binOp .eql 43 (tm 18) (tm 21) 43) 4) (tm 18) (tm 21)) 17,
 o1 23 (.pick (tm 17) (tm 22) (.const (.bool false))),
 o1 6 (.mov (tm 23))]) .ret)))
def zrbQ : AFunc := ⟨24, [(6, none)], zrbQ_c, none⟩
theorem zrbQ_t0 : tableOf Tryz.prog 18 = some zrbQ := by kernel_rfl
def table : TT :=
 (.node (.node (.node (.node (.node (.node (.node .nil 5 znbQ .nil) 9 zqbQ (.node .nil 11 zvbQ .nil)) 13 zjbQ (.node (.node .nil 17 zpbQ .nil) 18 zrbQ .nil)) 21 zubQ (.node (.node (.node .nil 25 zhbQ .nil) 26 zgbQ .nil) 28 zbQ (.node (.node .nil 30 zwbQ .nil) 31 zbcQ .nil))) 32 zocQ (.node (.node (.node (.node .nil 33 zzcQ .nil) 34 zfcQ .nil) 35 zgcQ (.node (.node .nil 36 zccQ .nil) 37 zacQ .nil)) 38 zecQ (.node (.node (.node .nil 39 zqcQ .nil) 40 zaQ .nil) 41 zscQ (.node (.node .nil 54 zzbQ .nil) 60 zibQ .nil)))) 61 zkbQ (.node (.node (.node (.node (.node .nil 62 zeQ .nil) 63 zcQ (.node .nil 64 ziQ .nil)) 65 zpcQ (.node (.node .nil 66 zuQ .nil) 67 zpQ .nil)) 68 zmcQ (.node (.node (.node .nil 69 zhdQ .nil) 70 zidQ .nil) 72 zhcQ (.node (.node .nil 73 zvdQ .nil) 74 zfdQ .nil))) 75 zadQ (.node (.node (.node (.node .nil 76 zsdQ .nil) 77 zrcQ .nil) 78 zqdQ (.node (.node .nil 79 zxdQ .nil) 80 zhQ .nil)) 81 ztQ (.node (.node (.node .nil 82 zgQ .nil) 83 zoQ .nil) 84 zfQ (.node (.node .nil 85 zlcQ .nil) 90 zdcQ .nil))))) 98 zlbQ (.node (.node (.node (.node (.node (.node .nil 99 zdQ .nil) 100 zjQ (.node .nil 101 zsQ .nil)) 102 zkQ (.node (.node .nil 103 zkcQ .nil) 104 zlQ .nil)) 105 znQ (.node (.node (.node .nil 106 zmdQ .nil) 107 zldQ .nil) 108 zxQ (.node (.node .nil 109 zjdQ .nil) 110 zndQ .nil))) 111 zkdQ (.node (.node (.node (.node .nil 112 zodQ .nil) 113 zrdQ .nil) 114 zedQ (.node (.node .nil 115 zaeQ .nil) 116 zpdQ .nil)) 117 zgdQ (.node (.node (.node .nil 118 zbdQ .nil) 119 ztcQ .nil) 120 zcdQ (.node (.node .nil 121 zwcQ .nil) 134 zzQ .nil)))) 135 zncQ (.node (.node (.node (.node (.node .nil 136 zqQ .nil) 137 zbeQ (.node .nil 138 zicQ .nil)) 139 ztdQ (.node (.node .nil 140 zucQ .nil) 141 zydQ .nil)) 142 zvcQ (.node (.node (.node .nil 143 zwdQ .nil) 144 zddQ .nil) 145 zudQ (.node (.node .nil 146 zxcQ .nil) 147 zzdQ .nil))) 148 zycQ (.node (.node (.node (.node .nil 154 zabQ .nil) 155 zvQ .nil) 156 zbbQ (.node (.node .nil 157 zcbQ .nil) 158 zmQ .nil)) 159 zrQ (.node (.node (.node .nil 160 zjcQ .nil) 161 zwQ .nil) 162 zyQ (.node (.node .nil 183 zybQ .nil) 184 zxbQ .nil))))))
theorem table_all : table.All Tryz.prog := ⟨zlbQ_t0, ⟨zkbQ_t0, ⟨zocQ_t0, ⟨zubQ_t0, ⟨zjbQ_t0, ⟨zqbQ_t0, ⟨znbQ_t0, trivial, trivial⟩, ⟨zvbQ_t0, trivial, trivial⟩⟩, ⟨zrbQ_t0, ⟨zpbQ_t0, trivial, trivial⟩, trivial⟩⟩, ⟨zbQ_t0, ⟨zgbQ_t0, ⟨zhbQ_t0, trivial, trivial⟩, trivial⟩, ⟨zbcQ_t0, ⟨zwbQ_t0, trivial, trivial⟩, trivial⟩⟩⟩, ⟨zecQ_t0, ⟨zgcQ_t0, ⟨zfcQ_t0, ⟨zzcQ_t0, trivial, trivial⟩, trivial⟩, ⟨zacQ_t0, ⟨zccQ_t0, trivial, trivial⟩, trivial⟩⟩, ⟨zscQ_t0, ⟨zaQ_t0, ⟨zqcQ_t0, trivial, trivial⟩, trivial⟩, ⟨zibQ_t0, ⟨zzbQ_t0, trivial, trivial⟩, trivial⟩⟩⟩⟩, ⟨zadQ_t0, ⟨zmcQ_t0, ⟨zpcQ_t0, ⟨zcQ_t0, ⟨zeQ_t0, trivial, trivial⟩, ⟨ziQ_t0, trivial, trivial⟩⟩, ⟨zpQ_t0, ⟨zuQ_t0, trivial, trivial⟩, trivial⟩⟩, ⟨zhcQ_t0, ⟨zidQ_t0, ⟨zhdQ_t0, trivial, trivial⟩, trivial⟩, ⟨zfdQ_t0, ⟨zvdQ_t0, trivial, trivial⟩, trivial⟩⟩⟩, ⟨ztQ_t0, ⟨zqdQ_t0, ⟨zrcQ_t0, ⟨zsdQ_t0, trivial, trivial⟩, trivial⟩, ⟨zhQ_t0, ⟨zxdQ_t0, trivial, trivial⟩, trivial⟩⟩, ⟨zfQ_t0, ⟨zoQ_t0, ⟨zgQ_t0, trivial, trivial⟩, trivial⟩, ⟨zdcQ_t0, ⟨zlcQ_t0, trivial, trivial⟩, trivial⟩⟩⟩⟩⟩, ⟨zncQ_t0, ⟨zkdQ_t0, ⟨znQ_t0, ⟨zkQ_t0, ⟨zjQ_t0, ⟨zdQ_t0, trivial, trivial⟩, ⟨zsQ_t0, trivial, trivial⟩⟩, ⟨zlQ_t0, ⟨zkcQ_t0, trivial, trivial⟩, trivial⟩⟩, ⟨zxQ_t0, ⟨zldQ_t0, ⟨zmdQ_t0, trivial, trivial⟩, trivial⟩, ⟨zndQ_t0, ⟨zjdQ_t0, trivial, trivial⟩, trivial⟩⟩⟩, ⟨zgdQ_t0, ⟨zedQ_t0, ⟨zrdQ_t0, ⟨zodQ_t0, trivial, trivial⟩, trivial⟩, ⟨zpdQ_t0, ⟨zaeQ_t0, trivial, trivial⟩, trivial⟩⟩, ⟨zcdQ_t0, ⟨ztcQ_t0, ⟨zbdQ_t0, trivial, trivial⟩, trivial⟩, ⟨zzQ_t0, ⟨zwcQ_t0, trivial, trivial⟩, trivial⟩⟩⟩⟩, ⟨zycQ_t0, ⟨zvcQ_t0, ⟨ztdQ_t0, ⟨zbeQ_t0, ⟨zqQ_t0, trivial, trivial⟩, ⟨zicQ_t0, trivial, trivial⟩⟩, ⟨zydQ_t0, ⟨zucQ_t0, trivial, trivial⟩, trivial⟩⟩, ⟨zudQ_t0, ⟨zddQ_t0, ⟨zwdQ_t0, trivial, trivial⟩, trivial⟩, ⟨zzdQ_t0, ⟨zxcQ_t0, trivial, trivial⟩, trivial⟩⟩⟩, ⟨zrQ_t0, ⟨zbbQ_t0, ⟨zvQ_t0, ⟨zabQ_t0, trivial, trivial⟩, trivial⟩, ⟨zmQ_t0, ⟨zcbQ_t0, trivial, trivial⟩, trivial⟩⟩, ⟨zyQ_t0, ⟨zwQ_t0, ⟨zjcQ_t0, trivial, trivial⟩, trivial⟩, ⟨zxbQ_t0, ⟨zybQ_t0, trivial, trivial⟩, trivial⟩⟩⟩⟩⟩⟩
end Go.Proofs.YtninaabbojcdpaaGreat.R

namespace Go.Proofs.YtninaabbojcdpaaGreat.A
open Go Go.Vm
set_option maxRecDepth 100000
theorem ran_5 : allTrue (xcall Tryz.prog R.table.get 1000 60 (.fn 5) [] Heap.init) = true := by kernel_rfl
theorem has_5 : (tableOf Tryz.prog 5).isSome = true := by kernel_rfl
theorem known : KnownAll Tryz.prog prims := ⟨⟨Option.isSome_iff_exists.1 has_5, fun w => known_calls (Checked.mixed Tryz.checked) (TT.table_ok R.table_all) ran_5 w⟩, trivial⟩
theorem T0_ok : TableOK Tryz.prog T0 := withKept_ok (withTrue_ok known) fun k hk => by simp at hk
end Go.Proofs.YtninaabbojcdpaaGreat.A
