/- Contracts of the document's validators (landfallref05), 1: keys. -/
import Derived.Test.YtmfaepkmiceoeaaY3d
import Derived.Test.YtmfaepkmiceoeaaV3
namespace Go.Proofs.Ytmfaepkmiceoeaa.A
open Go Go.Vm
set_option maxRecDepth 10000
set_option linter.unusedVariables false

theorem lset_mid : ∀ (a b : List Value) (v w : Value), lset (a ++ w :: b) a.length v = a ++ v :: b
  | [], b, v, w => rfl
  | x :: a, b, v, w => by
    show x :: lset (a ++ w :: b) a.length v = _
    rw [lset_mid a b v w]; rfl
theorem lset_part {d : List UInt8} {z : List Value} {i : Nat} (hi : i < d.length) (hz : i < z.length) :
    lset (bcells (d.take i) ++ z.drop i) i (.int .u8 (d.getD i 0).toNat) = bcells (d.take (i + 1)) ++ z.drop (i + 1) := by
  have hl : (bcells (d.take i)).length = i := by rw [bcells_len, List.length_take]; omega
  have h1 : z.drop i = z[i] :: z.drop (i + 1) := List.drop_eq_getElem_cons hz
  have h2 := lset_mid (bcells (d.take i)) (z.drop (i + 1)) (.int .u8 (d.getD i 0).toNat) z[i]
  rw [hl] at h2
  rw [h1, h2]
  have h3 : d.take (i + 1) = d.take i ++ [d.getD i 0] := take_succ_getD hi
  rw [h3]
  simp [bcells]
theorem z4_len : z4.length = 4 := rfl

theorem RKey_run {h : Heap} {p : Nat} {sv : Value} {bs : List UInt8} {st : RSt} (hp : RRs h p sv bs st) :
    Runs Try.prog T0 (.fn fn_landfallref04_Reader_Key) [.pointer (some ⟨p, 0, none⟩)] h (RReads h p sv bs (rd (partS 4 bs) zb4 st) fun l r _ => r = .agg ⟨bcells l⟩ ∧ l.length = 4) (fun _ _ => False) := by
  obtain ⟨st1, e, fa⟩ := st
  obtain ⟨pl, h1, h2⟩ := hp.ex
  have hlt := h2.lt
  have hown := fun {i : Nat} (hi : ownedBy sv i) => h2.own.lt hi
  haveI : HGet h p _ := ⟨h2.get⟩
  haveI : BLt p h := ⟨h2.lt⟩
  refine landfallref04_Reader_Key_runs ?_
  repeat (first | refine O.how (XOp.addI (by omega)) ?_ | refine O.how (XOp.subI (by omega)) ?_ | refine O.how (XOp.convI (by omega)) ?_ | refine O.how (XOp.convU64 (by omega)) ?_ | refine O.how (XOp.convU8 (by omega)) ?_ | refine O.one ?_ | refine O.nil ?_ | refine C.next ?_ | refine RunC.seq ?_ | refine RunC.region ?_ | refine RunC.block ?_ | refine RunC.skip ?_ | refine RunC.exit ?_ | refine RunC.ret ?_ | refine O.one0 ?_ | refine C.nextB ?_ | refine C.exit2 ?_ | refine C.exitB ?_ | refine C.retB ?_ | refine C.ret2 ?_ | refine loopQ.exit ?_ | refine loopQ.ret ?_ | refine C.exitN (by decide) ?_ | refine O.howT (XOp.mkIndexSl (by omega)) ?_ | refine O.howT (XOp.mkIndexArr (by omega)) ?_ | refine O.howT (XOp.addI (by omega)) ?_ | refine O.howT (XOp.subI (by omega)) ?_ | refine O.oneT ?_ | refine O.skT ?_ | refine O.skF ?_ | refine O.skU ?_ | refine C.ifT ?_ | refine C.ifF ?_ | refine B.ret ?_ | refine B.end ?_ | refine O.how (XOp.mkIndexArr (by omega)) ?_ | refine O.how (XOp.mkIndexSl (by omega)) ?_)
  have hf0 : Fr (fun i => i = p) h ((h.push (AObj.cells z4 0)).push (AObj.cells z4 0)) := Fr.refl.push.push
  have h20 : RR ((h.push (AObj.cells z4 0)).push (AObj.cells z4 0)) p sv bs pl e fa := h2.none Fr.refl.push.push
  by_cases he : e = 0
  · subst he
    obtain ⟨rfl, h3⟩ := h1 rfl
    have h3 : fa = 0 := h3
    subst h3
    refine O.call' (Rtake_ok (n := 4) (a := pl) h20) (fun r h3 hq => ?_)
    obtain ⟨hf3, hq⟩ := hq
    have hA : HGet h3 h.n (.cells z4 0) := hf3.keep (b := h.n) (HGet.push (k := BLt.new) (g := HGet.new)) (by simp; omega) (by omega)
    have hB : HGet h3 (h.push (AObj.cells z4 0)).n (.cells z4 0) := hf3.keep (b := (h.push (AObj.cells z4 0)).n) HGet.new (by simp) (by simp; omega)
    have hn3 := hf3.n
    simp only [Heap.n_push] at hn3
    rcases hq with ⟨hle, ho, hnew, hr3⟩ | ⟨hlt3, rfl, hr3⟩
    · generalize hd : (bs.drop pl).take 4 = d at ho
      have hdl : d.length = 4 := by rw [← hd, List.length_take, List.length_drop]; omega
      obtain ⟨a, cap, rfl, hl, hc⟩ := ho.rd
      obtain ⟨b, o, sp, rfl, hb, hcc⟩ := hc (by omega)
      rw [Nat.mul_one] at hcc
      have hbn : h.n + 2 ≤ b := by have := hnew b rfl; simpa using this
      repeat (first | refine O.how (XOp.addI (by omega)) ?_ | refine O.how (XOp.subI (by omega)) ?_ | refine O.how (XOp.convI (by omega)) ?_ | refine O.how (XOp.convU64 (by omega)) ?_ | refine O.how (XOp.convU8 (by omega)) ?_ | refine O.one ?_ | refine O.nil ?_ | refine C.next ?_ | refine RunC.seq ?_ | refine RunC.region ?_ | refine RunC.block ?_ | refine RunC.skip ?_ | refine RunC.exit ?_ | refine RunC.ret ?_ | refine O.one0 ?_ | refine C.nextB ?_ | refine C.exit2 ?_ | refine C.exitB ?_ | refine C.retB ?_ | refine C.ret2 ?_ | refine loopQ.exit ?_ | refine loopQ.ret ?_ | refine C.exitN (by decide) ?_ | refine O.howT (XOp.mkIndexSl (by omega)) ?_ | refine O.howT (XOp.mkIndexArr (by omega)) ?_ | refine O.howT (XOp.addI (by omega)) ?_ | refine O.howT (XOp.subI (by omega)) ?_ | refine O.oneT ?_ | refine O.skT ?_ | refine O.skF ?_ | refine O.skU ?_ | refine C.ifT ?_ | refine C.ifF ?_ | refine B.ret ?_ | refine B.end ?_ | refine O.how (XOp.mkIndexArr (by omega)) ?_ | refine O.how (XOp.mkIndexSl (by omega)) ?_)
      refine landfallref04_Reader_Key_l0_rule (fun m v5 h' => ∃ i : Nat, i ≤ 4 ∧ m = 4 - i ∧ v5 = .int .i64 i ∧ h'.get (h.push (AObj.cells z4 0)).n = .cells (bcells (d.take i) ++ z4.drop i) 0 ∧ Fr (fun j => j = (h.push (AObj.cells z4 0)).n) h3 h') ?_ 4 ⟨0, by omega, rfl, rfl, hB.eq, Fr.refl⟩
      rintro m v5 h4 x12 x13 x14 x15 x16 x17 x18 x19 x20 x21 x22 x23 ⟨i, hi, rfl, rfl, hg, hf4⟩
      haveI : HGet h4 (h.push (AObj.cells z4 0)).n _ := ⟨hg⟩
      have hn4 := hf4.n
      repeat (first | refine O.how (XOp.addI (by omega)) ?_ | refine O.how (XOp.subI (by omega)) ?_ | refine O.how (XOp.convI (by omega)) ?_ | refine O.how (XOp.convU64 (by omega)) ?_ | refine O.how (XOp.convU8 (by omega)) ?_ | refine O.one ?_ | refine O.nil ?_ | refine C.next ?_ | refine RunC.seq ?_ | refine RunC.region ?_ | refine RunC.block ?_ | refine RunC.skip ?_ | refine RunC.exit ?_ | refine RunC.ret ?_ | refine O.one0 ?_ | refine C.nextB ?_ | refine C.exit2 ?_ | refine C.exitB ?_ | refine C.retB ?_ | refine C.ret2 ?_ | refine loopQ.exit ?_ | refine loopQ.ret ?_ | refine C.exitN (by decide) ?_ | refine O.howT (XOp.mkIndexSl (by omega)) ?_ | refine O.howT (XOp.mkIndexArr (by omega)) ?_ | refine O.howT (XOp.addI (by omega)) ?_ | refine O.howT (XOp.subI (by omega)) ?_ | refine O.oneT ?_ | refine O.skT ?_ | refine O.skF ?_ | refine O.skU ?_ | refine C.ifT ?_ | refine C.ifF ?_ | refine B.ret ?_ | refine B.end ?_ | refine O.how (XOp.mkIndexArr (by omega)) ?_ | refine O.how (XOp.mkIndexSl (by omega)) ?_)
      refine C.if (fun hlt => ?_) (fun hge => ?_)
      · have hcc4 : cellsAt h4 b o 4 = some (bcells d) := by rw [cellsAt_keep hf4 hb (by simp; omega)]; exact hcc
        haveI := byte_cell (k := i) hcc4 (by omega)
        have hcl : (bcells (d.take i) ++ z4.drop i).length = 4 := by rw [List.length_append, bcells_len, List.length_take, List.length_drop, z4_len]; omega
        repeat (first | refine O.how (XOp.addI (by omega)) ?_ | refine O.how (XOp.subI (by omega)) ?_ | refine O.how (XOp.convI (by omega)) ?_ | refine O.how (XOp.convU64 (by omega)) ?_ | refine O.how (XOp.convU8 (by omega)) ?_ | refine O.one ?_ | refine O.nil ?_ | refine C.next ?_ | refine RunC.seq ?_ | refine RunC.region ?_ | refine RunC.block ?_ | refine RunC.skip ?_ | refine RunC.exit ?_ | refine RunC.ret ?_ | refine O.one0 ?_ | refine C.nextB ?_ | refine C.exit2 ?_ | refine C.exitB ?_ | refine C.retB ?_ | refine C.ret2 ?_ | refine loopQ.exit ?_ | refine loopQ.ret ?_ | refine C.exitN (by decide) ?_ | refine O.howT (XOp.mkIndexSl (by omega)) ?_ | refine O.howT (XOp.mkIndexArr (by omega)) ?_ | refine O.howT (XOp.addI (by omega)) ?_ | refine O.howT (XOp.subI (by omega)) ?_ | refine O.oneT ?_ | refine O.skT ?_ | refine O.skF ?_ | refine O.skU ?_ | refine C.ifT ?_ | refine C.ifF ?_ | refine B.ret ?_ | refine B.end ?_ | refine O.how (XOp.mkIndexArr (by omega)) ?_ | refine O.how (XOp.mkIndexSl (by omega)) ?_)
        refine O.by0 (XOp.mkStore1 (P := Try.prog) (h := h4) (c := bcells (d.take i) ++ z4.drop i) (r := (h.push (AObj.cells z4 0)).n) (o := i) (v := .int .u8 (d.getD i 0).toNat) (sp := none) (by omega)).eq rfl ?_
        repeat (first | refine O.how (XOp.addI (by omega)) ?_ | refine O.how (XOp.subI (by omega)) ?_ | refine O.how (XOp.convI (by omega)) ?_ | refine O.how (XOp.convU64 (by omega)) ?_ | refine O.how (XOp.convU8 (by omega)) ?_ | refine O.one ?_ | refine O.nil ?_ | refine C.next ?_ | refine RunC.seq ?_ | refine RunC.region ?_ | refine RunC.block ?_ | refine RunC.skip ?_ | refine RunC.exit ?_ | refine RunC.ret ?_ | refine O.one0 ?_ | refine C.nextB ?_ | refine C.exit2 ?_ | refine C.exitB ?_ | refine C.retB ?_ | refine C.ret2 ?_ | refine loopQ.exit ?_ | refine loopQ.ret ?_ | refine C.exitN (by decide) ?_ | refine O.howT (XOp.mkIndexSl (by omega)) ?_ | refine O.howT (XOp.mkIndexArr (by omega)) ?_ | refine O.howT (XOp.addI (by omega)) ?_ | refine O.howT (XOp.subI (by omega)) ?_ | refine O.oneT ?_ | refine O.skT ?_ | refine O.skF ?_ | refine O.skU ?_ | refine C.ifT ?_ | refine C.ifF ?_ | refine B.ret ?_ | refine B.end ?_ | refine O.how (XOp.mkIndexArr (by omega)) ?_ | refine O.how (XOp.mkIndexSl (by omega)) ?_)
        refine landfallref04_Reader_Key_l0_again (4 - (i + 1)) (by omega) ⟨i + 1, by omega, rfl, rfl, ?_, Fr.set hf4 fun _ => rfl⟩
        rw [Heap.get_set, if_pos rfl, lset_part (by omega) (by rw [z4_len]; omega)]
      · obtain rfl : i = 4 := by omega
        rw [List.take_of_length_le (by omega), List.drop_of_length_le (by rw [z4_len]; omega), List.append_nil] at hg
        obtain ⟨a1, a2, a3, a4, rfl⟩ := four hdl
        rw [bcells4] at hg
        haveI : HGet h4 (h.push (AObj.cells z4 0)).n _ := ⟨hg⟩
        haveI : HGet h4 h.n _ := hf4.keep hA (by omega) (by simp)
        repeat (first | refine O.how (XOp.addI (by omega)) ?_ | refine O.how (XOp.subI (by omega)) ?_ | refine O.how (XOp.convI (by omega)) ?_ | refine O.how (XOp.convU64 (by omega)) ?_ | refine O.how (XOp.convU8 (by omega)) ?_ | refine O.one ?_ | refine O.nil ?_ | refine C.next ?_ | refine RunC.seq ?_ | refine RunC.region ?_ | refine RunC.block ?_ | refine RunC.skip ?_ | refine RunC.exit ?_ | refine RunC.ret ?_ | refine O.one0 ?_ | refine C.nextB ?_ | refine C.exit2 ?_ | refine C.exitB ?_ | refine C.retB ?_ | refine C.ret2 ?_ | refine loopQ.exit ?_ | refine loopQ.ret ?_ | refine C.exitN (by decide) ?_ | refine O.howT (XOp.mkIndexSl (by omega)) ?_ | refine O.howT (XOp.mkIndexArr (by omega)) ?_ | refine O.howT (XOp.addI (by omega)) ?_ | refine O.howT (XOp.subI (by omega)) ?_ | refine O.oneT ?_ | refine O.skT ?_ | refine O.skF ?_ | refine O.skU ?_ | refine C.ifT ?_ | refine C.ifF ?_ | refine B.ret ?_ | refine B.end ?_ | refine O.how (XOp.mkIndexArr (by omega)) ?_ | refine O.how (XOp.mkIndexSl (by omega)) ?_)
        refine rrd_ok (a := [a1, a2, a3, a4]) (pl' := pl + 4) ?_ (Fr.set (hf0.trans' (hf3.trans' (Fr.refl)) |>.trans (S := fun i => i = p) hf4 fun j hj hb => ?_) fun hlt => by omega) ⟨rfl, rfl⟩ ((hr3.keep hf4 (by simp; omega) fun j hj => ?_).keep (S := fun j => j = h.n) (Fr.refl.set fun _ => rfl) (by omega) fun j hj => ?_)
        · unfold partS
          rw [if_neg (by omega), hd]
        · have : j = (h.push (AObj.cells z4 0)).n := hb
          simp at this
          omega
        · have := hown hj
          simp
          omega
        · have := hown hj
          omega
    · repeat (first | refine O.how (XOp.addI (by omega)) ?_ | refine O.how (XOp.subI (by omega)) ?_ | refine O.how (XOp.convI (by omega)) ?_ | refine O.how (XOp.convU64 (by omega)) ?_ | refine O.how (XOp.convU8 (by omega)) ?_ | refine O.one ?_ | refine O.nil ?_ | refine C.next ?_ | refine RunC.seq ?_ | refine RunC.region ?_ | refine RunC.block ?_ | refine RunC.skip ?_ | refine RunC.exit ?_ | refine RunC.ret ?_ | refine O.one0 ?_ | refine C.nextB ?_ | refine C.exit2 ?_ | refine C.exitB ?_ | refine C.retB ?_ | refine C.ret2 ?_ | refine loopQ.exit ?_ | refine loopQ.ret ?_ | refine C.exitN (by decide) ?_ | refine O.howT (XOp.mkIndexSl (by omega)) ?_ | refine O.howT (XOp.mkIndexArr (by omega)) ?_ | refine O.howT (XOp.addI (by omega)) ?_ | refine O.howT (XOp.subI (by omega)) ?_ | refine O.oneT ?_ | refine O.skT ?_ | refine O.skF ?_ | refine O.skU ?_ | refine C.ifT ?_ | refine C.ifF ?_ | refine B.ret ?_ | refine B.end ?_ | refine O.how (XOp.mkIndexArr (by omega)) ?_ | refine O.how (XOp.mkIndexSl (by omega)) ?_)
      refine landfallref04_Reader_Key_l0_rule (fun m v5 h' => v5 = .int .i64 0 ∧ h3 = h') ?_ 0 ⟨rfl, rfl⟩
      rintro m v5 h4 x12 x13 x14 x15 x16 x17 x18 x19 x20 x21 x22 x23 ⟨rfl, rfl⟩
      repeat (first | refine O.how (XOp.addI (by omega)) ?_ | refine O.how (XOp.subI (by omega)) ?_ | refine O.how (XOp.convI (by omega)) ?_ | refine O.how (XOp.convU64 (by omega)) ?_ | refine O.how (XOp.convU8 (by omega)) ?_ | refine O.one ?_ | refine O.nil ?_ | refine C.next ?_ | refine RunC.seq ?_ | refine RunC.region ?_ | refine RunC.block ?_ | refine RunC.skip ?_ | refine RunC.exit ?_ | refine RunC.ret ?_ | refine O.one0 ?_ | refine C.nextB ?_ | refine C.exit2 ?_ | refine C.exitB ?_ | refine C.retB ?_ | refine C.ret2 ?_ | refine loopQ.exit ?_ | refine loopQ.ret ?_ | refine C.exitN (by decide) ?_ | refine O.howT (XOp.mkIndexSl (by omega)) ?_ | refine O.howT (XOp.mkIndexArr (by omega)) ?_ | refine O.howT (XOp.addI (by omega)) ?_ | refine O.howT (XOp.subI (by omega)) ?_ | refine O.oneT ?_ | refine O.skT ?_ | refine O.skF ?_ | refine O.skU ?_ | refine C.ifT ?_ | refine C.ifF ?_ | refine B.ret ?_ | refine B.end ?_ | refine O.how (XOp.mkIndexArr (by omega)) ?_ | refine O.how (XOp.mkIndexSl (by omega)) ?_)
      refine rrd_err (e := 6) ?_ (by omega) (Fr.set (hf0.trans' hf3) fun hlt => by omega) ⟨rfl, rfl⟩ (hr3.keep (S := fun j => j = h.n) (Fr.refl.set fun _ => rfl) (by omega) fun j hj => ?_)
      · unfold partS
        rw [if_pos (by omega)]
      · have := hown hj
        omega
  · refine O.call' (Rtake_bad h20 he) (fun r h3 hq => ?_)
    obtain ⟨rfl, rfl⟩ := hq
    repeat (first | refine O.how (XOp.addI (by omega)) ?_ | refine O.how (XOp.subI (by omega)) ?_ | refine O.how (XOp.convI (by omega)) ?_ | refine O.how (XOp.convU64 (by omega)) ?_ | refine O.how (XOp.convU8 (by omega)) ?_ | refine O.one ?_ | refine O.nil ?_ | refine C.next ?_ | refine RunC.seq ?_ | refine RunC.region ?_ | refine RunC.block ?_ | refine RunC.skip ?_ | refine RunC.exit ?_ | refine RunC.ret ?_ | refine O.one0 ?_ | refine C.nextB ?_ | refine C.exit2 ?_ | refine C.exitB ?_ | refine C.retB ?_ | refine C.ret2 ?_ | refine loopQ.exit ?_ | refine loopQ.ret ?_ | refine C.exitN (by decide) ?_ | refine O.howT (XOp.mkIndexSl (by omega)) ?_ | refine O.howT (XOp.mkIndexArr (by omega)) ?_ | refine O.howT (XOp.addI (by omega)) ?_ | refine O.howT (XOp.subI (by omega)) ?_ | refine O.oneT ?_ | refine O.skT ?_ | refine O.skF ?_ | refine O.skU ?_ | refine C.ifT ?_ | refine C.ifF ?_ | refine B.ret ?_ | refine B.end ?_ | refine O.how (XOp.mkIndexArr (by omega)) ?_ | refine O.how (XOp.mkIndexSl (by omega)) ?_)
    refine landfallref04_Reader_Key_l0_rule (fun m v5 h' => v5 = .int .i64 0 ∧ (h.push (AObj.cells z4 0)).push (AObj.cells z4 0) = h') ?_ 0 ⟨rfl, rfl⟩
    rintro m v5 h4 x12 x13 x14 x15 x16 x17 x18 x19 x20 x21 x22 x23 ⟨rfl, rfl⟩
    repeat (first | refine O.how (XOp.addI (by omega)) ?_ | refine O.how (XOp.subI (by omega)) ?_ | refine O.how (XOp.convI (by omega)) ?_ | refine O.how (XOp.convU64 (by omega)) ?_ | refine O.how (XOp.convU8 (by omega)) ?_ | refine O.one ?_ | refine O.nil ?_ | refine C.next ?_ | refine RunC.seq ?_ | refine RunC.region ?_ | refine RunC.block ?_ | refine RunC.skip ?_ | refine RunC.exit ?_ | refine RunC.ret ?_ | refine O.one0 ?_ | refine C.nextB ?_ | refine C.exit2 ?_ | refine C.exitB ?_ | refine C.retB ?_ | refine C.ret2 ?_ | refine loopQ.exit ?_ | refine loopQ.ret ?_ | refine C.exitN (by decide) ?_ | refine O.howT (XOp.mkIndexSl (by omega)) ?_ | refine O.howT (XOp.mkIndexArr (by omega)) ?_ | refine O.howT (XOp.addI (by omega)) ?_ | refine O.howT (XOp.subI (by omega)) ?_ | refine O.oneT ?_ | refine O.skT ?_ | refine O.skF ?_ | refine O.skU ?_ | refine C.ifT ?_ | refine C.ifF ?_ | refine B.ret ?_ | refine B.end ?_ | refine O.how (XOp.mkIndexArr (by omega)) ?_ | refine O.how (XOp.mkIndexSl (by omega)) ?_)
    refine rrd_bad he (Fr.set hf0 fun hlt => by omega) ⟨rfl, rfl⟩ ((hp.none Fr.refl.push.push).keep (S := fun j => j = h.n) (Fr.refl.set fun _ => rfl) (by omega) fun j hj => ?_)
    have := hown hj
    omega
end Go.Proofs.Ytmfaepkmiceoeaa.A
