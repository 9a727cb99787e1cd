/- Contracts of the document's reader of bytes (landfallref04), 3: bytes, texts, hashes, made, ended. -/
import Derived.Test.YtmfaepkmiceoeaaY2d
namespace Go.Proofs.Ytmfaepkmiceoeaa.A
open Go Go.Vm
set_option maxRecDepth 10000
set_option linter.unusedVariables false

theorem RNum_run {h : Heap} {p : Nat} {sv : Value} {bs : List UInt8} {st : RSt} (hp : RRs h p sv bs st) :
    Runs Try.prog T0 (.fn fn_landfallref04_Reader_Num) [.pointer (some ⟨p, 0, none⟩)] h (RReads h p sv bs (rd (numS bs) 0 st) fun a r _ => r = .int .i64 (a : Nat)) (fun _ _ => False) := by
  obtain ⟨st1, e, fa⟩ := st
  obtain ⟨pl, h1, h2⟩ := hp.ex
  by_cases he : e = 0
  · subst he
    obtain ⟨rfl, h3⟩ := h1 rfl
    have h3 : fa = 0 := h3
    subst h3
    exact RNum_ok h2
  · refine (RNum_bad h2 he).imp fun r h' ⟨hz, hh⟩ => ?_
    subst hh
    exact rrd_bad he Fr.refl hz hp

theorem RNew_ok {h : Heap} {v : Value} {l : List UInt8} (hr : Rd h 1 v (bcells l) l.length) (hs : l.length < 1048576) :
    Runs Try.prog T0 (.fn fn_landfallref04_NewReader) [v] h (fun r h' => ∃ p sv, r = .pointer (some ⟨p, 0, none⟩) ∧ h.n ≤ p ∧ (∀ i, ownedBy sv i → h.n ≤ i) ∧ RRs h' p sv l ⟨0, 0, 0⟩ ∧ Fr (fun _ => False) h h') (fun _ _ => False) := by
  refine landfallref04_NewReader_runs ?_
  repeat (first | refine O.how (XOp.addI (by omega)) ?_ | refine O.how (XOp.subI (by omega)) ?_ | refine O.how (XOp.convI (by omega)) ?_ | refine O.how (XOp.convU64 (by omega)) ?_ | refine O.how (XOp.convU8 (by omega)) ?_ | refine O.one ?_ | refine O.nil ?_ | refine C.next ?_ | refine RunC.seq ?_ | refine RunC.region ?_ | refine RunC.block ?_ | refine RunC.skip ?_ | refine RunC.exit ?_ | refine RunC.ret ?_ | refine O.one0 ?_ | refine C.nextB ?_ | refine C.exit2 ?_ | refine C.exitB ?_ | refine C.retB ?_ | refine C.ret2 ?_ | refine loopQ.exit ?_ | refine loopQ.ret ?_ | refine C.exitN (by decide) ?_ | refine O.howT (XOp.mkIndexSl (by omega)) ?_ | refine O.howT (XOp.mkIndexArr (by omega)) ?_ | refine O.howT (XOp.addI (by omega)) ?_ | refine O.howT (XOp.subI (by omega)) ?_ | refine O.oneT ?_ | refine O.skT ?_ | refine O.skF ?_ | refine O.skU ?_ | refine C.ifT ?_ | refine C.ifF ?_ | refine B.ret ?_ | refine B.end ?_ | refine O.how (XOp.mkIndexArr (by omega)) ?_ | refine O.how (XOp.mkIndexSl (by omega)) ?_)
  have hz : Own (h.push (.cells [] 0)) 1 (.slice (some ⟨h.n, 0, none⟩) 0 0) [] 0 := .lit (by simp) (by rw [Heap.get_push, if_pos rfl])
  have hnew' := (Rd.keep (S := fun _ => False) hr (Fr.refl.push (o := .cells [] 0)) fun _ _ => id).new (size := 1)
  refine O.append hz (hnew' [.int .u8 0]) (by rw [bcells_len]; omega) (bcells_one l) (by omega) (by omega) (by omega) (fun v' h' ho h2 h3 => ?_)
  rw [Nat.zero_add, List.nil_append] at ho
  have hf : Fr (fun _ => False) h h' := (Fr.refl.push (o := .cells [] 0)).trans (S := fun _ => False) h2 (fun i hi ho => by
    have : h.n = i := ho
    omega)
  have hn := hf.n
  have hnew : ∀ i, ownedBy v' i → h.n ≤ i := fun i hi => by
    rcases h3 i hi with h4 | h4
    · have : h.n = i := h4
      omega
    · simp at h4; omega
  obtain ⟨a, cap, rfl, hlen, _⟩ := ho.rd
  repeat (first | refine O.how (XOp.addI (by omega)) ?_ | refine O.how (XOp.subI (by omega)) ?_ | refine O.how (XOp.convI (by omega)) ?_ | refine O.how (XOp.convU64 (by omega)) ?_ | refine O.how (XOp.convU8 (by omega)) ?_ | refine O.one ?_ | refine O.nil ?_ | refine C.next ?_ | refine RunC.seq ?_ | refine RunC.region ?_ | refine RunC.block ?_ | refine RunC.skip ?_ | refine RunC.exit ?_ | refine RunC.ret ?_ | refine O.one0 ?_ | refine C.nextB ?_ | refine C.exit2 ?_ | refine C.exitB ?_ | refine C.retB ?_ | refine C.ret2 ?_ | refine loopQ.exit ?_ | refine loopQ.ret ?_ | refine C.exitN (by decide) ?_ | refine O.howT (XOp.mkIndexSl (by omega)) ?_ | refine O.howT (XOp.mkIndexArr (by omega)) ?_ | refine O.howT (XOp.addI (by omega)) ?_ | refine O.howT (XOp.subI (by omega)) ?_ | refine O.oneT ?_ | refine O.skT ?_ | refine O.skF ?_ | refine O.skU ?_ | refine C.ifT ?_ | refine C.ifF ?_ | refine B.ret ?_ | refine B.end ?_ | refine O.how (XOp.mkIndexArr (by omega)) ?_ | refine O.how (XOp.mkIndexSl (by omega)) ?_)
  refine ⟨h'.n, _, rfl, hn, hnew, .mk' ⟨by omega, hs, by simp, by rw [Heap.get_push, if_pos rfl]; rfl, ho.keep (S := fun _ => False) Fr.refl.push fun _ _ => id, fun hi => ?_⟩, hf.push⟩
  have := ho.lt hi
  omega
end Go.Proofs.Ytmfaepkmiceoeaa.A
