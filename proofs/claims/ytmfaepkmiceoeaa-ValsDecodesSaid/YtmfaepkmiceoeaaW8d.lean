/- Contracts of the program's reader of bytes (wire), 8: made, ended. -/
import Derived.Test.YtmfaepkmiceoeaaW7d
namespace Go.Proofs.Ytmfaepkmiceoeaa.A
open Go Go.Vm
set_option maxRecDepth 10000
set_option linter.unusedVariables false

/-- NewReader -/
theorem NewReader_ok {h : Heap} {v : Value} {l : List UInt8} (hr : Rd h 1 v (bcells l) l.length) (hs : l.length < 1048576) :
    Runs Try.prog T0 (.fn fn_wire_NewReader) [v] h (fun r h' => ∃ p sv, r = .pointer (some ⟨p, 0, none⟩) ∧ h.n ≤ p ∧ (∀ i, ownedBy sv i → h.n ≤ i) ∧ PRs h' p sv l ⟨0, 0, 0⟩ ∧ Fr (fun _ => False) h h') (fun _ _ => False) := by
  refine wire_NewReader_runs ?_
  repeat (first | refine O.how (XOp.addI (by omega)) ?_ | refine O.how (XOp.subI (by omega)) ?_ | refine O.how (XOp.convI (by omega)) ?_ | refine O.how (XOp.convU64 (by omega)) ?_ | refine O.how (XOp.convU8 (by omega)) ?_ | refine O.one ?_ | refine O.nil ?_ | refine C.next ?_ | refine RunC.seq ?_ | refine RunC.region ?_ | refine RunC.block ?_ | refine RunC.skip ?_ | refine RunC.exit ?_ | refine RunC.ret ?_ | refine RunC.regionD ?_ | refine D.how (XOp.addI (by omega)) rfl ?_ | refine D.how (XOp.subI (by omega)) rfl ?_ | refine D.how (XOp.convI (by omega)) rfl ?_ | refine D.one rfl ?_ | refine D.nil ?_ | refine O.one0 ?_ | refine D.one0 rfl ?_ | refine D.one0s ?_ | refine C.nextB ?_ | refine C.exit2 ?_ | refine C.exitB ?_ | refine C.retB ?_ | refine C.ret2 ?_ | refine loopQ.exit ?_ | refine loopQ.ret ?_ | refine C.exitN (by decide) ?_ | refine O.howT (XOp.mkIndexSl (by omega)) ?_ | refine O.howT (XOp.mkIndexArr (by omega)) ?_ | refine O.howT (XOp.addI (by omega)) ?_ | refine O.howT (XOp.subI (by omega)) ?_ | refine O.oneT ?_ | refine O.skT ?_ | refine O.skF ?_ | refine O.skU ?_ | refine D.howT (XOp.addI (by omega)) rfl ?_ | refine D.howT (XOp.subI (by omega)) rfl ?_ | refine D.oneT rfl ?_ | refine D.skT rfl ?_ | refine D.skF rfl ?_ | refine D.skU rfl ?_ | refine C.ifT ?_ | refine C.ifF ?_ | refine B.ret ?_ | refine B.deferred ?_ | refine B.deferredP ?_ | refine O.defer0 ?_ | refine B.end ?_ | refine O.panic ?_ | refine C.pan2 ?_ | refine C.panB ?_ | refine loopQ.panic ?_ | refine B.panic ?_ | refine O.how (XOp.mkIndexArr (by omega)) ?_ | refine O.how (XOp.mkIndexSl (by omega)) ?_ | refine D.how (XOp.mkIndexArr (by omega)) rfl ?_ | refine D.how (XOp.mkIndexSl (by omega)) rfl ?_)
  refine O.call' (Clone_ok hr hs) (fun r h1 hq => ?_)
  obtain ⟨ho, hf, hnew⟩ := hq
  obtain ⟨a, cap, rfl, hlen, _⟩ := ho.rd
  have hn := hf.n
  repeat (first | refine O.how (XOp.addI (by omega)) ?_ | refine O.how (XOp.subI (by omega)) ?_ | refine O.how (XOp.convI (by omega)) ?_ | refine O.how (XOp.convU64 (by omega)) ?_ | refine O.how (XOp.convU8 (by omega)) ?_ | refine O.one ?_ | refine O.nil ?_ | refine C.next ?_ | refine RunC.seq ?_ | refine RunC.region ?_ | refine RunC.block ?_ | refine RunC.skip ?_ | refine RunC.exit ?_ | refine RunC.ret ?_ | refine RunC.regionD ?_ | refine D.how (XOp.addI (by omega)) rfl ?_ | refine D.how (XOp.subI (by omega)) rfl ?_ | refine D.how (XOp.convI (by omega)) rfl ?_ | refine D.one rfl ?_ | refine D.nil ?_ | refine O.one0 ?_ | refine D.one0 rfl ?_ | refine D.one0s ?_ | refine C.nextB ?_ | refine C.exit2 ?_ | refine C.exitB ?_ | refine C.retB ?_ | refine C.ret2 ?_ | refine loopQ.exit ?_ | refine loopQ.ret ?_ | refine C.exitN (by decide) ?_ | refine O.howT (XOp.mkIndexSl (by omega)) ?_ | refine O.howT (XOp.mkIndexArr (by omega)) ?_ | refine O.howT (XOp.addI (by omega)) ?_ | refine O.howT (XOp.subI (by omega)) ?_ | refine O.oneT ?_ | refine O.skT ?_ | refine O.skF ?_ | refine O.skU ?_ | refine D.howT (XOp.addI (by omega)) rfl ?_ | refine D.howT (XOp.subI (by omega)) rfl ?_ | refine D.oneT rfl ?_ | refine D.skT rfl ?_ | refine D.skF rfl ?_ | refine D.skU rfl ?_ | refine C.ifT ?_ | refine C.ifF ?_ | refine B.ret ?_ | refine B.deferred ?_ | refine B.deferredP ?_ | refine O.defer0 ?_ | refine B.end ?_ | refine O.panic ?_ | refine C.pan2 ?_ | refine C.panB ?_ | refine loopQ.panic ?_ | refine B.panic ?_ | refine O.how (XOp.mkIndexArr (by omega)) ?_ | refine O.how (XOp.mkIndexSl (by omega)) ?_ | refine D.how (XOp.mkIndexArr (by omega)) rfl ?_ | refine D.how (XOp.mkIndexSl (by omega)) rfl ?_)
  refine ⟨h1.n, _, rfl, hn, hnew, .mk' ⟨by omega, hs, by simp, by rw [Heap.get_push, if_pos rfl]; rfl, ho.keep (S := fun _ => False) Fr.refl.push fun _ _ => id, fun hi => ?_⟩, hf.push⟩
  have := ho.lt hi
  omega

/-- how a reading ended: the error, and where -/
def endS (bs : List UInt8) (st : RSt) : Int × Int := if st.e = 0 ∧ st.pl < bs.length then (4, st.pl) else (st.e, st.fa)

theorem End_run {h : Heap} {p : Nat} {sv : Value} {bs : List UInt8} {st : RSt} (hp : PRs h p sv bs st) :
    Runs Try.prog T0 (.fn fn_wire_Reader_End) [.pointer (some ⟨p, 0, none⟩)] h (fun r h' => r = .agg ⟨[.int .i64 (endS bs st).1, .int .i64 (endS bs st).2]⟩ ∧ Fr (fun _ => False) h h') (fun _ _ => False) := by
  obtain ⟨pl, h1, h2⟩ := hp.ex
  refine (End_ok h2).imp fun r h' ⟨hr, hf⟩ => ⟨?_, hf⟩
  rw [hr]
  unfold endS
  by_cases he : st.e = 0
  · rw [(h1 he).1]
    split <;> rfl
  · rw [if_neg (fun h => he h.1), if_neg (fun h => he h.1)]
end Go.Proofs.Ytmfaepkmiceoeaa.A
