/- Contracts of the document's headers (landfallref06), 1: names, checks. -/
import Derived.Test.YtcapkoclbmaahaaHH1k
import Derived.Test.YtcapkoclbmaahaaVJ
import Derived.Test.YtcapkoclbmaahaaVK
namespace Go.Proofs.Ytcapkoclbmaahaa.A
open Go Go.Vm
set_option maxRecDepth 10000
set_option linter.unusedVariables false

theorem under9 : Try.prog.underlying 9 = some .string := by kernel_rfl

theorem all_take {l : List UInt8} {k : Nat} (hk : k < l.length) (ha : (l.take k).all plainB = true) (hb : plainP ((l.getD k 0).toNat : Nat)) : (l.take (k + 1)).all plainB = true := by
  rw [take_succ_getD hk, List.all_append, ha]
  simp only [List.all_cons, List.all_nil, Bool.and_true, Bool.true_and]
  exact decide_eq_true hb
theorem all_not {l : List UInt8} {k : Nat} (hk : k < l.length) (hb : ¬ plainP ((l.getD k 0).toNat : Nat)) : nameS l = false := by
  have : l.all plainB = false := by
    refine List.all_eq_false.2 ⟨l.getD k 0, ?_, ?_⟩
    · rw [List.getD_eq_getElem?_getD, List.getElem?_eq_getElem hk]
      exact List.getElem_mem hk
    · intro h
      exact hb (of_decide_eq_true h)
  unfold nameS
  rw [this]
  simp

set_option maxHeartbeats 2000000 in
theorem RName_ok {h : Heap} {l : List UInt8} (hs : l.length < 1048576) : Runs Try.prog T0 (.fn fn_landfallref06_Name) [.string ⟨⟨l⟩⟩] h (fun r h' => r = .bool (nameS l) ∧ h' = h) (fun _ _ => False) := by
  have hsz : (ByteArray.mk ⟨l⟩).size = l.length := rfl
  refine landfallref06_Name_runs ?_
  refine stpDP ?_
  refine landfallref06_Name_l0_rule (fun m v3 h' => ∃ k : Nat, k ≤ l.length ∧ m = l.length - k ∧ v3 = .int .i64 k ∧ (l.take k).all plainB = true ∧ h = h') ?_ l.length ⟨0, by omega, rfl, rfl, by simp, rfl⟩
  rintro m v3 h' x2 x4 x5 x6 x7 x8 x9 x10 x11 x12 x13 x14 x15 x16 x17 x18 x19 x20 x21 x22 x23 x24 x25 x26 x27 x28 x29 x30 x31 ⟨k, hk, rfl, rfl, hall, rfl⟩
  refine stpDP ?_
  refine C.if (fun hlt => ?_) (fun hge => ?_)
  · rw [hsz] at hlt
    have hk' : k < l.length := by omega
    refine stpDP ?_
    refine O.how (XOp.mkIndexStr (l := l) (k := k) under9 rfl hk') ?_
    have hgood : ∀ {hp : plainP ((l.getD k 0).toNat : Nat)}, (l.take (k + 1)).all plainB = true := fun {hp} => all_take hk' hall hp
    have hbad : ¬ plainP ((l.getD k 0).toNat : Nat) → Value.bool false = .bool (nameS l) := fun hp => by rw [all_not hk' hp]
    generalize hb : (((l.getD k 0).toNat : Nat) : Int) = b at *
    unfold plainP at hbad hgood
    refine stpDP ?_
    refine O.dec (fun h1 => ?_) (fun h1 => ?_)
    · refine stpDP ?_
      refine O.dec (fun h3 => ?_) (fun h3 => ?_)
      · refine stpDP ?_
        refine C.ifN (fun h5 => ?_) (fun h5 => ?_)
        · refine stpDP ?_
          exact ⟨hbad (by omega), rfl⟩
        · refine stpDP ?_
          exact landfallref06_Name_l0_again (l.length - (k + 1)) (by omega) ⟨k + 1, by omega, rfl, rfl, hgood (hp := by omega), rfl⟩
      · refine stpDP ?_
        refine O.dec (fun h4 => ?_) (fun h4 => ?_)
        · refine stpDP ?_
          refine C.ifN (fun h5 => ?_) (fun h5 => ?_)
          · refine stpDP ?_
            exact ⟨hbad (by omega), rfl⟩
          · exfalso; omega
        · refine stpDP ?_
          exact landfallref06_Name_l0_again (l.length - (k + 1)) (by omega) ⟨k + 1, by omega, rfl, rfl, hgood (hp := by omega), rfl⟩
    · refine stpDP ?_
      refine O.dec (fun h2 => ?_) (fun h2 => ?_)
      · refine stpDP ?_
        refine O.dec (fun h3 => ?_) (fun h3 => ?_)
        · exfalso; omega
        · refine stpDP ?_
          refine O.dec (fun h4 => ?_) (fun h4 => ?_)
          · refine stpDP ?_
            refine C.ifN (fun h5 => ?_) (fun h5 => ?_)
            · refine stpDP ?_
              exact ⟨hbad (by omega), rfl⟩
            · exfalso; omega
          · exfalso; omega
      · refine stpDP ?_
        exact landfallref06_Name_l0_again (l.length - (k + 1)) (by omega) ⟨k + 1, by omega, rfl, rfl, hgood (hp := by omega), rfl⟩
  · rw [hsz] at hge
    obtain rfl : k = l.length := by omega
    rw [List.take_length] at hall
    unfold nameS
    rw [hall]
    refine stpDP ?_
    refine O.dec (fun h1 => ?_) (fun h1 => ?_)
    · refine stpDP ?_
      rw [hsz] at h1
      rw [hsz, decide_eq_true (show 1 ≤ l.length by omega)]
      refine ⟨?_, rfl⟩
      simp only [Bool.true_and, Bool.and_true]
      congr 1
      exact decide_eq_decide.2 (by omega)
    · refine stpDP ?_
      rw [hsz] at h1
      rw [decide_eq_false (show ¬ 1 ≤ l.length by omega)]
      exact ⟨by simp, rfl⟩

set_option maxHeartbeats 2000000 in
theorem RCheck_ok {h : Heap} {x : Hd} (hx : x.ok) (hs : x.chain.length < 1048576) : Runs Try.prog T0 (.fn fn_landfallref06_Check) [.agg ⟨x.cells⟩] h (fun r h' => r = .int .i64 (checkS x) ∧ Fr (fun _ => False) h h') (fun _ _ => False) := by
  haveI := l32 hx.prev
  haveI := l32 hx.vals
  haveI := l32 hx.next
  haveI := l32 hx.app
  refine landfallref06_Check_runs ?_
  refine stpDP ?_
  refine O.call' (RName_ok hs) (fun r h1 hr => ?_)
  obtain ⟨rfl, rfl⟩ := hr
  unfold checkS
  refine stpDP ?_
  refine C.ifB (fun h1 => ?_) (fun h1 => ?_)
  · refine stpDP ?_
    rw [if_pos (by simpa using h1)]
    exact ⟨rfl, Fr.refl.push⟩
  · have hn : nameS x.chain = true := by simpa using h1
    rw [if_neg (by rw [hn]; simp)]
    refine stpDP ?_
    refine O.dec (fun h1 => ?_) (fun h1 => ?_)
    · refine stpDP ?_
      rw [if_pos (by omega)]
      exact ⟨rfl, Fr.refl.push⟩
    · refine stpDP ?_
      refine O.dec (fun h2 => ?_) (fun h2 => ?_)
      · refine stpDP ?_
        rw [if_pos (by omega)]
        exact ⟨rfl, Fr.refl.push⟩
      · refine stpDP ?_
        rw [if_neg (by omega)]
        refine O.dec (fun h3 => ?_) (fun h3 => ?_)
        · refine stpDP ?_
          rw [if_pos (by omega)]
          exact ⟨rfl, Fr.refl.push⟩
        · refine stpDP ?_
          refine C.if (fun h4 => ?_) (fun h4 => ?_)
          · refine stpDP ?_
            rw [if_pos (by omega)]
            exact ⟨rfl, Fr.refl.push⟩
          · refine stpDP ?_
            rw [if_neg (by omega)]
            exact ⟨rfl, Fr.refl.push⟩
end Go.Proofs.Ytcapkoclbmaahaa.A
