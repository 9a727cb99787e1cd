/- Contracts of the document's header hash and of OverBytes. -/
import Derived.Test.YtcapkoclbmaahaaDW3k
import Derived.Test.YtcapkoclbmaahaaVK
namespace Go.Proofs.Ytcapkoclbmaahaa.A
open Go Go.Vm
set_option maxRecDepth 10000
set_option linter.unusedVariables false

theorem encS_lenC {x : Hd} (hx : x.ok) (hc : checkS x = 0) : 0 < (encS x).length ∧ (encS x).length < 1000 := by
  obtain ⟨c1, c2, c3⟩ := checkS_ok hc
  obtain ⟨d1, d2, d3⟩ := nameS_len c1
  have l1 := numF_len (n := x.chain.length) (by omega)
  have l2 := numF_len (n := x.height.toNat) (by omega)
  have l3 := numF_len (n := x.time.toNat) (by omega)
  have l4 := hx.prev
  have l5 := hx.vals
  have l6 := hx.next
  have l7 := hx.app
  unfold encS
  simp only [List.length_append]
  omega

theorem RHash6_ok {h : Heap} {x : Hd} (hx : x.ok) (hs : x.chain.length < 1048576) : Runs Try.prog T0 (.fn fn_landfallref06_Hash) [.agg ⟨x.cells⟩] h
    (fun r h' => r = .tuple ⟨[.agg ⟨bcells (if checkS x = 0 then sumS (72 :: encS x) else zb32)⟩, .int .i64 (checkS x)]⟩ ∧ Fr (fun _ => False) h h') (fun _ _ => False) := by
  haveI := l32 hx.prev
  haveI := l32 hx.vals
  haveI := l32 hx.next
  haveI := l32 hx.app
  refine landfallref06_Hash_runs ?_
  refine stp ?_
  refine O.call' (REncode_ok hx hs) (fun r h1 hr => ?_)
  obtain ⟨v, rfl, ho, hnew, hf⟩ := hr
  have hn1 := hf.n
  simp only [Heap.n_push] at hn1
  have hf1 : Fr (fun _ => False) h h1 := Fr.trans (S := fun _ => False) Fr.refl.push.push hf fun _ _ h => h
  haveI gO : HGet h1 (h.n + 1) (.cells z32 0) := hf.keep (b := h.n + 1) (HGet.new (h := h.push _)) (by simp) id
  haveI : BLt (h.n + 1) h1 := ⟨by omega⟩
  simp only [Heap.n_push]
  refine stp ?_
  refine C.ifN (fun he => ?_) (fun he => ?_)
  · refine stp ?_
    rw [if_neg he]
    exact ⟨rfl, Fr.set hf1 fun h => by omega⟩
  · rw [if_pos he] at ho ⊢
    have hel := encS_lenC hx he
    refine stp ?_
    refine O.appendLit (c := [.int .u8 72]) (by rw [cellsAt_of (c := [.int .u8 72]) (by rw [Heap.get_push, if_pos rfl]; rfl) (by simp)]; rfl) ((ho.rd.keep (S := fun _ => False) Fr.refl.push fun _ _ => id).new _) (by rw [bcells_len, Nat.mul_one]) (by omega) (by omega) (by omega) hel.1 (fun h2 ho2 hf2 hn2 => ?_)
    simp only [Heap.n_push] at ho2 hn2 ⊢
    have e1 : 1 + (encS x).length = (72 :: encS x).length := by simp; omega
    rw [e1] at ho2 ⊢
    refine stp ?_
    refine O.call' (Sum_okD (l := 72 :: encS x) ho2.rd (by simp) (by simp; omega)) (fun r h3 hr => ?_)
    obtain ⟨rfl, hf3⟩ := hr
    have hn3 := hf3.n
    have hsl := sumS_len (72 :: encS x)
    haveI : L32 (bcells (sumS (72 :: encS x))) := ⟨by rw [bcells_len, hsl]⟩
    have f13 : Fr (fun _ => False) h1 h3 := Fr.trans (S := fun _ => False) Fr.refl.push (hf2.trans' hf3) fun _ _ h => h
    haveI := f13.keep gO (by omega) id
    haveI : BLt (h.n + 1) h3 := ⟨by omega⟩
    rw [he]
    refine stp ?_
    exact ⟨rfl, Fr.set (Fr.trans (S := fun _ => False) hf1 f13 fun _ _ h => h) fun h => by omega⟩

def u8of (n : Int) : UInt8 := UInt8.ofNat (IntKind.u8.wrap n).toNat
theorem u8of_eq (n : Int) : IntKind.u8.wrap n = ((u8of n).toNat : Nat) := by
  unfold u8of
  rw [wrap_u8, UInt8.toNat_ofNat']
  omega
theorem over_pre : ∀ (l m : List Value) (k : Nat) (v : Value), k < l.length → over (l ++ m) k [v] = over l k [v] ++ m
  | [], _, _, _, h => by simp at h
  | a :: l, m, 0, v, _ => by
    show v :: over (l ++ m) 0 [] = (v :: over l 0 []) ++ m
    rw [over_nil, over_nil]; rfl
  | a :: l, m, k + 1, v, h => by
    show a :: over (l ++ m) k [v] = (a :: over l k [v]) ++ m
    rw [over_pre l m k v (by simpa using h)]; rfl
theorem lget_pre : ∀ (l m : List Value) (k : Nat), k < l.length → lget (l ++ m) k = lget l k
  | [], _, _, h => by simp at h
  | a :: l, m, 0, _ => rfl
  | a :: l, m, k + 1, h => lget_pre l m k (by simpa using h)
theorem byte_cell {h : Heap} {q es k : Nat} {l : List UInt8} {j : List Value} (hg : h.get q = .cells (bcells l ++ j) es) (hk : k < l.length) : Cell h q k (.int .u8 ((l.getD k 0).toNat : Nat)) := ⟨by
  rw [cellsAt_of (c := bcells l ++ j) (by rw [hg]; rfl) (by simp [bcells_len]; omega), take_one _ _ (by simp [bcells_len]; omega), lget_pre _ _ _ (by rw [bcells_len]; exact hk), (bcells_get hk).eq]⟩
theorem byte_put {h : Heap} {q es k : Nat} {l : List UInt8} {j : List Value} (hg : h.get q = .cells (bcells l ++ j) es) (hk : k < l.length) (n : Int) : Put h q k [.int .u8 (IntKind.u8.wrap n)] (h.set q (.cells (bcells (l.set k (u8of n)) ++ j) es)) := ⟨by
  simp only [putAt, hg]
  rw [if_pos ⟨by simp [bcells_len]; omega, rfl⟩, over_pre _ _ _ _ (by rw [bcells_len]; exact hk), u8of_eq, bcells_set hk]⟩

theorem OverBytes_ok {h : Heap} {v : Value} {l : List UInt8} {n : Nat} (ho : Own h 1 v (bcells l) n) (hs : n < 1048576) : Runs Try.prog T0 (.fn fn_landfallkit_OverBytes) [v] h
    (fun r h' => Fr (ownedBy v) h h') (fun _ _ => False) := by
  have hlen := ho.len
  rw [bcells_len, Nat.mul_one] at hlen
  refine landfallkit_OverBytes_runs ?_
  refine stp ?_
  have hsl : ∃ a cap, v = .slice a n cap ∧ (0 < n → ∃ q k, a = some ⟨q, 0, some k⟩) := by
    clear hlen
    generalize bcells l = c at ho
    cases ho with
    | none => exact ⟨_, _, rfl, fun h => by omega⟩
    | lit _ _ => exact ⟨_, _, rfl, fun h => by omega⟩
    | grown _ _ _ _ _ _ => exact ⟨_, _, rfl, fun _ => ⟨_, _, rfl⟩⟩
  have hin : ∃ j es, ∀ q k cap, v = .slice (some ⟨q, 0, some k⟩) n cap → q < h.n ∧ h.get q = .cells (bcells l ++ j) es := by
    clear hlen hsl
    generalize bcells l = c at ho
    cases ho with
    | none => exact ⟨[], 0, fun q k cap h => by cases h⟩
    | lit _ _ => exact ⟨[], 0, fun q k cap h => by cases h⟩
    | grown hq _ _ _ _ hg => exact ⟨_, _, fun q k cap h => by cases h; exact ⟨hq, hg⟩⟩
  obtain ⟨a, cap, rfl, ha⟩ := hsl
  obtain ⟨j, es, hin⟩ := hin
  refine landfallkit_OverBytes_l0_rule (fun m v2 h' => ∃ k : Nat, k ≤ n ∧ m = n - k ∧ v2 = .int .i64 k ∧ (∃ l' : List UInt8, l'.length = n ∧ ∀ q s, a = some ⟨q, 0, some s⟩ → h'.get q = .cells (bcells l' ++ j) es) ∧ Fr (ownedBy (.slice a n cap)) h h') ?_ n ⟨0, by omega, rfl, rfl, ⟨l, hlen, fun q s e => by subst e; exact (hin q s cap rfl).2⟩, Fr.refl⟩
  rintro m v2 h' x3 x4 x5 x6 x7 x8 x9 x10 x11 x12 x13 x14 x15 x16 ⟨k, hk, rfl, rfl, ⟨l', hl', hg⟩, hf⟩
  refine stp ?_
  refine C.if (fun hlt => ?_) (fun hge => ?_)
  · have hk : k < n := by omega
    obtain ⟨q, s, rfl⟩ := ha (by omega)
    have hgq := hg q s rfl
    have hq := (hin q s cap rfl).1
    haveI := byte_cell hgq (k := k) (by omega)
    haveI := byte_put hgq (k := k) (by omega)
    haveI : BLt q h' := ⟨hf.lt hq⟩
    have hw : ∀ z : UInt8, (l'.set k z).length = n := fun z => by rw [List.length_set]; exact hl'
    refine stp ?_
    refine O.how XOp.xorI ?_
    refine stp ?_
    refine landfallkit_OverBytes_l0_again (n - (k + 1)) (by omega) ⟨k + 1, by omega, rfl, rfl, ⟨_, hw _, fun q' s' e => by cases e; rw [Heap.get_set, if_pos rfl]⟩, hf.set fun _ => rfl⟩
  · refine stp ?_
    exact hf
end Go.Proofs.Ytcapkoclbmaahaa.A
