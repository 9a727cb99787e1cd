/- A small machine over an abstract heap: Go's == on structs and arrays, told; bytes that are zero. -/
import Derived.Test.YtoadcfjkkoemdaaVm41
set_option linter.unusedSimpArgs false
set_option linter.unusedVariables false
namespace Go.Vm

section
variable {P : Program}

/-- are two the same? -/
noncomputable def same (a b : List Value) : Bool := @decide (a = b) (Classical.propDecidable _)
theorem same_eq {a b : List Value} : same a b = true ↔ a = b := by unfold same; simp
theorem same_ne {a b : List Value} : same a b = false ↔ a ≠ b := by unfold same; simp
theorem same_self (a : List Value) : same a a = true := same_eq.2 rfl

theorem mapM_cons_some {α β : Type} {f : α → Option β} {a : α} {l : List α} {r : List β} (h : (a :: l).mapM f = some r) : ∃ b r', f a = some b ∧ l.mapM f = some r' ∧ r = b :: r' := by
  rw [List.mapM_cons] at h
  obtain ⟨b, h1, h2⟩ := Option.bind_eq_some_iff.1 h
  obtain ⟨r', h3, h4⟩ := Option.bind_eq_some_iff.1 h2
  exact ⟨b, r', h1, h3, by simpa using h4.symm⟩

def aggD : TypeDesc → Bool
  | .struct _ | .array _ _ => true
  | _ => false
theorem isAggT_eq {t : TypeId} {d : TypeDesc} (hu : P.underlying t = some d) : isAggT P t = aggD d := by
  unfold isAggT; rw [hu]; cases d <;> rfl

theorem flatten_replicate_len (n : Nat) (l : List LK) : (List.replicate n l).flatten.length = n * l.length := by simp

theorem lay_len {m : Nat} (hm : ∀ t tl, leaves P m t = some tl → tl.length = P.cellsOf t) : ∀ (fs : List Field) (off tot : Nat) (tls : List (List LK)), layFrom P fs off = some tot → fs.mapM (fun f => leaves P m f.type) = some tls → off + tls.flatten.length = tot := by
  intro fs
  induction fs with
  | nil => intro off tot tls h1 h2; cases h1; simp at h2; subst h2; simp
  | cons f fs ihf =>
    intro off tot tls h1 h2
    obtain ⟨tl, tls', h3, h4, rfl⟩ := mapM_cons_some h2
    unfold layFrom at h1
    split at h1
    · have := ihf _ _ _ h1 h4
      have h5 := hm _ _ h3
      simp only [List.flatten_cons, List.length_append]
      omega
    · cases h1

theorem leaves_ok : ∀ (m : Nat) (t : TypeId) (tl : List LK), leaves P m t = some tl → tl.length = P.cellsOf t ∧ (isAggT P t = false → P.cellsOf t = 1) ∧ (P.info? t).isSome ∧ ∃ d, P.underlying t = some d := by
  intro m
  induction m with
  | zero => intro t tl h; cases h
  | succ m ih =>
    intro t tl h
    unfold leaves at h
    unfold isAggT
    cases hu : P.underlying t with
    | none => rw [hu] at h; cases h
    | some d =>
      rw [hu] at h
      cases d with
      | bool =>
        simp only at h
        split at h
        · rename_i hc; cases h; exact ⟨by simp [hc.1], fun _ => hc.1, hc.2, _, rfl⟩
        · cases h
      | int k =>
        simp only at h
        split at h
        · rename_i hc; cases h; exact ⟨by simp [hc.1], fun _ => hc.1, hc.2, _, rfl⟩
        · cases h
      | string =>
        simp only at h
        split at h
        · rename_i hc; cases h; exact ⟨by simp [hc.1], fun _ => hc.1, hc.2, _, rfl⟩
        · cases h
      | struct fs =>
        simp only at h
        split at h
        · rename_i hc
          obtain ⟨tls, h1, rfl⟩ := Option.map_eq_some_iff.1 h
          refine ⟨?_, fun hx => (by cases hx), hc.2.1, _, rfl⟩
          have := lay_len (fun t tl h => (ih t tl h).1) _ _ _ _ hc.2.2.2 h1
          omega
        · cases h
      | array n e =>
        simp only at h
        split at h
        · rename_i hc
          obtain ⟨l, h1, rfl⟩ := Option.map_eq_some_iff.1 h
          refine ⟨?_, fun hx => (by cases hx), hc.2, _, rfl⟩
          rw [flatten_replicate_len, (ih _ _ h1).1, hc.1]
        · cases h
      | _ => cases h

theorem KLp.head {tl rest : List LK} {cs : List Value} {n : Nat} (h : KLp (tl ++ rest) cs) (hn : tl.length = n) : KLp tl (cs.take n) ∧ KLp rest (cs.drop n) := by
  constructor
  · have := h.take n
    rw [← hn, List.take_left'] at this
    · rw [← hn]; exact this
    · rfl
  · have := h.drop n
    rw [← hn, List.drop_left'] at this
    · rw [← hn]; exact this
    · rfl

theorem split_eq {a b : List Value} (n : Nat) : a = b ↔ a.take n = b.take n ∧ a.drop n = b.drop n :=
  ⟨fun h => by subst h; exact ⟨rfl, rfl⟩, fun ⟨h1, h2⟩ => by rw [← List.take_append_drop n a, ← List.take_append_drop n b, h1, h2]⟩

theorem eq_leaves : ∀ (m : Nat) (t : TypeId) (tl : List LK), leaves P m t = some tl → ∀ (k : Nat) (cs cs' : List Value), KLp tl cs → KLp tl cs' → pr P (Op.equalIn (m + k) t (valT P t cs) (valT P t cs')) = some (.ok (same cs cs')) := by
  intro m
  induction m with
  | zero => intro t tl h; cases h
  | succ m ih =>
    intro t tl h k cs cs' hk hk'
    have hok := leaves_ok (m + 1) t tl h
    rw [show m + 1 + k = (m + k) + 1 from by omega]
    unfold leaves at h
    have val : ∀ cs, valT P t cs = if isAggT P t then .agg ⟨cs⟩ else lget cs 0 := fun _ => rfl
    rw [val, val]
    cases hu : P.underlying t with
    | none => rw [hu] at h; cases h
    | some d =>
      rw [isAggT_eq hu]
      rw [hu] at h
      cases d with
      | bool =>
        simp only at h
        split at h
        · cases h
          match cs, cs', hk, hk' with
          | [.bool a], [.bool b], _, _ =>
            simp only [aggD, lget, Op.equalIn, pr_bindE, pr_underlying hu, pr_pure, Bool.false_eq_true, if_false]
            congr 2
            by_cases e : a = b
            · subst e; rw [same_self]; simp
            · rw [same_ne.2 (by simpa using e)]; simpa using e
        · cases h
      | int q =>
        simp only at h
        split at h
        · cases h
          match cs, cs', hk, hk' with
          | [.int q1 a], [.int q2 b], h1, h2 =>
            obtain ⟨rfl, _⟩ := h1
            obtain ⟨h2, _⟩ := h2
            have h2 : q2 = q1 := h2
            subst h2
            simp only [aggD, lget, Op.equalIn, pr_bindE, pr_underlying hu, pr_pure, if_true, Bool.false_eq_true, if_false]
            congr 2
            by_cases e : a = b
            · subst e; rw [same_self]; simp
            · rw [same_ne.2 (by simpa using e)]; simpa using e
        · cases h
      | string =>
        simp only at h
        split at h
        · cases h
          match cs, cs', hk, hk' with
          | [.string a], [.string b], _, _ =>
            simp only [aggD, lget, Op.equalIn, pr_bindE, pr_underlying hu, pr_pure, Bool.false_eq_true, if_false]
            congr 2
            rw [beq_toListBytes, ByteArray.toList_eq, ByteArray.toList_eq]
            by_cases e : a = b
            · subst e; rw [same_self]; simp
            · rw [same_ne.2 (by simpa using e)]
              obtain ⟨⟨x⟩⟩ := a
              obtain ⟨⟨y⟩⟩ := b
              simpa using e
        · cases h
      | struct fs =>
        simp only at h
        split at h
        · rename_i hc
          obtain ⟨tls, h1, rfl⟩ := Option.map_eq_some_iff.1 h
          simp only [aggD, if_true]
          rw [pr_eqStruct _ _ _ hu hc.1]
          have key : ∀ (fs : List Field) (off tot : Nat) (tls : List (List LK)), layFrom P fs off = some tot → fs.mapM (fun f => leaves P m f.type) = some tls → fs.all (fun f => f.name != "_") = true → cs.length = tot → cs'.length = tot →
              KLp tls.flatten (cs.drop off) → KLp tls.flatten (cs'.drop off) → pr P (Op.eqFields (m + k) ⟨cs⟩ ⟨cs'⟩ fs) = some (.ok (same (cs.drop off) (cs'.drop off))) := by
            intro fs
            induction fs with
            | nil =>
              intro off tot tls h1 h2 _ hl hl' _ _
              cases h1
              rw [List.drop_eq_nil_of_le (by omega), List.drop_eq_nil_of_le (by omega), same_self]
              rfl
            | cons f fs ihf =>
              intro off tot tls h1 h2 hn hl hl' hK hK'
              obtain ⟨tl, tls', h3, h4, rfl⟩ := mapM_cons_some h2
              simp only [List.all_cons, Bool.and_eq_true, bne_iff_ne, ne_eq] at hn
              obtain ⟨hlen, hone, hinfo, d, hd⟩ := leaves_ok _ _ _ h3
              unfold layFrom at h1
              split at h1
              · rename_i hoff
                rw [List.flatten_cons] at hK hK'
                have a1 := hK.head hlen
                have a2 := hK'.head hlen
                have htot := lay_len (fun t tl h => (leaves_ok m t tl h).1) _ _ _ _ h1 h4
                have hfit : off + P.cellsOf f.type ≤ cs.length := by omega
                have hfit' : off + P.cellsOf f.type ≤ cs'.length := by omega
                simp only [Op.eqFields]
                rw [if_pos hn.1, pr_bindE, hoff, pr_part hd hinfo hfit hone]
                simp only [pr_bindE, pr_part hd hinfo hfit' hone, ih _ _ h3 k _ _ a1.1 a2.1]
                by_cases e : (cs.drop off).take (P.cellsOf f.type) = (cs'.drop off).take (P.cellsOf f.type)
                · rw [same_eq.2 e]
                  simp only [Bool.not_true, Bool.false_eq_true, if_false]
                  rw [ihf _ _ _ h1 h4 hn.2 hl hl' (by rw [← List.drop_drop]; exact a1.2) (by rw [← List.drop_drop]; exact a2.2)]
                  congr 2
                  rw [← List.drop_drop, ← List.drop_drop]
                  by_cases e2 : (cs.drop off).drop (P.cellsOf f.type) = (cs'.drop off).drop (P.cellsOf f.type)
                  · rw [same_eq.2 e2, same_eq.2 ((split_eq (P.cellsOf f.type)).2 ⟨e, e2⟩)]
                  · rw [same_ne.2 e2, same_ne.2 fun h => e2 ((split_eq (P.cellsOf f.type)).1 h).2]
                · rw [same_ne.2 e]
                  simp only [Bool.not_false, if_true, pr_pure]
                  rw [same_ne.2 fun h => e ((split_eq (P.cellsOf f.type)).1 h).1]
              · cases h1
          have hl := hk.length
          have hl' := hk'.length
          rw [hok.1] at hl hl'
          have := key _ _ _ _ hc.2.2.2 h1 hc.2.2.1 hl hl' hk hk'
          simpa using this
        · cases h
      | array n e =>
        simp only at h
        split at h
        · rename_i hc
          obtain ⟨l, h1, rfl⟩ := Option.map_eq_some_iff.1 h
          obtain ⟨hlen, hone, hinfo, d, hd⟩ := leaves_ok _ _ _ h1
          simp only [aggD, if_true]
          rw [pr_eqArray _ _ _ hu hinfo]
          have hl := hk.length
          have hl' := hk'.length
          rw [hok.1, hc.1] at hl hl'
          have key : ∀ (j s : Nat), s + j = n → KLp (List.replicate j l).flatten (cs.drop (s * P.cellsOf e)) → KLp (List.replicate j l).flatten (cs'.drop (s * P.cellsOf e)) →
              pr P (eqElems (m + k) e (P.cellsOf e) ⟨cs⟩ ⟨cs'⟩ (List.range' s j)) = some (.ok (same (cs.drop (s * P.cellsOf e)) (cs'.drop (s * P.cellsOf e)))) := by
            intro j
            induction j with
            | zero =>
              intro s hs _ _
              have : s * P.cellsOf e = n * P.cellsOf e := by rw [show s = n from by omega]
              rw [List.drop_eq_nil_of_le (by omega), List.drop_eq_nil_of_le (by omega), same_self]
              rfl
            | succ j ihj =>
              intro s hs hK hK'
              rw [List.replicate_succ, List.flatten_cons] at hK hK'
              have a1 := hK.head hlen
              have a2 := hK'.head hlen
              have hfit : s * P.cellsOf e + P.cellsOf e ≤ n * P.cellsOf e := by rw [← Nat.succ_mul]; exact Nat.mul_le_mul_right _ (by omega)
              rw [List.range'_succ]
              simp only [eqElems, pr_bindE, pr_part hd hinfo (show s * P.cellsOf e + P.cellsOf e ≤ cs.length by omega) hone, pr_part hd hinfo (show s * P.cellsOf e + P.cellsOf e ≤ cs'.length by omega) hone, ih _ _ h1 k _ _ a1.1 a2.1]
              by_cases e1 : (cs.drop (s * P.cellsOf e)).take (P.cellsOf e) = (cs'.drop (s * P.cellsOf e)).take (P.cellsOf e)
              · rw [same_eq.2 e1]
                simp only [Bool.not_true, Bool.false_eq_true, if_false]
                have hd : ∀ c : List Value, c.drop ((s + 1) * P.cellsOf e) = (c.drop (s * P.cellsOf e)).drop (P.cellsOf e) := fun c => by rw [List.drop_drop, Nat.succ_mul]
                rw [ihj (s + 1) (by omega) (by rw [hd]; exact a1.2) (by rw [hd]; exact a2.2), hd, hd]
                congr 2
                by_cases e2 : (cs.drop (s * P.cellsOf e)).drop (P.cellsOf e) = (cs'.drop (s * P.cellsOf e)).drop (P.cellsOf e)
                · rw [same_eq.2 e2, same_eq.2 ((split_eq (P.cellsOf e)).2 ⟨e1, e2⟩)]
                · rw [same_ne.2 e2, same_ne.2 fun h => e2 ((split_eq (P.cellsOf e)).1 h).2]
              · rw [same_ne.2 e1]
                simp only [Bool.not_false, if_true, pr_pure]
                rw [same_ne.2 fun h => e1 ((split_eq (P.cellsOf e)).1 h).1]
          have := key n 0 (by omega) (by simpa using hk) (by simpa using hk')
          rw [← List.range_eq_range'] at this
          simpa using this
        · cases h
      | _ => cases h

/-! ### Instances -/

/-- a struct's or an array's leaves, and that Go's == over it asks no interface -/
class TLeaves (P : Program) (t : TypeId) (tl : outParam (List LK)) : Prop where
  eq : leaves P 8 t = some tl
  agg : isAggT P t = true
  guard : P.eqGuardType P.depth t = false

class KL (tl : List LK) (l : List Value) : Prop where
  ok : KLp tl l
/-- so many bytes -/
def u8s (n : Nat) : List LK := List.replicate n (.i .u8)
class BLen (l : List Value) (n : Nat) : Prop where
  ok : KLp (u8s n) l
theorem klp_bcells : ∀ (l : List UInt8), KLp (u8s l.length) (bcells l)
  | [] => trivial
  | _ :: l => ⟨rfl, klp_bcells l⟩
instance (priority := low) BLen.b32 {l : List UInt8} [k : L32 (bcells l)] : BLen (bcells l) 32 := ⟨by have := k.eq; simp [bcells] at this; rw [← this]; exact klp_bcells l⟩
instance (priority := low) BLen.b4 {l : List UInt8} [k : L4 (bcells l)] : BLen (bcells l) 4 := ⟨by have := k.eq; simp [bcells] at this; rw [← this]; exact klp_bcells l⟩
instance : KL [] [] := ⟨trivial⟩
section
variable {tl : List LK} {l p : List Value} {k : IntKind} {n : Int} {s : ByteArray} {b : Bool}
instance [h : KL tl l] : KL (.i k :: tl) (.int k n :: l) := ⟨rfl, h.ok⟩
instance [h : KL tl l] : KL (.s :: tl) (.string s :: l) := ⟨trivial, h.ok⟩
instance [h : KL tl l] : KL (.b :: tl) (.bool b :: l) := ⟨trivial, h.ok⟩
instance (priority := high) {n : Nat} [h : BLen p n] [j : KL tl l] : KL (u8s n ++ tl) (p ++ l) := ⟨h.ok.append j.ok⟩
instance (priority := high) {n : Nat} [h : BLen p n] : KL (u8s n) p := ⟨h.ok⟩
instance {a b c d : Int} [h : KL tl l] : KL (u8s 4 ++ tl) (.int .u8 a :: .int .u8 b :: .int .u8 c :: .int .u8 d :: l) := ⟨rfl, rfl, rfl, rfl, h.ok⟩
instance {a b c d : Int} : KL (u8s 4) [.int .u8 a, .int .u8 b, .int .u8 c, .int .u8 d] := ⟨rfl, rfl, rfl, rfl, trivial⟩
end

class IsBoolT (P : Program) (t : TypeId) : Prop where
  eq : P.underlying t = some .bool

section
variable {ts : List Value} {h : Heap} {x y : Operand} {l l' : List Value} {t t' ty : TypeId} {tl : List LK} {A B : Bool}

theorem pr_eqGuard_agg {op : BinOp} {x y : Operand} {a b : Array Value} (hg : P.eqGuardType P.depth t = false) : pr P (eqGuard op t x y (.agg a) (.agg b)) = some (.ok ()) := by
  have key : pr P (program >>= fun p => program >>= fun q => if (!p.eqGuardType q.depth t) = true then (pure () : Sem Unit) else do
      if ← Op.eqGuardIn Op.maxDepth t (.agg a) (.agg b) then unsupported (.noEntry "binop/eql: two nil values of an interface type with methods, in a part of a struct or an array")) = some (.ok ()) := by
    simp only [pr_bindE, pr_program, hg]
    rfl
  cases op <;> first | rfl | exact key

theorem pr_eql_agg [i : TLeaves P t tl] [k : KL tl l] [k' : KL tl l'] : pr P (Op.equal t (.agg ⟨l⟩) (.agg ⟨l'⟩)) = some (.ok (same l l')) := by
  have := eq_leaves 8 t tl i.eq 9992 l l' k.ok k'.ok
  have hv : ∀ cs, valT P t cs = .agg ⟨cs⟩ := fun cs => by unfold valT; rw [i.agg]; rfl
  rw [hv, hv] at this
  exact this

instance XOp.eqlAgg [i : TLeaves P t tl] [e : Ev ts x (.agg ⟨l⟩)] [e' : Ev ts y (.agg ⟨l'⟩)] [g : GrL l] [g' : GrL l'] [k : KL tl l] [k' : KL tl l'] : XOp P ts h (.bin .eql (so (.binOp .eql t x y t') ty) x y) (.bool (same l l')) h :=
  ⟨rfl, (bin_raw (by intro k a b hu; cases hu) e.eq e'.eq).trans (raw_bin e.eq e'.eq g.eq g'.eq (by
    rw [pr_bindE, pr_eqGuard_agg i.guard]
    show pr P (Op.equal t _ _ >>= fun b => (pure (Value.bool b) : Sem Value)) = _
    rw [pr_bindE, pr_eql_agg (tl := tl)]; rfl) rfl)⟩
instance XOp.neqAgg [i : TLeaves P t tl] [e : Ev ts x (.agg ⟨l⟩)] [e' : Ev ts y (.agg ⟨l'⟩)] [g : GrL l] [g' : GrL l'] [k : KL tl l] [k' : KL tl l'] : XOp P ts h (.bin .neq (so (.binOp .neq t x y t') ty) x y) (.bool (!same l l')) h :=
  ⟨rfl, (bin_raw (by intro k a b hu; cases hu) e.eq e'.eq).trans (raw_bin e.eq e'.eq g.eq g'.eq (by
    rw [pr_bindE, pr_eqGuard_agg i.guard]
    show pr P (Op.equal t _ _ >>= fun b => (pure (Value.bool (!b)) : Sem Value)) = _
    rw [pr_bindE, pr_eql_agg (tl := tl)]; rfl) rfl)⟩

theorem pr_eqGuard_bool {op : BinOp} {x y : Operand} : pr P (eqGuard op t x y (.bool A) (.bool B)) = some (.ok ()) := by
  cases op <;> rfl
theorem pr_eql_bool [i : IsBoolT P t] : pr P (Op.equal t (.bool A) (.bool B)) = some (.ok (A == B)) := by
  unfold Op.equal
  show pr P (Op.equalIn (9999 + 1) t _ _) = _
  rw [Op.equalIn, pr_bindE, pr_underlying i.eq]
  rfl
instance XOp.eqlB [i : IsBoolT P t] [e : Ev ts x (.bool A)] [e' : Ev ts y (.bool B)] : XOp P ts h (.bin .eql (so (.binOp .eql t x y t') ty) x y) (.bool (A == B)) h :=
  ⟨rfl, (bin_raw (by intro k a b hu; cases hu) e.eq e'.eq).trans (raw_bin e.eq e'.eq rfl rfl (by
    rw [pr_bindE, pr_eqGuard_bool]
    show pr P (Op.equal t _ _ >>= fun b => (pure (Value.bool b) : Sem Value)) = _
    rw [pr_bindE, pr_eql_bool]; rfl) rfl)⟩
instance XOp.neqB [i : IsBoolT P t] [e : Ev ts x (.bool A)] [e' : Ev ts y (.bool B)] : XOp P ts h (.bin .neq (so (.binOp .neq t x y t') ty) x y) (.bool (!(A == B))) h :=
  ⟨rfl, (bin_raw (by intro k a b hu; cases hu) e.eq e'.eq).trans (raw_bin e.eq e'.eq rfl rfl (by
    rw [pr_bindE, pr_eqGuard_bool]
    show pr P (Op.equal t _ _ >>= fun b => (pure (Value.bool (!b)) : Sem Value)) = _
    rw [pr_bindE, pr_eql_bool]; rfl) rfl)⟩
end
end

/-! ### Bytes that are zero -/
def zb32 : List UInt8 := List.replicate 32 0
/-- 32 of them, as cells -/
abbrev z32 : List Value := bcells zb32
instance : L32 z32 := ⟨rfl⟩

theorem withTrue_t {P : Program} {ks : List FuncId} {f : FuncId} {af : AFunc} (h1 : ks.contains f = false) (h2 : tableOf P f = some af) : withTrue P ks f = some af := by
  unfold withTrue; rw [if_neg (by rw [h1]; simp)]; exact h2

end Go.Vm
