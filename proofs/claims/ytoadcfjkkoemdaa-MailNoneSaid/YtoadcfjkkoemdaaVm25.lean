/- A small machine over an abstract heap: drawn orders, the plain part. -/
import Derived.Test.YtoadcfjkkoemdaaVm24
import Derived.OrdersIn
set_option linter.unusedSimpArgs false
namespace Go.Vm
open Go.RowKit

/-! ### Equal values -/

theorem bytes_eq {a b : ByteArray} (h : (a.data.toList == b.data.toList) = true) : a = b := by
  have := eq_of_beq h
  cases a; cases b
  simp only at this
  congr 1
  exact Array.ext' this

mutual
theorem veq_eq : ∀ {a b : Value}, veq a b = true → a = b := by
  intro a b h
  cases a <;> cases b <;> simp only [veq, Bool.and_eq_true, beq_iff_eq, Bool.false_eq_true] at h
  case bool => rw [h]
  case int => rw [h.1, h.2]
  case float => rw [h.1, h.2]
  case complex => rw [h.1.1, h.1.2, h.2]
  case string => rw [bytes_eq (beq_iff_eq.2 h)]
  case pointer => rw [h]
  case slice => rw [h.1.1, h.1.2, h.2]
  case map => rw [h]
  case chan => rw [h]
  case func => rw [h.1.1, veqA_eq h.1.2, veqA_eq h.2]
  case nilFunc => rfl
  case iface => rw [h.1, veq_eq h.2]
  case nilIface => rfl
  case agg => rw [veqA_eq h]
  case tuple => rw [veqA_eq h]
theorem veqA_eq : ∀ {a b : Array Value}, veqA a b = true → a = b
  | ⟨l⟩, ⟨m⟩, h => congrArg Array.mk (veqL_eq (a := l) (b := m) (by simpa only [veqA] using h))
theorem veqL_eq : ∀ {a b : List Value}, veqL a b = true → a = b
  | [], [], _ => rfl
  | [], _ :: _, h => by simp [veqL] at h
  | _ :: _, [], h => by simp [veqL] at h
  | v :: l, w :: m, h => by
    simp only [veqL, Bool.and_eq_true] at h
    rw [veq_eq h.1, veqL_eq h.2]
end

/-! ### Who waits for whom -/

theorem waits_fold (acc : Array Nat) (j : Nat) : ∀ (l : List Edge) (s : Nat),
    (l.foldl (fun s e => if Region.binds .any e then s ||| 2 ^ e.on ||| acc.getD e.on 0 else s) s).testBit j = true →
      s.testBit j = true ∨ ∃ e ∈ l, Region.binds .any e = true ∧ (e.on = j ∨ (acc.getD e.on 0).testBit j = true)
  | [], s, h => .inl h
  | e :: l, s, h => by
    rw [List.foldl_cons] at h
    rcases waits_fold acc j l _ h with h1 | ⟨e', he', h2⟩
    · split at h1
      · rename_i hb
        simp only [Nat.testBit_or, Bool.or_eq_true] at h1
        rcases h1 with (h1 | h1) | h1
        · exact .inl h1
        · refine .inr ⟨e, by simp, hb, .inl ?_⟩
          rw [Nat.testBit_two_pow] at h1
          simpa using h1
        · exact .inr ⟨e, by simp, hb, .inr h1⟩
      · exact .inl h1
    · exact .inr ⟨e', by simp [he'], h2⟩

def WaitsOK (acc : Array Nat) (p : List Oper) : Prop :=
  acc.size = p.length ∧ ∀ k j, (acc.getD k 0).testBit j = true → ∃ o, p[k]? = some o ∧ ∃ e ∈ o.after, Region.binds .any e = true ∧ (e.on = j ∨ (acc.getD e.on 0).testBit j = true)

theorem getD_push_lt {acc : Array Nat} {x k : Nat} (h : k < acc.size) : (acc.push x).getD k 0 = acc.getD k 0 := by
  simp [Array.getD_eq_getD_getElem?, Array.getElem?_push, Nat.ne_of_lt h]

theorem bit_lt {acc : Array Nat} {k j : Nat} (h : (acc.getD k 0).testBit j = true) : k < acc.size := by
  apply Classical.byContradiction
  intro hk
  rw [Array.getD_eq_getD_getElem?, Array.getElem?_eq_none (by omega)] at h
  simp at h

theorem waits_go : ∀ (l p : List Oper) (acc : Array Nat), WaitsOK acc p →
    WaitsOK (l.foldl (fun acc (o : Oper) => acc.push (o.after.foldl (fun s e => if Region.binds .any e then s ||| 2 ^ e.on ||| acc.getD e.on 0 else s) 0)) acc) (p ++ l)
  | [], p, acc, h => by simpa using h
  | o :: l, p, acc, h => by
    rw [List.foldl_cons, show p ++ o :: l = (p ++ [o]) ++ l from by simp]
    refine waits_go l (p ++ [o]) _ ⟨by simp [h.1], fun k j hk => ?_⟩
    have lift : ∀ {e : Edge}, (acc.getD e.on 0).testBit j = true → ((acc.push (o.after.foldl (fun s e => if Region.binds .any e then s ||| 2 ^ e.on ||| acc.getD e.on 0 else s) 0)).getD e.on 0).testBit j = true := fun he => by
      rw [getD_push_lt (bit_lt he)]; exact he
    have hlt := bit_lt hk
    simp only [Array.size_push] at hlt
    by_cases hlast : k = acc.size
    · subst hlast
      have e1 : (acc.push (o.after.foldl (fun s e => if Region.binds .any e then s ||| 2 ^ e.on ||| acc.getD e.on 0 else s) 0)).getD acc.size 0 = (o.after.foldl (fun s e => if Region.binds .any e then s ||| 2 ^ e.on ||| acc.getD e.on 0 else s) 0) := by
        simp [Array.getD_eq_getD_getElem?]
      rw [e1, ← Array.foldl_toList] at hk
      rcases waits_fold acc j _ _ hk with h1 | ⟨e, he, hb, h2⟩
      · simp at h1
      · refine ⟨o, by rw [h.1]; simp, e, by simpa using he, hb, h2.imp_right lift⟩
    · have hk' : k < acc.size := by omega
      rw [getD_push_lt hk'] at hk
      obtain ⟨o', ho', e, he, hb, h2⟩ := h.2 k j hk
      exact ⟨o', by rw [List.getElem?_append_left (by rw [← h.1]; exact hk')]; exact ho', e, he, hb, h2.imp_right lift⟩

theorem before_spec {ops : Array Oper} {k j : Nat} (h : ancOf (Region.before ops) j k = true) :
    ∃ o, ops[k]? = some o ∧ ∃ e ∈ o.after, Region.binds .any e = true ∧ (e.on = j ∨ ancOf (Region.before ops) j e.on = true) := by
  have hw := waits_go ops.toList [] #[] ⟨rfl, fun k j h => by simp at h⟩
  have e1 : Region.before ops = ops.toList.foldl (fun acc (o : Oper) => acc.push (o.after.foldl (fun s e => if Region.binds .any e then s ||| 2 ^ e.on ||| acc.getD e.on 0 else s) 0)) #[] := by
    unfold Region.before
    rw [← Array.foldl_toList]
  rw [← e1] at hw
  obtain ⟨o, ho, r⟩ := hw.2 k j h
  exact ⟨o, by simpa using ho, r⟩

/-! ### Lists -/

theorem compList_mem {α β : Type} {f : α → Option β} : ∀ {l : List α} {m : List β}, compList f l = some m → ∀ x ∈ l, ∃ y ∈ m, f x = some y
  | [], m, h, x, hx => by cases hx
  | a :: l, m, h, x, hx => by
    simp only [compList] at h
    split at h
    · rename_i b m' hb hm
      cases h
      rcases List.mem_cons.1 hx with rfl | hx
      · exact ⟨b, by simp, hb⟩
      · obtain ⟨y, hy, h2⟩ := compList_mem hm x hx
        exact ⟨y, by simp [hy], h2⟩
    · cases h

theorem count_set : ∀ {l : List Bool} {i : Nat}, l[i]? = some false → (l.set i true).count false + 1 = l.count false
  | [], i, h => by simp at h
  | b :: l, 0, h => by simp at h; subst h; simp
  | b :: l, i + 1, h => by
    have := count_set (l := l) (i := i) (by simpa using h)
    simp only [List.set_cons_succ, List.count_cons]
    omega

theorem count_pos : ∀ {l : List Bool} {i : Nat}, l[i]? = some false → 0 < l.count false
  | [], i, h => by simp at h
  | b :: l, 0, h => by simp at h; subst h; simp
  | b :: l, i + 1, h => by
    have := count_pos (l := l) (i := i) (by simpa using h)
    simp only [List.count_cons]
    omega

/-! ### Some slots alone -/

def maskL (U : List Nat) (ts : List Value) : List Value := ts.mapIdx fun i v => if U.contains i then v else undef

theorem maskL_get (U : List Nat) (ts : List Value) (i : Nat) : (maskL U ts)[i]? = (ts[i]?).map fun v => if U.contains i then v else undef := by
  simp [maskL, List.getElem?_mapIdx]

theorem lget_getD : ∀ (l : List Value) (i : Nat), lget l i = (l[i]?).getD undef
  | [], i => by simp [lget]
  | v :: l, 0 => by simp [lget]
  | v :: l, i + 1 => by simp [lget, lget_getD l i]

theorem lget_mask {U : List Nat} {ts : List Value} {i : Nat} (h : i ∈ U) : lget (maskL U ts) i = lget ts i := by
  rw [lget_getD, lget_getD, maskL_get]
  have : U.contains i = true := by simpa using h
  rw [this]
  cases ts[i]? <;> rfl

theorem eval_mask {U : List Nat} {ts : List Value} {x : Operand} (h : ∀ t, x = .tmp t → t ∈ U) : eval (maskL U ts) x = eval ts x := by
  cases x with
  | tmp t => simp only [eval]; exact lget_mask (h t rfl)
  | _ => rfl

def maskA (U : List Nat) (a : Act) : Act := { a with tmps := ⟨maskL U a.tmps.toList⟩ }

theorem evalA_mask {U : List Nat} {a : Act} {x : Operand} (h : ∀ t, x = .tmp t → t ∈ U) : (maskA U a).eval x = a.eval x := by
  cases x with
  | tmp t =>
    have ht : U.contains t = true := by simpa using h t rfl
    simp only [Act.eval, maskA, Array.getD_eq_getD_getElem?, List.getElem?_toArray, maskL_get, ht, if_true, Array.getElem?_toList, Option.map_id_fun', id]
  | _ => rfl

theorem mask_vr {g : Gh} {U : List Nat} {ts : List Value} {a : Act} (hlen : a.tmps.size = ts.length) (h : ∀ t ∈ U, VR g (lget ts t) (a.tmps.toList.getD t undef)) :
    VRL g (maskL U ts) (maskA U a).tmps.toList := by
  refine VRL.of_get (by simp [maskL, maskA, hlen]) fun i v v' h1 h2 => ?_
  simp only [maskA, maskL_get] at h1 h2
  obtain ⟨u, hu, rfl⟩ := Option.map_eq_some_iff.1 h1
  obtain ⟨u', hu', rfl⟩ := Option.map_eq_some_iff.1 h2
  by_cases hi : U.contains i = true
  · rw [if_pos hi, if_pos hi]
    have := h i (by simpa using hi)
    rw [lget_getD, hu, List.getD_eq_getElem?_getD, hu'] at this
    exact this
  · rw [if_neg hi, if_neg hi]
    exact .gr ground_undef

end Go.Vm
