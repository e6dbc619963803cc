/- A region that draws its order: its settled operations (D) walked once in the order of the text, those that make memory (N) by what each is good for, the rest (the tail) in the order of the text. -/
import Derived.WalkKit
import Derived.KernelRfl
import Derived.Lib.QuietBelow
namespace Go.Fat
open Go.RowKit

def Waits (oi : Oper) (j : Nat) : Bool := oi.after.any fun e => Region.binds .any e && e.on == j

theorem waits_spec {o : Oper} {j : Nat} (h : Waits o j = true) : ∃ e ∈ o.after, Region.binds .any e = true ∧ e.on = j := by
  obtain ⟨e, he, hb⟩ := Array.any_eq_true'.1 h
  simp only [Bool.and_eq_true, beq_iff_eq] at hb
  exact ⟨e, he, hb.1, hb.2⟩

/-! ### Who comes before whom, by way of others too -/
def maskOf (o : Oper) (acc : List Nat) : Nat :=
  o.after.toList.foldl (fun s e => if Region.binds .any e then s ||| (1 <<< e.on) ||| acc.getD e.on 0 else s) 0
def masks : List Oper → List Nat → List Nat
  | [], acc => acc
  | o :: os, acc => masks os (acc ++ [maskOf o acc])

theorem maskOf_spec (o : Oper) (acc : List Nat) (j : Nat) (h : (maskOf o acc).testBit j = true) :
    ∃ e ∈ o.after, Region.binds .any e = true ∧ (e.on = j ∨ (acc.getD e.on 0).testBit j = true) := by
  unfold maskOf at h
  suffices H : ∀ (l : List Edge) (s : Nat), (l.foldl (fun s e => if Region.binds .any e then s ||| (1 <<< e.on) ||| acc.getD e.on 0 else s) s).testBit j = true →
      s.testBit j = true ∨ ∃ e ∈ l, Region.binds .any e = true ∧ (e.on = j ∨ (acc.getD e.on 0).testBit j = true) by
    rcases H _ _ h with h | ⟨e, he, hb⟩
    · simp at h
    · exact ⟨e, by simpa using he, hb⟩
  intro l
  induction l with
  | nil => intro s h; exact .inl h
  | cons e l ih =>
    intro s h
    rw [List.foldl_cons] at h
    rcases ih _ h with h | ⟨e', he, hb⟩
    · split at h
      · rename_i hb
        rw [Nat.testBit_or, Nat.testBit_or, Bool.or_eq_true, Bool.or_eq_true] at h
        rcases h with (h | h) | h
        · exact .inl h
        · refine .inr ⟨e, by simp, hb, .inl ?_⟩
          rw [Nat.one_shiftLeft, Nat.testBit_two_pow] at h
          simpa using h
        · exact .inr ⟨e, by simp, hb, .inr h⟩
      · exact .inl h
    · exact .inr ⟨e', by simp [he], hb⟩

theorem masks_length (os : List Oper) : ∀ acc, (masks os acc).length = acc.length + os.length := by
  induction os with
  | nil => intro acc; simp [masks]
  | cons o os ih => intro acc; rw [masks, ih]; simp; omega
theorem masks_old (os : List Oper) : ∀ acc i, i < acc.length → (masks os acc).getD i 0 = acc.getD i 0 := by
  induction os with
  | nil => intro acc i _; rfl
  | cons o os ih =>
    intro acc i hi
    rw [masks, ih _ i (by simp; omega)]
    simp [List.getElem?_append_left hi]
theorem masks_at (os : List Oper) : ∀ acc i o, os[i]? = some o → (masks os acc).getD (acc.length + i) 0 = maskOf o (((masks os acc).take (acc.length + i))) := by
  induction os with
  | nil => intro acc i o h; simp at h
  | cons o' os ih =>
    intro acc i o h
    cases i with
    | zero =>
      simp at h; subst h
      rw [masks, masks_old _ _ _ (by simp)]
      have : (masks os (acc ++ [maskOf o' acc])).take acc.length = acc := by
        apply List.ext_getElem?
        intro k
        by_cases hk : k < acc.length
        · have h1 := masks_old os (acc ++ [maskOf o' acc]) k (by simp; omega)
          have h2 : k < (masks os (acc ++ [maskOf o' acc])).length := by rw [masks_length]; simp; omega
          rw [List.getElem?_take_of_lt hk, List.getElem?_eq_getElem h2, List.getElem?_eq_getElem hk]
          have e1 : (masks os (acc ++ [maskOf o' acc])).getD k 0 = (masks os (acc ++ [maskOf o' acc]))[k] := by simp [h2]
          have e2 : (acc ++ [maskOf o' acc]).getD k 0 = acc[k] := by simp [List.getElem?_append_left hk, hk]
          rw [← e1, h1, e2]
        · rw [List.getElem?_eq_none (by simp only [List.length_take]; omega), List.getElem?_eq_none (by omega)]
      simp [this]
    | succ i =>
      have := ih (acc ++ [maskOf o' acc]) i o (by simpa using h)
      simp only [List.length_append, List.length_singleton] at this
      rw [masks]
      rw [show acc.length + (i + 1) = acc.length + 1 + i by omega]
      exact this

def before (ops : List Oper) (i : Nat) : Nat := (masks ops []).getD i 0

theorem before_spec (ops : List Oper) (i : Nat) (o : Oper) (ho : ops[i]? = some o) (j : Nat) (h : (before ops i).testBit j = true) :
    ∃ e ∈ o.after, Region.binds .any e = true ∧ (e.on = j ∨ (e.on < i ∧ (before ops e.on).testBit j = true)) := by
  unfold before at h
  have := masks_at ops [] i o ho
  simp only [List.length_nil, Nat.zero_add] at this
  rw [this] at h
  obtain ⟨e, he, hb, h | h⟩ := maskOf_spec _ _ _ h
  · exact ⟨e, he, hb, .inl h⟩
  · by_cases hlt : e.on < i
    · refine ⟨e, he, hb, .inr ⟨hlt, ?_⟩⟩
      unfold before
      simpa [List.getElem?_take_of_lt hlt] using h
    · simp [List.getElem?_take, hlt] at h

/-! ### Small things -/
def dstOf (ops : Array Oper) (i : Nat) : Option Tmp := (ops[i]?).bind (·.dst)
theorem put_size (a : Act) (d : Option Tmp) (v : Value) : (a.put d v).tmps.size = a.tmps.size := by
  cases d <;> simp [Act.put]
theorem put_defers (a : Act) (d : Option Tmp) (v : Value) : (a.put d v).defers = a.defers := by
  cases d <;> simp [Act.put]
theorem put_other (a : Act) (d : Option Tmp) (v : Value) (t : Tmp) (h : d ≠ some t) : (a.put d v).tmps[t]? = a.tmps[t]? := by
  cases d with
  | none => rfl
  | some d => simp only [Act.put]; exact Array.getElem?_setIfInBounds_ne (fun e => h (by rw [e]))
theorem put_same (a : Act) (v : Value) (t : Tmp) (h : t < a.tmps.size) : (a.put (some t) v).tmps[t]? = some v := by
  simp [Act.put, h]
def tt (listed : Array Bool) (j : Nat) : Bool := listed.getD j false
theorem count_set {l : Array Bool} {i : Nat} (h : i < l.size) (hf : l.getD i true = false) :
    (l.setIfInBounds i true).toList.count true = l.toList.count true + 1 := by
  have h1 : l.toList[i]'(by simpa using h) = false := by simpa [h] using hf
  rw [Array.toList_setIfInBounds, List.count_set (by simpa using h)]
  simp [h1]
theorem tt_set {l : Array Bool} {i : Nat} (h : i < l.size) (j : Nat) : tt (l.setIfInBounds i true) j = (if j = i then true else tt l j) := by
  unfold tt
  by_cases hji : j = i
  · subst hji; simp [h]
  · rw [getD_set_ne false (Ne.symm hji)]; simp [hji]
theorem tt0 (n j : Nat) : tt (Array.replicate n false) j = false := by
  unfold tt
  by_cases h : j < n <;> simp [h]
theorem eval_eq {ops : Array Oper} {a a' : Act} {o : Oper} (h : ∀ t ∈ o.looksAt ops, a.tmps[t]? = a'.tmps[t]?) (x : Operand) (hx : x ∈ o.op.operands) : a.eval x = a'.eval x := by
  cases x with
  | tmp t =>
    have := h t (List.mem_append_left _ (List.mem_filterMap.2 ⟨.tmp t, by simpa using hx, rfl⟩))
    simp [Act.eval, this]
  | _ => rfl
theorem wanted_same {ops : Array Oper} {a a' : Act} {o : Oper} (h : ∀ t ∈ o.looksAt ops, a.tmps[t]? = a'.tmps[t]?) :
    Region.wanted o (yielded ops a.tmps) = Region.wanted o (yielded ops a'.tmps) := by
  unfold Region.wanted
  cases hg : o.guard with
  | none => rfl
  | some gw =>
    obtain ⟨g, want⟩ := gw
    have hy : yielded ops a.tmps g = yielded ops a'.tmps g := by
      unfold yielded
      cases ht : (ops[g]?).bind (·.dst) with
      | none => rfl
      | some t =>
        have := h t (by simp [Oper.looksAt, hg, ht])
        simp [this]
    simp only [hy]

/-! ### Operations that are no calls -/
def noCall (o : Oper) : Bool :=
  match o.op with
  | .move _ | .assign _ | .pick .. | .load .. | .binOp .. | .unOp .. | .convert .. | .fieldAddr .. | .field .. | .indexAddr .. | .index .. | .extract .. | .slice .. | .build .. | .makeFunc .. | .lookup .. | .nilCheck _ => true
  | .call c => (match c.callee with | .builtin .len => true | .builtin .cap => true | _ => false)
  | _ => false
theorem andThen_value {r : Result Value} {w' : World} {f : FuncId} {args : Array Value} : (r.andThen fun a w => (Result.ok (Next.value a) w : Result Next)) ≠ .ok (.enter f args) w' := by
  cases r <;> simp [Result.andThen]
theorem andThen_ne {α : Type} {r : Result α} {g : α → World → Result Next} {w' : World} {f : FuncId} {args : Array Value} (h : ∀ a w, g a w ≠ .ok (.enter f args) w') : r.andThen g ≠ .ok (.enter f args) w' := by
  cases r with
  | ok a w => exact h a w
  | halt x w => simp [Result.andThen]
theorem not_enter {P : Program} {o : Oper} {A : Act} {w w' : World} {f : FuncId} {args : Array Value} (h : noCall o = true) : (execOp A.eval o).run P w ≠ .ok (.enter f args) w' := by
  unfold noCall at h
  unfold execOp
  cases ho : o.op with
  | call c =>
    rw [ho] at h
    simp only at h
    cases hc : c.callee with
    | builtin b =>
      rw [hc] at h
      cases b <;> simp at h
      all_goals (simp only [resolve, hc, Sem.run_bind, Sem.run_pure, Result.andThen, invoke, builtin]; exact andThen_value)
    | _ => rw [hc] at h; simp at h
  | nilCheck x =>
    simp only
    split
    · simp [runtimePanic]
    · simp [runtimePanic]
    · simp [runtimePanic]
    · split
      · simp [runtimePanic]
      · simp only [Sem.run_bind]
        refine andThen_ne fun _ _ => andThen_ne fun _ _ => ?_
        split
        · simp only [Sem.run_bind]
          exact andThen_ne fun _ _ => by simp
        · simp
      · simp
    · simp
  | pick c a b =>
    simp only [Sem.run_bind, Sem.run_pure]
    cases (asBool (A.eval c)).run P w <;> simp [Result.andThen]
  | _ => first
    | (rw [ho] at h; simp at h; done)
    | (simp only [Sem.run_bind, Sem.run_pure]; exact andThen_value)
    | (simp; done)

/-! ### The check over a region -/
def own (ws : List (Nat × Nat)) (i : Nat) : Nat := (ws.lookup i).getD i

/-- n: how many operations stand ahead of the tail. ns: those that make memory, or write into what one of them has made (ws: which into whose). -/
def ok (ops : List Oper) (n : Nat) (ns : List Nat) (ws : List (Nat × Nat)) : Bool :=
  Region.noSelect ops.toArray && decide (n ≤ ops.length) &&
  ops.zipIdx.all (fun (oi, i) => oi.after.all (fun e => !Region.binds .any e || e.on < i)) &&
  (ops.take n).zipIdx.all (fun (oi, i) => (ops.take n).zipIdx.all fun (oj, j) => i == j ||
    match oj.dst with
    | none => true
    | some t => oi.dst != some t && (!(oi.looksAt ops.toArray).contains t ||
        (if ns.contains i then Waits oi j else !ns.contains j && ((j < i && Waits oi j) || (i < j && Waits oj i))))) &&
  (ns.isEmpty || (ops.take n).zipIdx.all fun (oi, i) => ns.contains i || noCall oi) &&
  ns.all (fun i => decide (i < n) && match ops[i]? with
    | none => false
    | some o => match o.dst with
      | none => true
      | some t => !(o.looksAt ops.toArray).contains t) &&
  ns.all (fun i => own ws i == i || (ns.contains (own ws i) && own ws (own ws i) == own ws i && (match ops[i]? with
    | none => false
    | some o => Waits o (own ws i)) && ns.all fun k => k == i || k == own ws i || own ws k != own ws i)) &&
  ((List.range ops.length).drop n).all (fun i => (List.range i).all fun j => (before ops i).testBit j)

structure Good (ops : List Oper) (n : Nat) (ns : List Nat) (ws : List (Nat × Nat)) : Prop where
  sel : Region.noSelect ops.toArray = true
  le : n ≤ ops.length
  back : ∀ i o, ops[i]? = some o → ∀ e ∈ o.after, Region.binds .any e = true → e.on < i
  dst : ∀ i j t, i < n → j < n → i ≠ j → dstOf ops.toArray i = some t → dstOf ops.toArray j = some t → False
  look : ∀ i j oi oj t, i < n → j < n → ops[i]? = some oi → ops[j]? = some oj → i ≠ j → oj.dst = some t → t ∈ oi.looksAt ops.toArray →
    (if ns.contains i then Waits oi j = true else ns.contains j = false ∧ ((j < i ∧ Waits oi j = true) ∨ (i < j ∧ Waits oj i = true)))
  calls : ns = [] ∨ ∀ i o, i < n → ops[i]? = some o → ns.contains i = false → noCall o = true
  inn : ∀ i, ns.contains i = true → i < n
  mine : ∀ i o t, ns.contains i = true → ops[i]? = some o → o.dst = some t → t ∉ o.looksAt ops.toArray
  wr : ∀ i, ns.contains i = true → own ws i ≠ i → ns.contains (own ws i) = true ∧ own ws (own ws i) = own ws i ∧ (∀ o, ops[i]? = some o → Waits o (own ws i) = true) ∧
    ∀ k, ns.contains k = true → k ≠ i → k ≠ own ws i → own ws k ≠ own ws i
  tail : ∀ i j, n ≤ i → i < ops.length → j < i → (before ops i).testBit j = true

theorem good_of {ops : List Oper} {n : Nat} {ns : List Nat} {ws : List (Nat × Nat)} (h : ok ops n ns ws = true) : Good ops n ns ws := by
  unfold ok at h
  simp only [Bool.and_eq_true] at h
  obtain ⟨⟨⟨⟨⟨⟨⟨h1, h2⟩, h3⟩, h4⟩, h8⟩, h7⟩, h9⟩, h5⟩ := h
  have key : ∀ i o, ops[i]? = some o → (o, i) ∈ ops.zipIdx := fun i o ho => by
    rw [List.mk_mem_zipIdx_iff_getElem?]; exact ho
  have keyn : ∀ i o, i < n → ops[i]? = some o → (o, i) ∈ (ops.take n).zipIdx := fun i o hi ho => by
    rw [List.mk_mem_zipIdx_iff_getElem?, List.getElem?_take_of_lt hi]; exact ho
  have pr : ∀ i j oi oj t, i < n → j < n → ops[i]? = some oi → ops[j]? = some oj → i ≠ j → oj.dst = some t →
      (oi.dst != some t && (!(oi.looksAt ops.toArray).contains t ||
        (if ns.contains i then Waits oi j else !ns.contains j && ((j < i && Waits oi j) || (i < j && Waits oj i))))) = true := by
    intro i j oi oj t hi hj hoi hoj hne ht
    have := List.all_eq_true.1 h4 _ (keyn i oi hi hoi)
    have := List.all_eq_true.1 this _ (keyn j oj hj hoj)
    simpa [hne, ht] using this
  refine ⟨h1, by simpa using h2, fun i o ho e he hb => ?_, fun i j t hi hj hne hdi hdj => ?_, fun i j oi oj t hi hj hoi hoj hne ht hl => ?_, ?_, fun i hi => ?_, fun i o t hi ho ht => ?_, fun i hi hne => ?_, fun i j hi hlt hj => ?_⟩
  · have := List.all_eq_true.1 h3 _ (key i o ho)
    have := Array.all_eq_true_iff_forall_mem.1 this e he
    simpa [hb] using this
  · unfold dstOf at hdi hdj
    simp only [List.getElem?_toArray] at hdi hdj
    cases hoi : ops[i]? with
    | none => simp [hoi] at hdi
    | some oi =>
      cases hoj : ops[j]? with
      | none => simp [hoj] at hdj
      | some oj =>
        simp [hoi] at hdi
        simp [hoj] at hdj
        have := pr i j oi oj t hi hj hoi hoj hne hdj
        simp [hdi] at this
  · have := pr i j oi oj t hi hj hoi hoj hne ht
    simp only [Bool.and_eq_true, Bool.or_eq_true, Bool.not_eq_true', List.contains_eq_mem, decide_eq_false_iff_not] at this
    rcases this.2 with h | h
    · exact absurd hl h
    · split
      · rename_i hd; simp only [List.contains_eq_mem] at hd; simpa [hd] using h
      · rename_i hd
        simp only [List.contains_eq_mem] at hd ⊢
        simpa [hd] using h
  · rw [Bool.or_eq_true] at h8
    rcases h8 with h8 | h8
    · exact .inl (by simpa using h8)
    · refine .inr fun i o hi ho hni => ?_
      have := List.all_eq_true.1 h8 _ (keyn i o hi ho)
      rw [hni] at this
      simpa using this
  · have := List.all_eq_true.1 h7 i (by simpa using hi)
    simp only [Bool.and_eq_true, decide_eq_true_eq] at this
    exact this.1
  · have := List.all_eq_true.1 h7 i (by simpa using hi)
    simp only [Bool.and_eq_true, decide_eq_true_eq, ho, ht] at this
    simpa using this.2
  · have := List.all_eq_true.1 h9 i (by simpa using hi)
    rw [Bool.or_eq_true] at this
    rcases this with h | h
    · exact absurd (by simpa using h) hne
    · simp only [Bool.and_eq_true] at h
      obtain ⟨⟨⟨g1, g2⟩, g3⟩, g4⟩ := h
      refine ⟨g1, by simpa using g2, fun o ho => by rw [ho] at g3; exact g3, fun k hk h1 h2 => ?_⟩
      have := List.all_eq_true.1 g4 k (by simpa using hk)
      simpa [h1, h2] using this
  · have h6 : i ∈ (List.range ops.length).drop n := by
      rw [List.mem_drop_iff_getElem]
      exact ⟨i - n, by simp; omega, by simp; omega⟩
    exact List.all_eq_true.1 (List.all_eq_true.1 h5 i h6) j (by simpa using hj)

/-! ### The settled ones -/
section
variable {P : Program} {l : List Oper} {n : Nat} {ns : List Nat} {ws : List (Nat × Nat)}

/-- The class of worlds: w0, with whatever count of draws, with some blocks laid behind it. -/
def Cls (w0 : World) : World → Prop := fun w => ∃ p : Regrown, w = Sort.grow (redrawn w0 p.d) p.os
theorem cls_iff {w0 w : World} : Cls w0 w ↔ Below w0.heap.size w0 w :=
  ⟨fun ⟨p, h⟩ => by rw [h]; exact below_regrown w0 p.d p.os, regrown_of_below⟩

/-- The settled ones of a list, k its first index. -/
def pick (ns : List Nat) : Nat → List Oper → List Oper
  | _, [] => []
  | k, o :: os => if ns.contains k then pick ns (k + 1) os else o :: pick ns (k + 1) os

/-- The frame behind the first i, v the values; those of ns are left out. -/
def acts (l : List Oper) (ns : List Nat) (a0 : Act) (v : Nat → Value) : Nat → Act
  | 0 => a0
  | i + 1 => if ns.contains i then acts l ns a0 v i else (acts l ns a0 v i).put (dstOf l.toArray i) (v i)

theorem acts_size (a0 : Act) (v : Nat → Value) (i : Nat) : (acts l ns a0 v i).tmps.size = a0.tmps.size := by
  induction i with
  | zero => rfl
  | succ i ih => rw [acts]; split <;> simp only [put_size, ih]
theorem acts_defers (a0 : Act) (v : Nat → Value) (i : Nat) : (acts l ns a0 v i).defers = a0.defers := by
  induction i with
  | zero => rfl
  | succ i ih => rw [acts]; split <;> simp only [put_defers, ih]
theorem acts_rest (a0 : Act) (v : Nat → Value) (t : Tmp) (i : Nat) (h : ∀ j, j < i → ns.contains j = false → dstOf l.toArray j ≠ some t) : (acts l ns a0 v i).tmps[t]? = a0.tmps[t]? := by
  induction i with
  | zero => rfl
  | succ i ih =>
    rw [acts]
    split
    · exact ih fun j hj => h j (by omega)
    · rename_i hd; rw [put_other _ _ _ _ (h i (by omega) (by simpa using hd)), ih fun j hj => h j (by omega)]
theorem acts_done (g : Good l n ns ws) (a0 : Act) (v : Nat → Value) (t : Tmp) (j : Nat) (hj : j < n) (hnd : ns.contains j = false) (hd : dstOf l.toArray j = some t) (ht : t < a0.tmps.size) (i : Nat) (h : j < i) (hi : i ≤ n) :
    (acts l ns a0 v i).tmps[t]? = some (v j) := by
  induction i with
  | zero => omega
  | succ i ih =>
    rw [acts]
    by_cases hji : j = i
    · subst hji; rw [if_neg (by rw [hnd]; simp), hd]; exact put_same _ _ _ (by rw [acts_size]; exact ht)
    · split
      · exact ih (by omega) (by omega)
      · rw [put_other _ _ _ _ fun he => g.dst j i t hj (by omega) hji hd he]; exact ih (by omega) (by omega)

/-- What is known of one settled operation. -/
def OpS (P : Program) (ops : Array Oper) (o : Oper) (v : Value) (a : Act) (C : World → Prop) : Prop :=
  (Region.wanted o (yielded ops a.tmps) = true ∧ ∀ w, C w → o.quietAt P a C w v) ∨
  (Region.wanted o (yielded ops a.tmps) = false ∧ v = undef)

theorem acts_of {C : World → Prop} (R : Act → Prop) (a0 : Act) (h : wpQuiet P l.toArray C R (pick ns 0 (l.take n)) a0) (hn : n ≤ l.length) :
    ∃ v : Nat → Value, (∀ i o, i < n → l[i]? = some o → ns.contains i = false → OpS P l.toArray o (v i) (acts l ns a0 v i) C) ∧ R (acts l ns a0 v n) := by
  suffices H : ∀ (m : List Oper) (k : Nat) (a : Act) (u : Nat → Value), (∀ j, m[j]? = (l.take n)[k + j]?) → k + m.length = n → a = acts l ns a0 u k →
      (∀ i o, i < k → l[i]? = some o → ns.contains i = false → OpS P l.toArray o (u i) (acts l ns a0 u i) C) → wpQuiet P l.toArray C R (pick ns k m) a →
      ∃ v : Nat → Value, (∀ i o, i < n → l[i]? = some o → ns.contains i = false → OpS P l.toArray o (v i) (acts l ns a0 v i) C) ∧ R (acts l ns a0 v n) from
    H (l.take n) 0 a0 (fun _ => undef) (by simp) (by simp; omega) rfl (fun i o hi => by omega) h
  intro m
  induction m with
  | nil =>
    intro k a u _ hk ha hu hR
    simp at hk
    subst hk
    exact ⟨u, fun i o hi ho hnd => hu i o hi ho hnd, by rw [← ha]; exact hR⟩
  | cons o m ih =>
    intro k a u hl hk ha hu hR
    have hkn : k < n := by simp at hk; omega
    have ho : l[k]? = some o := by
      have := (hl 0).symm
      simpa [List.getElem?_take_of_lt hkn] using this
    rw [pick] at hR
    by_cases hnd : ns.contains k = true
    · rw [if_pos hnd] at hR
      refine ih (k + 1) a u (fun j => by have := hl (j + 1); simpa [Nat.add_assoc, Nat.add_comm 1 j] using this) (by simp at hk; omega) (by rw [acts, if_pos hnd]; exact ha) ?_ hR
      intro i o' hi ho' hni
      by_cases hik : i = k
      · subst hik; rw [hnd] at hni; cases hni
      · exact hu i o' (by omega) ho' hni
    · rw [if_neg hnd] at hR
      have hnd' : ns.contains k = false := by simpa using hnd
      have hstep : ∃ v, OpS P l.toArray o v a C ∧ wpQuiet P l.toArray C R (pick ns (k + 1) m) (a.put o.dst v) := by
        unfold wpQuiet at hR
        split at hR
        · rename_i hw
          obtain ⟨v, h1, h2⟩ := hR
          exact ⟨v, .inl ⟨hw, h1⟩, h2⟩
        · rename_i hw
          exact ⟨undef, .inr ⟨by simpa using hw, rfl⟩, hR⟩
      obtain ⟨v, hv, hrest⟩ := hstep
      have same : ∀ i, i ≤ k → acts l ns a0 (fun j => if j = k then v else u j) i = acts l ns a0 u i := by
        intro i
        induction i with
        | zero => intro _; rfl
        | succ i ihi =>
          intro hi
          rw [acts, acts, ihi (by omega), if_neg (show ¬ i = k by omega)]
      refine ih (k + 1) (a.put o.dst v) (fun j => if j = k then v else u j) (fun j => by have := hl (j + 1); simpa [Nat.add_assoc, Nat.add_comm 1 j] using this) (by simp at hk; omega) ?_ ?_ hrest
      · rw [acts, if_neg hnd, same k (Nat.le_refl _), ← ha]; simp [dstOf, ho]
      · intro i o' hi ho' hni
        rw [same i (by omega)]
        by_cases hik : i = k
        · subst hik; rw [ho] at ho'; cases ho'; simp; rw [← ha]; exact hv
        · simp [hik]; exact hu i o' (by omega) ho' hni

/-! ### Those that make memory -/
/-- Phi: what such an operation is good for: its value, from where to where its blocks lie, the world. -/
abbrev Spec := Value → Nat → Nat → World → Prop
def Lasting (p : Spec) : Prop := ∀ v lo hi w w', Below w.heap.size w w' → hi ≤ w.heap.size → p v lo hi w → p v lo hi w'

/-- Blocks from l to h may have been written, no other. -/
structure Wr (l h : Nat) (w w' : World) : Prop where
  os : w'.os = w.os
  tape : w'.tape = w.tape
  output : w'.output = w.output
  size : w'.heap.size = w.heap.size
  block : ∀ k, (k < l ∨ h ≤ k) → w'.heap[k]? = w.heap[k]?
def Local (p : Spec) : Prop := ∀ v lo hi w w' l h, Wr l h w w' → (hi ≤ l ∨ h ≤ lo) → p v lo hi w → p v lo hi w'
theorem Wr.below {l h : Nat} {w0 w w' : World} (hw : Wr l h w w') (hb : Below w0.heap.size w0 w) (hl : w0.heap.size ≤ l) : Below w0.heap.size w0 w' :=
  hb.trans ⟨hw.os, hw.tape, hw.output, by rw [hw.size]; exact Nat.le_refl _, fun k hk => hw.block k (.inl (by omega))⟩

def putN (l : List Oper) (vals : Nat → Value) : List Nat → Act → Act
  | [], a => a
  | i :: is, a => putN l vals is (a.put (dstOf l.toArray i) (vals i))

theorem putN_size (vals : Nat → Value) (is : List Nat) : ∀ a : Act, (putN l vals is a).tmps.size = a.tmps.size := by
  induction is with
  | nil => intro a; rfl
  | cons i is ih => intro a; rw [putN, ih, put_size]
theorem putN_defers (vals : Nat → Value) (is : List Nat) : ∀ a : Act, (putN l vals is a).defers = a.defers := by
  induction is with
  | nil => intro a; rfl
  | cons i is ih => intro a; rw [putN, ih, put_defers]
theorem putN_rest (vals : Nat → Value) (t : Tmp) (is : List Nat) : ∀ a : Act, (∀ i ∈ is, dstOf l.toArray i ≠ some t) → (putN l vals is a).tmps[t]? = a.tmps[t]? := by
  induction is with
  | nil => intro a _; rfl
  | cons i is ih => intro a h; rw [putN, ih _ fun j hj => h j (by simp [hj]), put_other _ _ _ _ (h i (by simp))]
theorem putN_done (g : Good l n ns ws) (vals : Nat → Value) (t : Tmp) (j : Nat) (hj : j < n) (hd : dstOf l.toArray j = some t) (is : List Nat) (hlt : ∀ i ∈ is, i < n) :
    ∀ a : Act, t < a.tmps.size → (j ∈ is ∨ a.tmps[t]? = some (vals j)) → (putN l vals is a).tmps[t]? = some (vals j) := by
  induction is with
  | nil => intro a _ h; rcases h with h | h <;> simp_all [putN]
  | cons i is ih =>
    intro a ht h
    rw [putN]
    refine ih (fun i hi => hlt i (by simp [hi])) _ (by rw [put_size]; exact ht) ?_
    by_cases hji : j = i
    · subst hji; exact .inr (by rw [hd]; exact put_same _ _ _ ht)
    · rcases h with h | h
      · simp [hji] at h; exact .inl h
      · refine .inr ?_
        rw [put_other _ _ _ _ fun he => g.dst j i t hj (hlt i (by simp)) hji hd he]; exact h


/-- One operation, in state A, world w: it gives a value and a world. -/
def gives (P : Program) (o : Oper) (A : Act) (w : World) (F : Value → World → Prop) : Prop :=
  match (execOp A.eval o).run P w with
  | .ok (.value v) w' => F v w'
  | .ok .skip w' => F undef w'
  | .ok (.enter f args) w' => Calls P f args w' fun e w'' => ∃ v, e = .returned v ∧ F v w''
  | _ => False

theorem gives_upon {o : Oper} {A a : Act} {w : World} {F : Value → World → Prop} {K : Act → World → Prop} {Q : Exit → Act → World → Prop}
    (h : gives P o A w F) (he : execOp a.eval o = execOp A.eval o) (hK : ∀ v w', F v w' → K (a.put o.dst v) w') : o.wp P a w K Q := by
  unfold gives at h
  unfold Oper.wp
  rw [he]
  generalize (execOp A.eval o).run P w = r at *
  cases r with
  | ok x w' =>
    cases x <;> simp only at h <;> simp only [Oper.upon]
    case value v => exact hK _ _ h
    case skip => exact hK _ _ h
    case enter f args => exact Calls.mono h fun e w'' ⟨v, hv, hF⟩ => by subst hv; exact hK _ _ hF
  | halt x w' => exact h.elim

/-- What is owed of those that make memory, and of the tail, once the settled ones have been walked: A is the frame. -/
structure Owed (P : Program) (l : List Oper) (n : Nat) (ns : List Nat) (ws : List (Nat × Nat)) (Phi : Nat → Spec) (Q : Exit → Act → World → Prop) (w0 : World) (A : Act) : Prop where
  each : ∀ i o, ns.contains i = true → own ws i = i → l[i]? = some o → ∀ (vals : Nat → Value) (lo hi : Nat → Nat) (w : World), Below w0.heap.size w0 w →
    (∀ j, ns.contains j = true → Waits o j = true → w0.heap.size ≤ lo j ∧ lo j ≤ hi j ∧ hi j ≤ w.heap.size ∧ Phi j (vals j) (lo j) (hi j) w) →
    (Region.wanted o (yielded l.toArray (putN l vals ns A).tmps) = true ∧ gives P o (putN l vals ns A) w fun v w' => Below w.heap.size w w' ∧ Phi i v w.heap.size w'.heap.size w') ∨
    (Region.wanted o (yielded l.toArray (putN l vals ns A).tmps) = false ∧ Phi i undef w.heap.size w.heap.size w)
  wrts : ∀ i o, ns.contains i = true → own ws i ≠ i → l[i]? = some o → ∀ (vals : Nat → Value) (lo hi : Nat → Nat) (w : World), Below w0.heap.size w0 w →
    (∀ j, ns.contains j = true → Waits o j = true → w0.heap.size ≤ lo j ∧ lo j ≤ hi j ∧ hi j ≤ w.heap.size ∧ Phi j (vals j) (lo j) (hi j) w) →
    Region.wanted o (yielded l.toArray (putN l vals ns A).tmps) = true ∧ gives P o (putN l vals ns A) w fun v w' =>
      Wr (lo (own ws i)) (hi (own ws i)) w w' ∧ Phi i v (lo (own ws i)) (hi (own ws i)) w' ∧ Phi (own ws i) (vals (own ws i)) (lo (own ws i)) (hi (own ws i)) w'
  fin : ∀ (vals : Nat → Value) (lo hi : Nat → Nat) (w : World), Below w0.heap.size w0 w →
    (∀ j, ns.contains j = true → w0.heap.size ≤ lo j ∧ lo j ≤ hi j ∧ hi j ≤ w.heap.size ∧ Phi j (vals j) (lo j) (hi j) w) →
    (∀ j k, ns.contains j = true → ns.contains k = true → own ws j ≠ own ws k → hi j ≤ lo k ∨ hi k ≤ lo j) →
    (∀ j, ns.contains j = true → own ws j ≠ j → lo j = lo (own ws j) ∧ hi j = hi (own ws j)) →
    wpList P l.toArray Q (l.drop n) (putN l vals ns A) w

theorem cover {listed : Array Bool} (hcl : ∀ j o, tt listed j = true → l[j]? = some o → ∀ e ∈ o.after, Region.binds .any e = true → tt listed e.on = true) :
    ∀ i o, l[i]? = some o → (∀ e ∈ o.after, Region.binds .any e = true → tt listed e.on = true) → ∀ j, (before l i).testBit j = true → tt listed j = true := by
  intro i
  induction i using Nat.strongRecOn with
  | _ i ih =>
    intro o ho hw j hj
    obtain ⟨e, he, hb, h | ⟨hlt, h⟩⟩ := before_spec l i o ho j hj
    · rw [← h]; exact hw e he hb
    · have h1 := hw e he hb
      have h2 : e.on < l.length := by have := (List.getElem?_eq_some_iff.1 ho).1; omega
      exact ih e.on hlt l[e.on] (by simp [h2]) (hcl e.on l[e.on] h1 (by simp [h2])) j h

theorem tail_any (g : Good l n ns ws) {Q : Exit → Act → World → Prop} : ∀ (fuel k : Nat) (listed : Array Bool) (a : Act) (w : World), k + fuel = l.length → n ≤ k → listed.size = l.length →
    (∀ j, j < l.length → tt listed j = decide (j < k)) → wpList P l.toArray Q (l.drop k) a w → wpAny P .any l.toArray Q fuel listed a w := by
  intro fuel
  have only : ∀ (k : Nat) (listed : Array Bool), n ≤ k → listed.size = l.length → (∀ j, j < l.length → tt listed j = decide (j < k)) →
      ∀ i, i ∈ Region.ready .any l.toArray listed → i = k ∧ k < l.length := by
    intro k listed hk hs hl i hi
    rw [mem_ready] at hi
    obtain ⟨h0, o, ho, hall⟩ := hi
    simp only [List.getElem?_toArray] at ho
    have hlt := (List.getElem?_eq_some_iff.1 ho).1
    have hti : tt listed i = false := by unfold tt; simp [hs, hlt] at h0 ⊢; exact h0
    rw [hl i hlt] at hti
    have hki : k ≤ i := by simpa using hti
    have hcl : ∀ j o, tt listed j = true → l[j]? = some o → ∀ e ∈ o.after, Region.binds .any e = true → tt listed e.on = true := by
      intro j o' hj ho' e he hb
      have h1 := g.back j o' ho' e he hb
      have h2 := (List.getElem?_eq_some_iff.1 ho').1
      rw [hl j h2] at hj
      rw [hl e.on (by omega)]
      simp at hj ⊢; omega
    refine ⟨?_, by omega⟩
    by_cases hik : i = k
    · exact hik
    · have := cover hcl i o ho hall k (g.tail i k (by omega) hlt (by omega))
      rw [hl k (by omega)] at this
      simp at this
  induction fuel with
  | zero =>
    intro k listed a w hk hn hs hl hw
    have hr : Region.ready .any l.toArray listed = [] := by
      cases hr : Region.ready .any l.toArray listed with
      | nil => rfl
      | cons x xs =>
        have := only k listed hn hs hl x (by rw [hr]; simp)
        omega
    refine ⟨hr, ?_⟩
    rw [List.drop_eq_nil_of_le (by omega)] at hw
    exact hw
  | succ fuel ih =>
    intro k listed a w hk hn hs hl hw
    have hkl : k < l.length := by omega
    have hmem : k ∈ Region.ready .any l.toArray listed := by
      rw [mem_ready]
      refine ⟨?_, l[k], by simp [hkl], fun e he hb => ?_⟩
      · have := hl k hkl
        unfold tt at this
        simp [hs, hkl] at this ⊢; exact this
      · have h1 := g.back k l[k] (by simp [hkl]) e he hb
        have := hl e.on (by omega)
        unfold tt at this
        rw [this]; simpa using h1
    refine ⟨fun h0 => (by rw [h0] at hmem; cases hmem), fun i hi => ?_⟩
    obtain ⟨rfl, _⟩ := only k listed hn hs hl i hi
    rw [List.drop_eq_getElem_cons hkl] at hw
    have next : ∀ a' w', wpList P l.toArray Q (l.drop (i + 1)) a' w' → wpAny P .any l.toArray Q fuel (listed.setIfInBounds i true) a' w' := by
      intro a' w' h
      refine ih (i + 1) _ a' w' (by omega) (by omega) (by simpa using hs) (fun j hj => ?_) h
      rw [tt_set (by omega)]
      by_cases hji : j = i
      · simp [hji]
      · rw [if_neg hji, hl j hj]; simp; omega
    unfold wpOp
    simp only [List.getElem?_toArray, List.getElem?_eq_getElem hkl]
    unfold wpList at hw
    split
    · rename_i hwa
      rw [if_pos hwa] at hw
      rcases hw with hw | hw
      · exact .inl (Oper.wp_mono next hw)
      · exact .inr hw
    · rename_i hwa
      rw [if_neg hwa] at hw
      exact next _ _ hw

structure Inv (l : List Oper) (n : Nat) (ns : List Nat) (ws : List (Nat × Nat)) (Phi : Nat → Spec) (w0 : World) (a0 : Act) (v vals : Nat → Value) (lo hi : Nat → Nat) (listed : Array Bool) (a : Act) (w : World) : Prop where
  below : Below w0.heap.size w0 w
  defers : a.defers = a0.defers
  size : a.tmps.size = a0.tmps.size
  lsz : listed.size = l.length
  notail : ∀ j, n ≤ j → tt listed j = false
  det : ∀ j, j < n → ns.contains j = false → tt listed j = true → ∀ t, dstOf l.toArray j = some t → t < a0.tmps.size → a.tmps[t]? = some (v j)
  nval : ∀ j, ns.contains j = true → tt listed j = true → ∀ t, dstOf l.toArray j = some t → t < a0.tmps.size → a.tmps[t]? = some (vals j)
  nphi : ∀ j, ns.contains j = true → tt listed j = true → w0.heap.size ≤ lo j ∧ lo j ≤ hi j ∧ hi j ≤ w.heap.size ∧ Phi j (vals j) (lo j) (hi j) w
  disj : ∀ j k, ns.contains j = true → ns.contains k = true → tt listed j = true → tt listed k = true → own ws j ≠ own ws k → hi j ≤ lo k ∨ hi k ≤ lo j
  tied : ∀ j, ns.contains j = true → tt listed j = true → own ws j ≠ j → lo j = lo (own ws j) ∧ hi j = hi (own ws j)
  rest : ∀ t, (∀ j, tt listed j = true → dstOf l.toArray j ≠ some t) → a.tmps[t]? = a0.tmps[t]?
  closed : ∀ j o, tt listed j = true → l[j]? = some o → ∀ e ∈ o.after, Region.binds .any e = true → tt listed e.on = true

theorem front_any (g : Good l n ns ws) {Phi : Nat → Spec} (hPhi : ∀ i, Lasting (Phi i)) (hLoc : ws = [] ∨ ∀ i, Local (Phi i)) {Q : Exit → Act → World → Prop} {w0 : World} {a0 : Act} {v : Nat → Value}
    (hv : ∀ i o, i < n → l[i]? = some o → ns.contains i = false → OpS P l.toArray o (v i) (acts l ns a0 v i) (Cls w0))
    (hO : Owed P l n ns ws Phi Q w0 (acts l ns a0 v n)) :
    ∀ (fuel : Nat) (vals : Nat → Value) (lo hi : Nat → Nat) (listed : Array Bool) (a : Act) (w : World), fuel + listed.toList.count true = l.length →
      Inv l n ns ws Phi w0 a0 v vals lo hi listed a w → wpAny P .any l.toArray Q fuel listed a w := by
  have dlt : ∀ j t, dstOf l.toArray j = some t → j < l.length := by
    intro j t h
    rcases Nat.lt_or_ge j l.length with h' | h'
    · exact h'
    · simp [dstOf, List.getElem?_eq_none h'] at h
  -- all of the front has come up
  have finish : ∀ (fuel : Nat) vals lo hi (listed : Array Bool) a w, fuel + listed.toList.count true = l.length → Inv l n ns ws Phi w0 a0 v vals lo hi listed a w → (∀ j, j < n → tt listed j = true) →
      wpAny P .any l.toArray Q fuel listed a w := by
    intro fuel vals lo hi listed a w hc hI hall
    have hform : ∀ j, j < l.length → tt listed j = decide (j < n) := by
      intro j _
      by_cases hj : j < n
      · simp [hj, hall j hj]
      · simp [hj, hI.notail j (by omega)]
    have hcount : listed.toList.count true = n := by
      have : listed.toList = List.replicate n true ++ List.replicate (l.length - n) false := by
        apply List.ext_getElem?
        intro j
        by_cases hj : j < l.length
        · have h1 := hform j hj
          unfold tt at h1
          have h2 : j < listed.size := by rw [hI.lsz]; exact hj
          simp only [Array.getD_eq_getD_getElem?, Array.getElem?_eq_getElem h2, Option.getD_some] at h1
          rw [Array.getElem?_toList, Array.getElem?_eq_getElem h2, h1]
          by_cases hjn : j < n
          · rw [List.getElem?_append_left (by simpa using hjn)]; simp [hjn]
          · rw [List.getElem?_append_right (by simp; omega), List.getElem?_replicate, if_pos (by simp; omega)]; simp [hjn]
        · rw [List.getElem?_eq_none (by simp [hI.lsz]; omega), List.getElem?_eq_none (by have := g.le; simp; omega)]
      rw [this]; simp [List.count_append, List.count_replicate]
    have haA : a = putN l vals ns (acts l ns a0 v n) := by
      have hns : ∀ i ∈ ns, i < n := fun i hi => g.inn i (by simpa using hi)
      have h1 : a.tmps = (putN l vals ns (acts l ns a0 v n)).tmps := by
        apply Array.ext_getElem?
        intro t
        by_cases hts : t < a0.tmps.size
        · by_cases hex : ∃ j, j < n ∧ dstOf l.toArray j = some t
          · obtain ⟨j, hjn, hj⟩ := hex
            cases hnj : ns.contains j with
            | true => rw [hI.nval j hnj (hall j hjn) t hj hts, putN_done g vals t j hjn hj ns hns _ (by rw [acts_size]; exact hts) (.inl (by simpa using hnj))]
            | false =>
              rw [hI.det j hjn hnj (hall j hjn) t hj hts, putN_rest, acts_done g _ _ t j hjn hnj hj hts n hjn (Nat.le_refl _)]
              intro i hi he
              exact g.dst j i t hjn (hns i hi) (fun e => by subst e; simp [hi] at hnj) hj he
          · rw [hI.rest t fun k hk he => hex ⟨k, (by
                rcases Nat.lt_or_ge k n with h | h
                · exact h
                · rw [hI.notail k h] at hk; cases hk), he⟩, putN_rest _ _ _ _ fun i hi he => hex ⟨i, hns i hi, he⟩, acts_rest _ _ _ _ fun k hk _ he => hex ⟨k, hk, he⟩]
        · rw [Array.getElem?_eq_none (by rw [hI.size]; exact Nat.le_of_not_lt hts), Array.getElem?_eq_none (by rw [putN_size, acts_size]; exact Nat.le_of_not_lt hts)]
      have h2 : a.defers = (putN l vals ns (acts l ns a0 v n)).defers := by rw [putN_defers, acts_defers]; exact hI.defers
      cases a; simp at h1 h2; subst h1; subst h2; rfl
    subst haA
    refine tail_any g fuel n listed _ w (by omega) (Nat.le_refl _) hI.lsz hform (hO.fin vals lo hi w hI.below ?_ ?_ ?_)
    · intro j hj; exact hI.nphi j hj (hall j (g.inn j hj))
    · intro j k hj hk hne; exact hI.disj j k hj hk (hall j (g.inn j hj)) (hall k (g.inn k hk)) hne
    · intro j hj hne; exact hI.tied j hj (hall j (g.inn j hj)) hne
  intro fuel
  induction fuel with
  | zero =>
    intro vals lo hi listed a w hc hI
    refine finish 0 vals lo hi listed a w hc hI fun j hj => ?_
    have h1 : j < listed.size := by rw [hI.lsz]; have := g.le; omega
    have h2 : ∀ b ∈ listed.toList, true = b := by
      rw [← List.count_eq_length]
      rw [Array.length_toList, hI.lsz]; omega
    have h3 := h2 (listed[j]) (by simp)
    unfold tt
    simp [h1, ← h3]
  | succ fuel ih =>
    intro vals lo hi listed a w hc hI
    by_cases hall : ∀ j, j < n → tt listed j = true
    · exact finish (fuel + 1) vals lo hi listed a w hc hI hall
    -- some are still to come
    obtain ⟨j0, hj0n, hj0⟩ : ∃ j, j < n ∧ tt listed j = false := by
      rcases Classical.not_forall.1 hall with ⟨j, hj⟩
      have := Classical.not_imp.1 hj
      exact ⟨j, this.1, by simpa using this.2⟩
    have hready : ∀ j, j < n → tt listed j = false → Region.ready .any l.toArray listed ≠ [] := by
      intro j
      induction j using Nat.strongRecOn with
      | _ j ihj =>
        intro hjn hj hr
        have hjl : j < l.length := by have := g.le; omega
        by_cases hw : ∀ e ∈ l[j].after, Region.binds .any e = true → tt listed e.on = true
        · have : j ∈ Region.ready .any l.toArray listed := by
            rw [mem_ready]
            refine ⟨by unfold tt at hj; simp [hI.lsz, hjl] at hj ⊢; exact hj, l[j], by simp [hjl], hw⟩
          rw [hr] at this; cases this
        · obtain ⟨e, he⟩ := Classical.not_forall.1 hw
          have h1 := Classical.not_imp.1 he
          have h2 := Classical.not_imp.1 h1.2
          have h3 := g.back j l[j] (by simp [hjl]) e h1.1 h2.1
          exact ihj e.on h3 (by omega) (by simpa using h2.2) hr
    refine ⟨fun h => absurd h (hready j0 hj0n hj0), fun i hi => ?_⟩
    rw [mem_ready] at hi
    obtain ⟨h0, o, ho, hwait⟩ := hi
    simp only [List.getElem?_toArray] at ho
    have hlo := (List.getElem?_eq_some_iff.1 ho).1
    have hlt : i < listed.size := by rw [hI.lsz]; exact hlo
    have hDi : tt listed i = false := by unfold tt; simp [hlt] at h0 ⊢; exact h0
    have hin : i < n := by
      rcases Nat.lt_or_ge i n with h | h
      · exact h
      · have := cover hI.closed i o ho hwait j0 (g.tail i j0 h hlo (by omega))
        rw [hj0] at this; cases this
    have hd : dstOf l.toArray i = o.dst := by simp [dstOf, ho]
    have hcnt : fuel + (listed.setIfInBounds i true).toList.count true = l.length := by rw [count_set hlt h0]; omega
    have hcl : ∀ j o', tt (listed.setIfInBounds i true) j = true → l[j]? = some o' → ∀ e ∈ o'.after, Region.binds .any e = true → tt (listed.setIfInBounds i true) e.on = true := by
      intro j o' hj ho' e he hbd
      rw [tt_set hlt] at hj ⊢
      by_cases hji : j = i
      · subst hji
        rw [ho] at ho'; cases ho'
        have := hwait e he hbd
        split
        · rfl
        · exact this
      · simp [hji] at hj
        have := hI.closed j o' hj ho' e he hbd
        split
        · rfl
        · exact this
    have hrest : ∀ u t, (∀ j, tt (listed.setIfInBounds i true) j = true → dstOf l.toArray j ≠ some t) → (a.put o.dst u).tmps[t]? = a0.tmps[t]? := by
      intro u t ht
      rw [put_other]
      · refine hI.rest t fun j hj => ht j ?_
        rw [tt_set hlt]; split <;> first | rfl | exact hj
      · have := ht i (by rw [tt_set hlt]; simp)
        rwa [hd] at this
    have hnt : ∀ j, n ≤ j → tt (listed.setIfInBounds i true) j = false := by
      intro j hj
      rw [tt_set hlt, if_neg (by omega)]; exact hI.notail j hj
    have other : ∀ j t, j < n → j ≠ i → dstOf l.toArray j = some t → ∀ u, (a.put o.dst u).tmps[t]? = a.tmps[t]? := by
      intro j t hj hji hjt u
      rw [put_other]
      intro he
      exact g.dst i j t hin hj (Ne.symm hji) (hd.trans he) hjt
    cases hni : ns.contains i with
    | false =>
      -- a settled one
      have hag : ∀ t ∈ o.looksAt l.toArray, a.tmps[t]? = (acts l ns a0 v i).tmps[t]? := by
        intro t ht
        by_cases hsz : t < a0.tmps.size
        case neg =>
          rw [Array.getElem?_eq_none (by rw [hI.size]; exact Nat.le_of_not_lt hsz), Array.getElem?_eq_none (by rw [acts_size]; exact Nat.le_of_not_lt hsz)]
        by_cases hex : ∃ j, j < n ∧ dstOf l.toArray j = some t
        · obtain ⟨j, hjn, hj⟩ := hex
          have others : ∀ k, k < n → k ≠ j → dstOf l.toArray k ≠ some t := fun k hkn hk he => g.dst k j t hkn hjn hk he hj
          have hjl := dlt j t hj
          have hjd : l[j].dst = some t := by simpa [dstOf, hjl] using hj
          have back : ∀ k, tt listed k = true → k < n := fun k hk => by
            rcases Nat.lt_or_ge k n with h | h
            · exact h
            · rw [hI.notail k h] at hk; cases hk
          by_cases hji : j = i
          · subst hji
            rw [hI.rest t fun k hk he => others k (back k hk) (fun e => by subst e; rw [hDi] at hk; cases hk) he, acts_rest _ _ _ _ fun k hk _ => others k (by omega) (by omega)]
          · have hp := g.look i j o l[j] t hin hjn ho (by simp [hjl]) (Ne.symm hji) hjd ht
            rw [if_neg (by rw [hni]; simp)] at hp
            obtain ⟨hnj, ⟨hlt', hw⟩ | ⟨hlt', hw⟩⟩ := hp
            · obtain ⟨e, he, hb, hon⟩ := waits_spec hw
              have hDj : tt listed j = true := hon ▸ hwait e he hb
              rw [hI.det j hjn hnj hDj t hj hsz, acts_done g _ _ t j hjn hnj hj hsz i hlt' (by omega)]
            · obtain ⟨e, he, hb, hon⟩ := waits_spec hw
              have hDj : tt listed j = false := by
                cases hDj : tt listed j with
                | false => rfl
                | true =>
                  have := hI.closed j l[j] hDj (by simp [hjl]) e he hb
                  rw [hon, hDi] at this
                  cases this
              rw [hI.rest t fun k hk he => others k (back k hk) (fun e => by subst e; rw [hDj] at hk; cases hk) he, acts_rest _ _ _ _ fun k hk _ => others k (by omega) (by omega)]
        · rw [hI.rest t fun k hk he => hex ⟨k, (by
              rcases Nat.lt_or_ge k n with h | h
              · exact h
              · rw [hI.notail k h] at hk; cases hk), he⟩, acts_rest _ _ _ _ fun k hk _ he => hex ⟨k, by omega, he⟩]
      have hexec : execOp a.eval o = execOp (acts l ns a0 v i).eval o :=
        execOp_congr o (fun cs b => Region.noSelect_spec g.sel i o cs b (by simpa using ho)) (eval_eq hag)
      have next : ∀ w', Below w.heap.size w w' ∨ (ns = [] ∧ Below w0.heap.size w0 w') → wpAny P .any l.toArray Q fuel (listed.setIfInBounds i true) (a.put o.dst (v i)) w' := by
        intro w' hb
        have hb0 : Below w0.heap.size w0 w' := by
          rcases hb with hb | hb
          · exact hI.below.trans (hb.mono hI.below.size)
          · exact hb.2
        refine ih vals lo hi _ _ w' hcnt ⟨hb0, by rw [put_defers]; exact hI.defers, by rw [put_size]; exact hI.size, by simpa using hI.lsz, hnt, ?_, ?_, ?_, ?_, ?_, fun t ht => hrest _ t ht, hcl⟩
        · intro j hjn hnj hj t ht hts
          by_cases hji : j = i
          · subst hji
            rw [hd] at ht; rw [ht]; exact put_same _ _ _ (by rw [hI.size]; exact hts)
          · rw [tt_set hlt, if_neg hji] at hj
            rw [other j t hjn hji ht]; exact hI.det j hjn hnj hj t ht hts
        · intro j hnj hj t ht hts
          have hji : j ≠ i := fun e => by subst e; rw [hni] at hnj; cases hnj
          rw [tt_set hlt, if_neg hji] at hj
          rw [other j t (g.inn j hnj) hji ht]; exact hI.nval j hnj hj t ht hts
        · intro j hnj hj
          have hji : j ≠ i := fun e => by subst e; rw [hni] at hnj; cases hnj
          rw [tt_set hlt, if_neg hji] at hj
          obtain ⟨h1, h2, h3, h4⟩ := hI.nphi j hnj hj
          rcases hb with hb | hb
          · exact ⟨h1, h2, Nat.le_trans h3 hb.size, hPhi j _ _ _ _ _ hb h3 h4⟩
          · rw [hb.1] at hnj; simp at hnj
        · intro j k hnj hnk hj hk hne
          have hji : j ≠ i := fun e => by subst e; rw [hni] at hnj; cases hnj
          have hki : k ≠ i := fun e => by subst e; rw [hni] at hnk; cases hnk
          rw [tt_set hlt, if_neg hji] at hj
          rw [tt_set hlt, if_neg hki] at hk
          exact hI.disj j k hnj hnk hj hk hne
        · intro j hnj hj hne
          have hji : j ≠ i := fun e => by subst e; rw [hni] at hnj; cases hnj
          rw [tt_set hlt, if_neg hji] at hj
          exact hI.tied j hnj hj hne
      unfold wpOp
      simp only [List.getElem?_toArray, ho]
      rcases hv i o hin ho hni with ⟨hw, hy⟩ | ⟨hw, hu⟩
      · rw [if_pos (by rw [wanted_same hag]; exact hw)]
        refine .inl ?_
        have hq := hy w (cls_iff.2 hI.below)
        unfold Oper.quietAt at hq
        unfold Oper.wp
        rw [hexec]
        generalize hrun : (execOp (acts l ns a0 v i).eval o).run P w = r at *
        cases r with
        | ok x w' =>
          cases x <;> simp only [Oper.quietUpon] at hq <;> simp only [Oper.upon]
          case value u => obtain ⟨e1, e2⟩ := hq; rw [e1, e2]; exact next w (.inl (Below.refl _ _))
          case skip => obtain ⟨e1, e2⟩ := hq; rw [e1, ← e2]; exact next w (.inl (Below.refl _ _))
          case enter f args =>
            obtain ⟨e1, hc⟩ := hq
            rw [e1]
            rcases g.calls with hnil | hno
            · exact Calls.mono hc fun e w'' ⟨he, hw''⟩ => by subst he; exact next w'' (.inr ⟨hnil, cls_iff.1 hw''⟩)
            · exact absurd hrun (not_enter (hno i o hin ho hni))
        | halt x w' => simp only [Oper.quietUpon] at hq
      · rw [if_neg (by rw [wanted_same hag, hw]; simp)]
        have := next w (.inl (Below.refl _ _))
        rw [hu] at this
        exact this
    | true =>
      -- one that makes memory
      have hns : ∀ i ∈ ns, i < n := fun i hi => g.inn i (by simpa using hi)
      have hag : ∀ t ∈ o.looksAt l.toArray, a.tmps[t]? = (putN l vals ns (acts l ns a0 v n)).tmps[t]? := by
        intro t ht
        by_cases hsz : t < a0.tmps.size
        case neg =>
          rw [Array.getElem?_eq_none (by rw [hI.size]; exact Nat.le_of_not_lt hsz), Array.getElem?_eq_none (by rw [putN_size, acts_size]; exact Nat.le_of_not_lt hsz)]
        by_cases hex : ∃ j, j < n ∧ dstOf l.toArray j = some t
        · obtain ⟨j, hjn, hj⟩ := hex
          have hjl := dlt j t hj
          have hjd : l[j].dst = some t := by simpa [dstOf, hjl] using hj
          by_cases hji : j = i
          · subst hji
            have : o.dst = some t := by rw [← hd]; exact hj
            exact absurd ht (g.mine j o t hni ho this)
          · have hp := g.look i j o l[j] t hin hjn ho (by simp [hjl]) (Ne.symm hji) hjd ht
            rw [if_pos hni] at hp
            obtain ⟨e, he, hb, hon⟩ := waits_spec hp
            have hDj : tt listed j = true := hon ▸ hwait e he hb
            cases hnj : ns.contains j with
            | true => rw [hI.nval j hnj hDj t hj hsz, putN_done g vals t j hjn hj ns hns _ (by rw [acts_size]; exact hsz) (.inl (by simpa using hnj))]
            | false =>
              rw [hI.det j hjn hnj hDj t hj hsz, putN_rest, acts_done g _ _ t j hjn hnj hj hsz n hjn (Nat.le_refl _)]
              intro k hk he'
              exact g.dst j k t hjn (hns k hk) (fun e => by subst e; simp [hk] at hnj) hj he'
        · rw [hI.rest t fun k hk he => hex ⟨k, (by
              rcases Nat.lt_or_ge k n with h | h
              · exact h
              · rw [hI.notail k h] at hk; cases hk), he⟩, putN_rest _ _ _ _ fun i hi he => hex ⟨i, hns i hi, he⟩, acts_rest _ _ _ _ fun k hk _ he => hex ⟨k, by omega, he⟩]
      have hexec : execOp a.eval o = execOp (putN l vals ns (acts l ns a0 v n)).eval o :=
        execOp_congr o (fun cs b => Region.noSelect_spec g.sel i o cs b (by simpa using ho)) (eval_eq hag)
      have hdeps : ∀ j, ns.contains j = true → Waits o j = true → w0.heap.size ≤ lo j ∧ lo j ≤ hi j ∧ hi j ≤ w.heap.size ∧ Phi j (vals j) (lo j) (hi j) w := by
        intro j hnj hw
        obtain ⟨e, he, hb, hon⟩ := waits_spec hw
        exact hI.nphi j hnj (hon ▸ hwait e he hb)
      have hne : ∀ j, tt listed j = true → j ≠ i := fun j hj e => by subst e; rw [hDi] at hj; cases hj
      have hdet : ∀ u j, j < n → ns.contains j = false → tt (listed.setIfInBounds i true) j = true → ∀ t, dstOf l.toArray j = some t → t < a0.tmps.size → (a.put o.dst u).tmps[t]? = some (v j) := by
        intro u j hjn hnj hj t ht hts
        have hji : j ≠ i := fun e => by subst e; rw [hni] at hnj; cases hnj
        rw [tt_set hlt, if_neg hji] at hj
        rw [other j t hjn hji ht]; exact hI.det j hjn hnj hj t ht hts
      have hnval : ∀ u j, ns.contains j = true → tt (listed.setIfInBounds i true) j = true → ∀ t, dstOf l.toArray j = some t → t < a0.tmps.size → (a.put o.dst u).tmps[t]? = some (if j = i then u else vals j) := by
        intro u j hnj hj t ht hts
        by_cases hji : j = i
        · subst hji
          rw [hd] at ht; rw [ht]
          simp only [if_true]
          exact put_same _ _ _ (by rw [hI.size]; exact hts)
        · rw [tt_set hlt, if_neg hji] at hj
          rw [other j t (g.inn j hnj) hji ht]
          simp only [hji, if_false]
          exact hI.nval j hnj hj t ht hts
      have waitsOwn : ∀ j, ns.contains j = true → own ws j ≠ j → tt listed j = true → tt listed (own ws j) = true := by
        intro j hnj hoj hj
        have hjl : j < l.length := by have := g.inn j hnj; have := g.le; omega
        obtain ⟨e, he, hb, hon⟩ := waits_spec ((g.wr j hnj hoj).2.2.1 l[j] (by simp [hjl]))
        have := hI.closed j l[j] hj (by simp [hjl]) e he hb
        rw [← hon]; exact this
      unfold wpOp
      simp only [List.getElem?_toArray, ho]
      by_cases hoi : own ws i = i
      · have next : ∀ u w', Below w.heap.size w w' → Phi i u w.heap.size w'.heap.size w' → wpAny P .any l.toArray Q fuel (listed.setIfInBounds i true) (a.put o.dst u) w' := by
          intro u w' hb hp
          refine ih (fun k => if k = i then u else vals k) (fun k => if k = i then w.heap.size else lo k) (fun k => if k = i then w'.heap.size else hi k) _ _ w' hcnt
            ⟨hI.below.trans (hb.mono hI.below.size), by rw [put_defers]; exact hI.defers, by rw [put_size]; exact hI.size, by simpa using hI.lsz, hnt, hdet u, hnval u, ?_, ?_, ?_, fun t ht => hrest _ t ht, hcl⟩
          · intro j hnj hj
            by_cases hji : j = i
            · subst hji
              simp only [if_true]
              exact ⟨hI.below.size, hb.size, Nat.le_refl _, hp⟩
            · rw [tt_set hlt, if_neg hji] at hj
              simp only [hji, if_false]
              obtain ⟨h1, h2, h3, h4⟩ := hI.nphi j hnj hj
              exact ⟨h1, h2, Nat.le_trans h3 hb.size, hPhi j _ _ _ _ _ hb h3 h4⟩
          · intro j k hnj hnk hj hk hjk
            rw [tt_set hlt] at hj hk
            by_cases hji : j = i
            · have hki : k ≠ i := fun e => hjk (by rw [hji, e])
              rw [if_neg hki] at hk
              simp only [hji, hki, if_true, if_false]
              have := hI.nphi k hnk hk
              omega
            · rw [if_neg hji] at hj
              by_cases hki : k = i
              · simp only [hji, hki, if_true, if_false]
                have := hI.nphi j hnj hj
                omega
              · rw [if_neg hki] at hk
                simp only [hji, hki, if_false]
                exact hI.disj j k hnj hnk hj hk hjk
          · intro j hnj hj hoj
            rw [tt_set hlt] at hj
            have hji : j ≠ i := fun e => hoj (by rw [e]; exact hoi)
            rw [if_neg hji] at hj
            have hoji : own ws j ≠ i := hne _ (waitsOwn j hnj hoj hj)
            simp only [hji, hoji, if_false]
            exact hI.tied j hnj hj hoj
        rcases hO.each i o hni hoi ho vals lo hi w hI.below hdeps with ⟨hw, hg⟩ | ⟨hw, hg⟩
        · rw [if_pos (by rw [wanted_same hag]; exact hw)]
          exact .inl (gives_upon hg hexec fun u w' h => next u w' h.1 h.2)
        · rw [if_neg (by rw [wanted_same hag, hw]; simp)]
          exact next undef w (Below.refl _ _) hg
      · obtain ⟨hnj, hooj, hwj, huniq⟩ := g.wr i hni hoi
        have hjl : tt listed (own ws i) = true := by
          obtain ⟨e, he, hb, hon⟩ := waits_spec (hwj o ho)
          have := hwait e he hb
          rw [← hon]; exact this
        obtain ⟨q1, q2, q3, q4⟩ := hI.nphi _ hnj hjl
        have next : ∀ u w', Wr (lo (own ws i)) (hi (own ws i)) w w' → Phi i u (lo (own ws i)) (hi (own ws i)) w' → Phi (own ws i) (vals (own ws i)) (lo (own ws i)) (hi (own ws i)) w' →
            wpAny P .any l.toArray Q fuel (listed.setIfInBounds i true) (a.put o.dst u) w' := by
          intro u w' hb hp hpo
          refine ih (fun k => if k = i then u else vals k) (fun k => if k = i then lo (own ws i) else lo k) (fun k => if k = i then hi (own ws i) else hi k) _ _ w' hcnt
            ⟨hb.below hI.below q1, by rw [put_defers]; exact hI.defers, by rw [put_size]; exact hI.size, by simpa using hI.lsz, hnt, hdet u, hnval u, ?_, ?_, ?_, fun t ht => hrest _ t ht, hcl⟩
          · intro j hnj' hj
            by_cases hji : j = i
            · subst hji
              simp only [if_true]
              exact ⟨q1, q2, by rw [hb.size]; exact q3, hp⟩
            · rw [tt_set hlt, if_neg hji] at hj
              simp only [hji, if_false]
              obtain ⟨h1, h2, h3, h4⟩ := hI.nphi j hnj' hj
              refine ⟨h1, h2, by rw [hb.size]; exact h3, ?_⟩
              by_cases hjo : j = own ws i
              · rw [hjo]; exact hpo
              · rcases hLoc with hw0 | hLoc
                · exact absurd (by rw [hw0]; rfl) hoi
                refine hLoc j _ _ _ _ _ _ _ hb ?_ h4
                have hoo : own ws j ≠ own ws (own ws i) := by rw [hooj]; exact huniq j hnj' hji hjo
                have := hI.disj j (own ws i) hnj' hnj hj hjl hoo
                omega
          · intro j k hnj' hnk hj hk hjk
            rw [tt_set hlt] at hj hk
            by_cases hji : j = i
            · have hki : k ≠ i := fun e => hjk (by rw [hji, e])
              rw [if_neg hki] at hk
              simp only [hji, hki, if_true, if_false]
              rw [hji] at hjk
              exact hI.disj (own ws i) k hnj hnk hjl hk (by rw [hooj]; exact hjk)
            · rw [if_neg hji] at hj
              by_cases hki : k = i
              · simp only [hji, hki, if_true, if_false]
                rw [hki] at hjk
                exact hI.disj j (own ws i) hnj' hnj hj hjl (by rw [hooj]; exact hjk)
              · rw [if_neg hki] at hk
                simp only [hji, hki, if_false]
                exact hI.disj j k hnj' hnk hj hk hjk
          · intro j hnj' hj hoj
            rw [tt_set hlt] at hj
            by_cases hji : j = i
            · rw [hji]
              simp only [hoi, if_true, if_false]
              exact ⟨trivial, trivial⟩
            · rw [if_neg hji] at hj
              have hoji : own ws j ≠ i := hne _ (waitsOwn j hnj' hoj hj)
              simp only [hji, hoji, if_false]
              exact hI.tied j hnj' hj hoj
        obtain ⟨hw, hg⟩ := hO.wrts i o hni hoi ho vals lo hi w hI.below hdeps
        rw [if_pos (by rw [wanted_same hag]; exact hw)]
        exact .inl (gives_upon hg hexec fun u w' h => next u w' h.1 h.2.1 h.2.2)

theorem wpQuiet_mono {ops : Array Oper} {C : World → Prop} {R R' : Act → Prop} (h : ∀ a, R a → R' a) : ∀ (m : List Oper) (a : Act), wpQuiet P ops C R m a → wpQuiet P ops C R' m a := by
  intro m
  induction m with
  | nil => intro a hh; exact h a hh
  | cons o m ih =>
    intro a hh
    unfold wpQuiet at hh ⊢
    split at hh
    · rename_i hw; rw [if_pos hw]; exact Oper.quiet_mono ih hh
    · rename_i hw; rw [if_neg hw]; exact ih _ hh

/-- **A region that draws its order.** -/
theorem wp_region_or {id : Nat} {Q : Exit → Act → World → Prop} {a0 : Act} {w0 : World} (n : Nat) (ns : List Nat) (ws : List (Nat × Nat)) (Phi : Nat → Spec) (hPhi : ∀ i, Lasting (Phi i)) (hLoc : ws = [] ∨ ∀ i, Local (Phi i)) (hm : P.follows .mixedOrders = true) (hok : ok l n ns ws = true)
    (h : wpQuiet P l.toArray (fun w' => ∃ p : Regrown, w' = Sort.grow (redrawn w0 p.d) p.os) (Owed P l n ns ws Phi Q w0) (pick ns 0 (l.take n)) a0) : (Code.region id l.toArray true).wp P Q a0 w0 := by
  have g := good_of hok
  obtain ⟨v, hv, hO⟩ := acts_of (C := Cls w0) (Owed P l n ns ws Phi Q w0) a0 h g.le
  refine wp_region_any hm (front_any g hPhi hLoc hv hO _ (fun _ => undef) (fun _ => 0) (fun _ => 0) (Array.replicate l.toArray.size false) a0 _ (by simp [List.count_replicate])
    ⟨(Below.refl _ _).drew, rfl, rfl, by simp, fun j _ => tt0 _ _, ?_, ?_, ?_, ?_, ?_, fun t _ => rfl, ?_⟩)
  · intro j _ _ hj; rw [tt0] at hj; cases hj
  · intro j _ hj; rw [tt0] at hj; cases hj
  · intro j _ hj; rw [tt0] at hj; cases hj
  · intro j k _ _ hj; rw [tt0] at hj; cases hj
  · intro j _ hj; rw [tt0] at hj; cases hj
  · intro j o hj; rw [tt0] at hj; cases hj

theorem wp_region {id : Nat} {Q : Exit → Act → World → Prop} {a0 : Act} {w0 : World} (n : Nat) (ns : List Nat) (ws : List (Nat × Nat)) (Phi : Nat → Spec) (hPhi : ∀ i, Lasting (Phi i)) (hLoc : ∀ i, Local (Phi i)) (hm : P.follows .mixedOrders = true) (hok : ok l n ns ws = true)
    (h : wpQuiet P l.toArray (fun w' => ∃ p : Regrown, w' = Sort.grow (redrawn w0 p.d) p.os) (Owed P l n ns ws Phi Q w0) (pick ns 0 (l.take n)) a0) : (Code.region id l.toArray true).wp P Q a0 w0 :=
  wp_region_or n ns ws Phi hPhi (.inr hLoc) hm hok h
/-- Where nothing is written: what an operation is good for need not be a thing of its own blocks. -/
theorem wp_region0 {id : Nat} {Q : Exit → Act → World → Prop} {a0 : Act} {w0 : World} (n : Nat) (ns : List Nat) (Phi : Nat → Spec) (hPhi : ∀ i, Lasting (Phi i)) (hm : P.follows .mixedOrders = true) (hok : ok l n ns [] = true)
    (h : wpQuiet P l.toArray (fun w' => ∃ p : Regrown, w' = Sort.grow (redrawn w0 p.d) p.os) (Owed P l n ns [] Phi Q w0) (pick ns 0 (l.take n)) a0) : (Code.region id l.toArray true).wp P Q a0 w0 :=
  wp_region_or n ns [] Phi hPhi (.inl rfl) hm hok h

/-- Nothing but settled ones ahead of the tail. -/
theorem wp_region_tail {id : Nat} {Q : Exit → Act → World → Prop} {a0 : Act} {w0 : World} (n : Nat) (hm : P.follows .mixedOrders = true) (hok : ok l n [] [] = true)
    (h : wpQuiet P l.toArray (fun w' => ∃ p : Regrown, w' = Sort.grow (redrawn w0 p.d) p.os) (fun A => ∀ w, Below w0.heap.size w0 w → wpList P l.toArray Q (l.drop n) A w) (l.take n) a0) : (Code.region id l.toArray true).wp P Q a0 w0 := by
  have hp : ∀ (m : List Oper) k, pick [] k m = m := by
    intro m
    induction m with
    | nil => intro k; rfl
    | cons o m ih => intro k; rw [pick, if_neg (by simp), ih]
  refine wp_region n [] [] (fun _ _ _ _ _ => True) (fun _ _ _ _ _ _ _ _ _ => trivial) (fun _ _ _ _ _ _ _ _ _ _ _ => trivial) hm hok ?_
  rw [hp]
  refine wpQuiet_mono ?_ _ _ h
  intro A hA
  exact ⟨fun i o hi => by simp at hi, fun i o hi => by simp at hi, fun vals lo hi w hb _ _ _ => hA w hb⟩

end

/-! ### Cells in the class -/
theorem cell_cls (W : World) (d : Nat) (os : Array Obj) (a : Addr) (h : a.block < W.heap.size) : (Sort.grow (redrawn W d) os).cell? a = W.cell? a :=
  Sort.cell?_grow (redrawn W d) os a h
theorem frozen_cls (W : World) (d : Nat) (os : Array Obj) (a : Addr) (h : a.block < W.heap.size) : (Sort.grow (redrawn W d) os).frozen? a = W.frozen? a :=
  Sort.frozen?_grow (redrawn W d) os a h
theorem size_redrawn (W : World) (d : Nat) : (redrawn W d).heap = W.heap := rfl

end Go.Fat
