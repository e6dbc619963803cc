/- A region that draws its order, within a round of a range over a function. (Written by fatrd.py out of FatIn.) -/
import Derived.Test.YtingfmdbihbamaaGreatFatIn
import Derived.RangeFuncCalls
import Derived.OwnWalkIn
import Derived.OrdersIn
import Derived.TacticsIn
namespace Go.Fat.R
open Go.RowKit

/-- No 'defer' among the operations. -/
def noDefer (l : List Oper) : Bool := l.all fun o => match o.op with | .defer _ => false | _ => true
theorem nd {l : List Oper} (h : noDefer l = true) {i : Nat} {o : Oper} (ho : l[i]? = some o) : ∀ c, o.op ≠ .defer c := fun c e => by
  have := List.all_eq_true.1 h o (List.mem_of_getElem? ho)
  rw [e] at this; cases this

theorem rowsIn_of_rows {m lr : Nat} {P : Program} {row : String} {args : Array Value} {w : World} {R : Value → World → Prop} (h : Rows P row args w R) : RowsIn (Fence.wide.inRound lr) m P row args w R :=
  fun c cs _ => let ⟨v, w', r, s⟩ := h c cs; ⟨v, w', r, stepsIn_wide.2 s⟩
theorem wpIn_of_wp {m lr : Nat} {P : Program} {o : Oper} {a : Act} {w : World} {K : Act → World → Prop} {Q : Exit → Act → World → Prop} (hd : ∀ c, o.op ≠ .defer c) (h : o.wp P a w K Q) : o.wpIn (Fence.wide.inRound lr) m P a w K Q := by
  refine ⟨fun _ _ => trivial, ?_⟩
  rw [Oper.semAt_plain _ _ _ hd]
  unfold Oper.wp at h
  generalize (execOp a.eval o).run P w = r at *
  cases r with
  | ok x w' =>
    cases x <;> simp only [Oper.upon] at h <;> simp only [Oper.uponIn]
    case value v => exact h
    case skip => exact h
    case defer d => exact h
    case enter f args => exact ⟨fun hd => by simp [Fence.wide] at hd, CallsIn.inRound lr (callsIn_wide.2 h)⟩
    case row r args => exact ⟨fun hd => by simp [Fence.wide] at hd, rowsIn_of_rows h⟩
  | halt x w' => cases x <;> simp only [Oper.upon] at h <;> simp only [Oper.uponIn]; exact h

section
variable {m lr : Nat} {P : Program} {l : List Oper} {n : Nat} {ns : List Nat} {ws : List (Nat × Nat)}

/-- What is owed of those that make memory, and of the tail, once the settled ones have been walked: A is the frame. -/
structure OwedIn (m lr : Nat) (P : Program) (l : List Oper) (n : Nat) (ns : List Nat) (ws : List (Nat × Nat)) (Phi : Nat → Spec) (Q : Exit → Act → World → Prop) (w0 : World) (A : Act) : Prop where
  each : ∀ i o, ns.contains i = true → own ws i = i → l[i]? = some o → ∀ (vals : Nat → Value) (lo hi : Nat → Nat) (w : World), Below w0.heap.size w0 w →
    (∀ j, ns.contains j = true → Waits o j = true → w0.heap.size ≤ lo j ∧ lo j ≤ hi j ∧ hi j ≤ w.heap.size ∧ Phi j (vals j) (lo j) (hi j) w) →
    (Region.wanted o (yielded l.toArray (putN l vals ns A).tmps) = true ∧ gives P o (putN l vals ns A) w fun v w' => Below w.heap.size w w' ∧ Phi i v w.heap.size w'.heap.size w') ∨
    (Region.wanted o (yielded l.toArray (putN l vals ns A).tmps) = false ∧ Phi i undef w.heap.size w.heap.size w)
  wrts : ∀ i o, ns.contains i = true → own ws i ≠ i → l[i]? = some o → ∀ (vals : Nat → Value) (lo hi : Nat → Nat) (w : World), Below w0.heap.size w0 w →
    (∀ j, ns.contains j = true → Waits o j = true → w0.heap.size ≤ lo j ∧ lo j ≤ hi j ∧ hi j ≤ w.heap.size ∧ Phi j (vals j) (lo j) (hi j) w) →
    Region.wanted o (yielded l.toArray (putN l vals ns A).tmps) = true ∧ gives P o (putN l vals ns A) w fun v w' =>
      Wr (lo (own ws i)) (hi (own ws i)) w w' ∧ Phi i v (lo (own ws i)) (hi (own ws i)) w' ∧ Phi (own ws i) (vals (own ws i)) (lo (own ws i)) (hi (own ws i)) w'
  fin : ∀ (vals : Nat → Value) (lo hi : Nat → Nat) (w : World), Below w0.heap.size w0 w →
    (∀ j, ns.contains j = true → w0.heap.size ≤ lo j ∧ lo j ≤ hi j ∧ hi j ≤ w.heap.size ∧ Phi j (vals j) (lo j) (hi j) w) →
    (∀ j k, ns.contains j = true → ns.contains k = true → own ws j ≠ own ws k → hi j ≤ lo k ∨ hi k ≤ lo j) →
    (∀ j, ns.contains j = true → own ws j ≠ j → lo j = lo (own ws j) ∧ hi j = hi (own ws j)) →
    wpListIn (Fence.wide.inRound lr) m P l.toArray Q (l.drop n) (putN l vals ns A) w

theorem tail_anyIn (g : Good l n ns ws) {Q : Exit → Act → World → Prop} : ∀ (fuel k : Nat) (listed : Array Bool) (a : Act) (w : World), k + fuel = l.length → n ≤ k → listed.size = l.length →
    (∀ j, j < l.length → tt listed j = decide (j < k)) → wpListIn (Fence.wide.inRound lr) m P l.toArray Q (l.drop k) a w → wpAnyIn (Fence.wide.inRound lr) m P .any l.toArray Q fuel listed a w := by
  intro fuel
  have only : ∀ (k : Nat) (listed : Array Bool), n ≤ k → listed.size = l.length → (∀ j, j < l.length → tt listed j = decide (j < k)) →
      ∀ i, i ∈ Region.ready .any l.toArray listed → i = k ∧ k < l.length := by
    intro k listed hk hs hl i hi
    rw [mem_ready] at hi
    obtain ⟨h0, o, ho, hall⟩ := hi
    simp only [List.getElem?_toArray] at ho
    have hlt := (List.getElem?_eq_some_iff.1 ho).1
    have hti : tt listed i = false := by unfold tt; simp [hs, hlt] at h0 ⊢; exact h0
    rw [hl i hlt] at hti
    have hki : k ≤ i := by simpa using hti
    have hcl : ∀ j o, tt listed j = true → l[j]? = some o → ∀ e ∈ o.after, Region.binds .any e = true → tt listed e.on = true := by
      intro j o' hj ho' e he hb
      have h1 := g.back j o' ho' e he hb
      have h2 := (List.getElem?_eq_some_iff.1 ho').1
      rw [hl j h2] at hj
      rw [hl e.on (by omega)]
      simp at hj ⊢; omega
    refine ⟨?_, by omega⟩
    by_cases hik : i = k
    · exact hik
    · have := cover hcl i o ho hall k (g.tail i k (by omega) hlt (by omega))
      rw [hl k (by omega)] at this
      simp at this
  induction fuel with
  | zero =>
    intro k listed a w hk hn hs hl hw
    have hr : Region.ready .any l.toArray listed = [] := by
      cases hr : Region.ready .any l.toArray listed with
      | nil => rfl
      | cons x xs =>
        have := only k listed hn hs hl x (by rw [hr]; simp)
        omega
    refine ⟨hr, ?_⟩
    rw [List.drop_eq_nil_of_le (by omega)] at hw
    exact hw
  | succ fuel ih =>
    intro k listed a w hk hn hs hl hw
    have hkl : k < l.length := by omega
    have hmem : k ∈ Region.ready .any l.toArray listed := by
      rw [mem_ready]
      refine ⟨?_, l[k], by simp [hkl], fun e he hb => ?_⟩
      · have := hl k hkl
        unfold tt at this
        simp [hs, hkl] at this ⊢; exact this
      · have h1 := g.back k l[k] (by simp [hkl]) e he hb
        have := hl e.on (by omega)
        unfold tt at this
        rw [this]; simpa using h1
    refine ⟨fun h0 => (by rw [h0] at hmem; cases hmem), fun i hi => ?_⟩
    obtain ⟨rfl, _⟩ := only k listed hn hs hl i hi
    rw [List.drop_eq_getElem_cons hkl] at hw
    have next : ∀ a' w', wpListIn (Fence.wide.inRound lr) m P l.toArray Q (l.drop (i + 1)) a' w' → wpAnyIn (Fence.wide.inRound lr) m P .any l.toArray Q fuel (listed.setIfInBounds i true) a' w' := by
      intro a' w' h
      refine ih (i + 1) _ a' w' (by omega) (by omega) (by simpa using hs) (fun j hj => ?_) h
      rw [tt_set (by omega)]
      by_cases hji : j = i
      · simp [hji]
      · rw [if_neg hji, hl j hj]; simp; omega
    unfold wpOpIn
    simp only [List.getElem?_toArray, List.getElem?_eq_getElem hkl]
    unfold wpListIn at hw
    split
    · rename_i hwa
      rw [if_pos hwa] at hw
      exact Oper.wpIn_mono next hw
    · rename_i hwa
      rw [if_neg hwa] at hw
      exact ⟨hw.1, next _ _ hw.2⟩

theorem front_anyIn (hdf : noDefer l = true) (g : Good l n ns ws) {Phi : Nat → Spec} (hPhi : ∀ i, Lasting (Phi i)) (hLoc : ws = [] ∨ ∀ i, Local (Phi i)) {Q : Exit → Act → World → Prop} {w0 : World} {a0 : Act} {v : Nat → Value}
    (hv : ∀ i o, i < n → l[i]? = some o → ns.contains i = false → OpS P l.toArray o (v i) (acts l ns a0 v i) (Cls w0))
    (hO : OwedIn m lr P l n ns ws Phi Q w0 (acts l ns a0 v n)) :
    ∀ (fuel : Nat) (vals : Nat → Value) (lo hi : Nat → Nat) (listed : Array Bool) (a : Act) (w : World), fuel + listed.toList.count true = l.length →
      Inv l n ns ws Phi w0 a0 v vals lo hi listed a w → wpAnyIn (Fence.wide.inRound lr) m P .any l.toArray Q fuel listed a w := by
  have dlt : ∀ j t, dstOf l.toArray j = some t → j < l.length := by
    intro j t h
    rcases Nat.lt_or_ge j l.length with h' | h'
    · exact h'
    · simp [dstOf, List.getElem?_eq_none h'] at h
  -- all of the front has come up
  have finish : ∀ (fuel : Nat) vals lo hi (listed : Array Bool) a w, fuel + listed.toList.count true = l.length → Inv l n ns ws Phi w0 a0 v vals lo hi listed a w → (∀ j, j < n → tt listed j = true) →
      wpAnyIn (Fence.wide.inRound lr) m P .any l.toArray Q fuel listed a w := by
    intro fuel vals lo hi listed a w hc hI hall
    have hform : ∀ j, j < l.length → tt listed j = decide (j < n) := by
      intro j _
      by_cases hj : j < n
      · simp [hj, hall j hj]
      · simp [hj, hI.notail j (by omega)]
    have hcount : listed.toList.count true = n := by
      have : listed.toList = List.replicate n true ++ List.replicate (l.length - n) false := by
        apply List.ext_getElem?
        intro j
        by_cases hj : j < l.length
        · have h1 := hform j hj
          unfold tt at h1
          have h2 : j < listed.size := by rw [hI.lsz]; exact hj
          simp only [Array.getD_eq_getD_getElem?, Array.getElem?_eq_getElem h2, Option.getD_some] at h1
          rw [Array.getElem?_toList, Array.getElem?_eq_getElem h2, h1]
          by_cases hjn : j < n
          · rw [List.getElem?_append_left (by simpa using hjn)]; simp [hjn]
          · rw [List.getElem?_append_right (by simp; omega), List.getElem?_replicate, if_pos (by simp; omega)]; simp [hjn]
        · rw [List.getElem?_eq_none (by simp [hI.lsz]; omega), List.getElem?_eq_none (by have := g.le; simp; omega)]
      rw [this]; simp [List.count_append, List.count_replicate]
    have haA : a = putN l vals ns (acts l ns a0 v n) := by
      have hns : ∀ i ∈ ns, i < n := fun i hi => g.inn i (by simpa using hi)
      have h1 : a.tmps = (putN l vals ns (acts l ns a0 v n)).tmps := by
        apply Array.ext_getElem?
        intro t
        by_cases hts : t < a0.tmps.size
        · by_cases hex : ∃ j, j < n ∧ dstOf l.toArray j = some t
          · obtain ⟨j, hjn, hj⟩ := hex
            cases hnj : ns.contains j with
            | true => rw [hI.nval j hnj (hall j hjn) t hj hts, putN_done g vals t j hjn hj ns hns _ (by rw [acts_size]; exact hts) (.inl (by simpa using hnj))]
            | false =>
              rw [hI.det j hjn hnj (hall j hjn) t hj hts, putN_rest, acts_done g _ _ t j hjn hnj hj hts n hjn (Nat.le_refl _)]
              intro i hi he
              exact g.dst j i t hjn (hns i hi) (fun e => by subst e; simp [hi] at hnj) hj he
          · rw [hI.rest t fun k hk he => hex ⟨k, (by
                rcases Nat.lt_or_ge k n with h | h
                · exact h
                · rw [hI.notail k h] at hk; cases hk), he⟩, putN_rest _ _ _ _ fun i hi he => hex ⟨i, hns i hi, he⟩, acts_rest _ _ _ _ fun k hk _ he => hex ⟨k, hk, he⟩]
        · rw [Array.getElem?_eq_none (by rw [hI.size]; exact Nat.le_of_not_lt hts), Array.getElem?_eq_none (by rw [putN_size, acts_size]; exact Nat.le_of_not_lt hts)]
      have h2 : a.defers = (putN l vals ns (acts l ns a0 v n)).defers := by rw [putN_defers, acts_defers]; exact hI.defers
      cases a; simp at h1 h2; subst h1; subst h2; rfl
    subst haA
    refine tail_anyIn g fuel n listed _ w (by omega) (Nat.le_refl _) hI.lsz hform (hO.fin vals lo hi w hI.below ?_ ?_ ?_)
    · intro j hj; exact hI.nphi j hj (hall j (g.inn j hj))
    · intro j k hj hk hne; exact hI.disj j k hj hk (hall j (g.inn j hj)) (hall k (g.inn k hk)) hne
    · intro j hj hne; exact hI.tied j hj (hall j (g.inn j hj)) hne
  intro fuel
  induction fuel with
  | zero =>
    intro vals lo hi listed a w hc hI
    refine finish 0 vals lo hi listed a w hc hI fun j hj => ?_
    have h1 : j < listed.size := by rw [hI.lsz]; have := g.le; omega
    have h2 : ∀ b ∈ listed.toList, true = b := by
      rw [← List.count_eq_length]
      rw [Array.length_toList, hI.lsz]; omega
    have h3 := h2 (listed[j]) (by simp)
    unfold tt
    simp [h1, ← h3]
  | succ fuel ih =>
    intro vals lo hi listed a w hc hI
    by_cases hall : ∀ j, j < n → tt listed j = true
    · exact finish (fuel + 1) vals lo hi listed a w hc hI hall
    -- some are still to come
    obtain ⟨j0, hj0n, hj0⟩ : ∃ j, j < n ∧ tt listed j = false := by
      rcases Classical.not_forall.1 hall with ⟨j, hj⟩
      have := Classical.not_imp.1 hj
      exact ⟨j, this.1, by simpa using this.2⟩
    have hready : ∀ j, j < n → tt listed j = false → Region.ready .any l.toArray listed ≠ [] := by
      intro j
      induction j using Nat.strongRecOn with
      | _ j ihj =>
        intro hjn hj hr
        have hjl : j < l.length := by have := g.le; omega
        by_cases hw : ∀ e ∈ l[j].after, Region.binds .any e = true → tt listed e.on = true
        · have : j ∈ Region.ready .any l.toArray listed := by
            rw [mem_ready]
            refine ⟨by unfold tt at hj; simp [hI.lsz, hjl] at hj ⊢; exact hj, l[j], by simp [hjl], hw⟩
          rw [hr] at this; cases this
        · obtain ⟨e, he⟩ := Classical.not_forall.1 hw
          have h1 := Classical.not_imp.1 he
          have h2 := Classical.not_imp.1 h1.2
          have h3 := g.back j l[j] (by simp [hjl]) e h1.1 h2.1
          exact ihj e.on h3 (by omega) (by simpa using h2.2) hr
    refine ⟨fun h => absurd h (hready j0 hj0n hj0), fun i hi => ?_⟩
    rw [mem_ready] at hi
    obtain ⟨h0, o, ho, hwait⟩ := hi
    simp only [List.getElem?_toArray] at ho
    have hlo := (List.getElem?_eq_some_iff.1 ho).1
    have hlt : i < listed.size := by rw [hI.lsz]; exact hlo
    have hDi : tt listed i = false := by unfold tt; simp [hlt] at h0 ⊢; exact h0
    have hin : i < n := by
      rcases Nat.lt_or_ge i n with h | h
      · exact h
      · have := cover hI.closed i o ho hwait j0 (g.tail i j0 h hlo (by omega))
        rw [hj0] at this; cases this
    have hd : dstOf l.toArray i = o.dst := by simp [dstOf, ho]
    have hcnt : fuel + (listed.setIfInBounds i true).toList.count true = l.length := by rw [count_set hlt h0]; omega
    have hcl : ∀ j o', tt (listed.setIfInBounds i true) j = true → l[j]? = some o' → ∀ e ∈ o'.after, Region.binds .any e = true → tt (listed.setIfInBounds i true) e.on = true := by
      intro j o' hj ho' e he hbd
      rw [tt_set hlt] at hj ⊢
      by_cases hji : j = i
      · subst hji
        rw [ho] at ho'; cases ho'
        have := hwait e he hbd
        split
        · rfl
        · exact this
      · simp [hji] at hj
        have := hI.closed j o' hj ho' e he hbd
        split
        · rfl
        · exact this
    have hrest : ∀ u t, (∀ j, tt (listed.setIfInBounds i true) j = true → dstOf l.toArray j ≠ some t) → (a.put o.dst u).tmps[t]? = a0.tmps[t]? := by
      intro u t ht
      rw [put_other]
      · refine hI.rest t fun j hj => ht j ?_
        rw [tt_set hlt]; split <;> first | rfl | exact hj
      · have := ht i (by rw [tt_set hlt]; simp)
        rwa [hd] at this
    have hnt : ∀ j, n ≤ j → tt (listed.setIfInBounds i true) j = false := by
      intro j hj
      rw [tt_set hlt, if_neg (by omega)]; exact hI.notail j hj
    have other : ∀ j t, j < n → j ≠ i → dstOf l.toArray j = some t → ∀ u, (a.put o.dst u).tmps[t]? = a.tmps[t]? := by
      intro j t hj hji hjt u
      rw [put_other]
      intro he
      exact g.dst i j t hin hj (Ne.symm hji) (hd.trans he) hjt
    cases hni : ns.contains i with
    | false =>
      -- a settled one
      have hag : ∀ t ∈ o.looksAt l.toArray, a.tmps[t]? = (acts l ns a0 v i).tmps[t]? := by
        intro t ht
        by_cases hsz : t < a0.tmps.size
        case neg =>
          rw [Array.getElem?_eq_none (by rw [hI.size]; exact Nat.le_of_not_lt hsz), Array.getElem?_eq_none (by rw [acts_size]; exact Nat.le_of_not_lt hsz)]
        by_cases hex : ∃ j, j < n ∧ dstOf l.toArray j = some t
        · obtain ⟨j, hjn, hj⟩ := hex
          have others : ∀ k, k < n → k ≠ j → dstOf l.toArray k ≠ some t := fun k hkn hk he => g.dst k j t hkn hjn hk he hj
          have hjl := dlt j t hj
          have hjd : l[j].dst = some t := by simpa [dstOf, hjl] using hj
          have back : ∀ k, tt listed k = true → k < n := fun k hk => by
            rcases Nat.lt_or_ge k n with h | h
            · exact h
            · rw [hI.notail k h] at hk; cases hk
          by_cases hji : j = i
          · subst hji
            rw [hI.rest t fun k hk he => others k (back k hk) (fun e => by subst e; rw [hDi] at hk; cases hk) he, acts_rest _ _ _ _ fun k hk _ => others k (by omega) (by omega)]
          · have hp := g.look i j o l[j] t hin hjn ho (by simp [hjl]) (Ne.symm hji) hjd ht
            rw [if_neg (by rw [hni]; simp)] at hp
            obtain ⟨hnj, ⟨hlt', hw⟩ | ⟨hlt', hw⟩⟩ := hp
            · obtain ⟨e, he, hb, hon⟩ := waits_spec hw
              have hDj : tt listed j = true := hon ▸ hwait e he hb
              rw [hI.det j hjn hnj hDj t hj hsz, acts_done g _ _ t j hjn hnj hj hsz i hlt' (by omega)]
            · obtain ⟨e, he, hb, hon⟩ := waits_spec hw
              have hDj : tt listed j = false := by
                cases hDj : tt listed j with
                | false => rfl
                | true =>
                  have := hI.closed j l[j] hDj (by simp [hjl]) e he hb
                  rw [hon, hDi] at this
                  cases this
              rw [hI.rest t fun k hk he => others k (back k hk) (fun e => by subst e; rw [hDj] at hk; cases hk) he, acts_rest _ _ _ _ fun k hk _ => others k (by omega) (by omega)]
        · rw [hI.rest t fun k hk he => hex ⟨k, (by
              rcases Nat.lt_or_ge k n with h | h
              · exact h
              · rw [hI.notail k h] at hk; cases hk), he⟩, acts_rest _ _ _ _ fun k hk _ he => hex ⟨k, by omega, he⟩]
      have hexec : execOp a.eval o = execOp (acts l ns a0 v i).eval o :=
        execOp_congr o (fun cs b => Region.noSelect_spec g.sel i o cs b (by simpa using ho)) (eval_eq hag)
      have next : ∀ w', Below w.heap.size w w' ∨ (ns = [] ∧ Below w0.heap.size w0 w') → wpAnyIn (Fence.wide.inRound lr) m P .any l.toArray Q fuel (listed.setIfInBounds i true) (a.put o.dst (v i)) w' := by
        intro w' hb
        have hb0 : Below w0.heap.size w0 w' := by
          rcases hb with hb | hb
          · exact hI.below.trans (hb.mono hI.below.size)
          · exact hb.2
        refine ih vals lo hi _ _ w' hcnt ⟨hb0, by rw [put_defers]; exact hI.defers, by rw [put_size]; exact hI.size, by simpa using hI.lsz, hnt, ?_, ?_, ?_, ?_, ?_, fun t ht => hrest _ t ht, hcl⟩
        · intro j hjn hnj hj t ht hts
          by_cases hji : j = i
          · subst hji
            rw [hd] at ht; rw [ht]; exact put_same _ _ _ (by rw [hI.size]; exact hts)
          · rw [tt_set hlt, if_neg hji] at hj
            rw [other j t hjn hji ht]; exact hI.det j hjn hnj hj t ht hts
        · intro j hnj hj t ht hts
          have hji : j ≠ i := fun e => by subst e; rw [hni] at hnj; cases hnj
          rw [tt_set hlt, if_neg hji] at hj
          rw [other j t (g.inn j hnj) hji ht]; exact hI.nval j hnj hj t ht hts
        · intro j hnj hj
          have hji : j ≠ i := fun e => by subst e; rw [hni] at hnj; cases hnj
          rw [tt_set hlt, if_neg hji] at hj
          obtain ⟨h1, h2, h3, h4⟩ := hI.nphi j hnj hj
          rcases hb with hb | hb
          · exact ⟨h1, h2, Nat.le_trans h3 hb.size, hPhi j _ _ _ _ _ hb h3 h4⟩
          · rw [hb.1] at hnj; simp at hnj
        · intro j k hnj hnk hj hk hne
          have hji : j ≠ i := fun e => by subst e; rw [hni] at hnj; cases hnj
          have hki : k ≠ i := fun e => by subst e; rw [hni] at hnk; cases hnk
          rw [tt_set hlt, if_neg hji] at hj
          rw [tt_set hlt, if_neg hki] at hk
          exact hI.disj j k hnj hnk hj hk hne
        · intro j hnj hj hne
          have hji : j ≠ i := fun e => by subst e; rw [hni] at hnj; cases hnj
          rw [tt_set hlt, if_neg hji] at hj
          exact hI.tied j hnj hj hne
      unfold wpOpIn
      simp only [List.getElem?_toArray, ho]
      rcases hv i o hin ho hni with ⟨hw, hy⟩ | ⟨hw, hu⟩
      · rw [if_pos (by rw [wanted_same hag]; exact hw)]
        refine wpIn_of_wp (nd hdf ho) ?_
        have hq := hy w (cls_iff.2 hI.below)
        unfold Oper.quietAt at hq
        unfold Oper.wp
        rw [hexec]
        generalize hrun : (execOp (acts l ns a0 v i).eval o).run P w = r at *
        cases r with
        | ok x w' =>
          cases x <;> simp only [Oper.quietUpon] at hq <;> simp only [Oper.upon]
          case value u => obtain ⟨e1, e2⟩ := hq; rw [e1, e2]; exact next w (.inl (Below.refl _ _))
          case skip => obtain ⟨e1, e2⟩ := hq; rw [e1, ← e2]; exact next w (.inl (Below.refl _ _))
          case enter f args =>
            obtain ⟨e1, hc⟩ := hq
            rw [e1]
            rcases g.calls with hnil | hno
            · exact Calls.mono hc fun e w'' ⟨he, hw''⟩ => by subst he; exact next w'' (.inr ⟨hnil, cls_iff.1 hw''⟩)
            · exact absurd hrun (not_enter (hno i o hin ho hni))
        | halt x w' => simp only [Oper.quietUpon] at hq
      · rw [if_neg (by rw [wanted_same hag, hw]; simp)]
        have := next w (.inl (Below.refl _ _))
        rw [hu] at this
        exact ⟨fun _ _ => trivial, this⟩
    | true =>
      -- one that makes memory
      have hns : ∀ i ∈ ns, i < n := fun i hi => g.inn i (by simpa using hi)
      have hag : ∀ t ∈ o.looksAt l.toArray, a.tmps[t]? = (putN l vals ns (acts l ns a0 v n)).tmps[t]? := by
        intro t ht
        by_cases hsz : t < a0.tmps.size
        case neg =>
          rw [Array.getElem?_eq_none (by rw [hI.size]; exact Nat.le_of_not_lt hsz), Array.getElem?_eq_none (by rw [putN_size, acts_size]; exact Nat.le_of_not_lt hsz)]
        by_cases hex : ∃ j, j < n ∧ dstOf l.toArray j = some t
        · obtain ⟨j, hjn, hj⟩ := hex
          have hjl := dlt j t hj
          have hjd : l[j].dst = some t := by simpa [dstOf, hjl] using hj
          by_cases hji : j = i
          · subst hji
            have : o.dst = some t := by rw [← hd]; exact hj
            exact absurd ht (g.mine j o t hni ho this)
          · have hp := g.look i j o l[j] t hin hjn ho (by simp [hjl]) (Ne.symm hji) hjd ht
            rw [if_pos hni] at hp
            obtain ⟨e, he, hb, hon⟩ := waits_spec hp
            have hDj : tt listed j = true := hon ▸ hwait e he hb
            cases hnj : ns.contains j with
            | true => rw [hI.nval j hnj hDj t hj hsz, putN_done g vals t j hjn hj ns hns _ (by rw [acts_size]; exact hsz) (.inl (by simpa using hnj))]
            | false =>
              rw [hI.det j hjn hnj hDj t hj hsz, putN_rest, acts_done g _ _ t j hjn hnj hj hsz n hjn (Nat.le_refl _)]
              intro k hk he'
              exact g.dst j k t hjn (hns k hk) (fun e => by subst e; simp [hk] at hnj) hj he'
        · rw [hI.rest t fun k hk he => hex ⟨k, (by
              rcases Nat.lt_or_ge k n with h | h
              · exact h
              · rw [hI.notail k h] at hk; cases hk), he⟩, putN_rest _ _ _ _ fun i hi he => hex ⟨i, hns i hi, he⟩, acts_rest _ _ _ _ fun k hk _ he => hex ⟨k, by omega, he⟩]
      have hexec : execOp a.eval o = execOp (putN l vals ns (acts l ns a0 v n)).eval o :=
        execOp_congr o (fun cs b => Region.noSelect_spec g.sel i o cs b (by simpa using ho)) (eval_eq hag)
      have hdeps : ∀ j, ns.contains j = true → Waits o j = true → w0.heap.size ≤ lo j ∧ lo j ≤ hi j ∧ hi j ≤ w.heap.size ∧ Phi j (vals j) (lo j) (hi j) w := by
        intro j hnj hw
        obtain ⟨e, he, hb, hon⟩ := waits_spec hw
        exact hI.nphi j hnj (hon ▸ hwait e he hb)
      have hne : ∀ j, tt listed j = true → j ≠ i := fun j hj e => by subst e; rw [hDi] at hj; cases hj
      have hdet : ∀ u j, j < n → ns.contains j = false → tt (listed.setIfInBounds i true) j = true → ∀ t, dstOf l.toArray j = some t → t < a0.tmps.size → (a.put o.dst u).tmps[t]? = some (v j) := by
        intro u j hjn hnj hj t ht hts
        have hji : j ≠ i := fun e => by subst e; rw [hni] at hnj; cases hnj
        rw [tt_set hlt, if_neg hji] at hj
        rw [other j t hjn hji ht]; exact hI.det j hjn hnj hj t ht hts
      have hnval : ∀ u j, ns.contains j = true → tt (listed.setIfInBounds i true) j = true → ∀ t, dstOf l.toArray j = some t → t < a0.tmps.size → (a.put o.dst u).tmps[t]? = some (if j = i then u else vals j) := by
        intro u j hnj hj t ht hts
        by_cases hji : j = i
        · subst hji
          rw [hd] at ht; rw [ht]
          simp only [if_true]
          exact put_same _ _ _ (by rw [hI.size]; exact hts)
        · rw [tt_set hlt, if_neg hji] at hj
          rw [other j t (g.inn j hnj) hji ht]
          simp only [hji, if_false]
          exact hI.nval j hnj hj t ht hts
      have waitsOwn : ∀ j, ns.contains j = true → own ws j ≠ j → tt listed j = true → tt listed (own ws j) = true := by
        intro j hnj hoj hj
        have hjl : j < l.length := by have := g.inn j hnj; have := g.le; omega
        obtain ⟨e, he, hb, hon⟩ := waits_spec ((g.wr j hnj hoj).2.2.1 l[j] (by simp [hjl]))
        have := hI.closed j l[j] hj (by simp [hjl]) e he hb
        rw [← hon]; exact this
      unfold wpOpIn
      simp only [List.getElem?_toArray, ho]
      by_cases hoi : own ws i = i
      · have next : ∀ u w', Below w.heap.size w w' → Phi i u w.heap.size w'.heap.size w' → wpAnyIn (Fence.wide.inRound lr) m P .any l.toArray Q fuel (listed.setIfInBounds i true) (a.put o.dst u) w' := by
          intro u w' hb hp
          refine ih (fun k => if k = i then u else vals k) (fun k => if k = i then w.heap.size else lo k) (fun k => if k = i then w'.heap.size else hi k) _ _ w' hcnt
            ⟨hI.below.trans (hb.mono hI.below.size), by rw [put_defers]; exact hI.defers, by rw [put_size]; exact hI.size, by simpa using hI.lsz, hnt, hdet u, hnval u, ?_, ?_, ?_, fun t ht => hrest _ t ht, hcl⟩
          · intro j hnj hj
            by_cases hji : j = i
            · subst hji
              simp only [if_true]
              exact ⟨hI.below.size, hb.size, Nat.le_refl _, hp⟩
            · rw [tt_set hlt, if_neg hji] at hj
              simp only [hji, if_false]
              obtain ⟨h1, h2, h3, h4⟩ := hI.nphi j hnj hj
              exact ⟨h1, h2, Nat.le_trans h3 hb.size, hPhi j _ _ _ _ _ hb h3 h4⟩
          · intro j k hnj hnk hj hk hjk
            rw [tt_set hlt] at hj hk
            by_cases hji : j = i
            · have hki : k ≠ i := fun e => hjk (by rw [hji, e])
              rw [if_neg hki] at hk
              simp only [hji, hki, if_true, if_false]
              have := hI.nphi k hnk hk
              omega
            · rw [if_neg hji] at hj
              by_cases hki : k = i
              · simp only [hji, hki, if_true, if_false]
                have := hI.nphi j hnj hj
                omega
              · rw [if_neg hki] at hk
                simp only [hji, hki, if_false]
                exact hI.disj j k hnj hnk hj hk hjk
          · intro j hnj hj hoj
            rw [tt_set hlt] at hj
            have hji : j ≠ i := fun e => hoj (by rw [e]; exact hoi)
            rw [if_neg hji] at hj
            have hoji : own ws j ≠ i := hne _ (waitsOwn j hnj hoj hj)
            simp only [hji, hoji, if_false]
            exact hI.tied j hnj hj hoj
        rcases hO.each i o hni hoi ho vals lo hi w hI.below hdeps with ⟨hw, hg⟩ | ⟨hw, hg⟩
        · rw [if_pos (by rw [wanted_same hag]; exact hw)]
          exact wpIn_of_wp (nd hdf ho) (gives_upon hg hexec fun u w' h => next u w' h.1 h.2)
        · rw [if_neg (by rw [wanted_same hag, hw]; simp)]
          exact ⟨fun _ _ => trivial, next undef w (Below.refl _ _) hg⟩
      · obtain ⟨hnj, hooj, hwj, huniq⟩ := g.wr i hni hoi
        have hjl : tt listed (own ws i) = true := by
          obtain ⟨e, he, hb, hon⟩ := waits_spec (hwj o ho)
          have := hwait e he hb
          rw [← hon]; exact this
        obtain ⟨q1, q2, q3, q4⟩ := hI.nphi _ hnj hjl
        have next : ∀ u w', Wr (lo (own ws i)) (hi (own ws i)) w w' → Phi i u (lo (own ws i)) (hi (own ws i)) w' → Phi (own ws i) (vals (own ws i)) (lo (own ws i)) (hi (own ws i)) w' →
            wpAnyIn (Fence.wide.inRound lr) m P .any l.toArray Q fuel (listed.setIfInBounds i true) (a.put o.dst u) w' := by
          intro u w' hb hp hpo
          refine ih (fun k => if k = i then u else vals k) (fun k => if k = i then lo (own ws i) else lo k) (fun k => if k = i then hi (own ws i) else hi k) _ _ w' hcnt
            ⟨hb.below hI.below q1, by rw [put_defers]; exact hI.defers, by rw [put_size]; exact hI.size, by simpa using hI.lsz, hnt, hdet u, hnval u, ?_, ?_, ?_, fun t ht => hrest _ t ht, hcl⟩
          · intro j hnj' hj
            by_cases hji : j = i
            · subst hji
              simp only [if_true]
              exact ⟨q1, q2, by rw [hb.size]; exact q3, hp⟩
            · rw [tt_set hlt, if_neg hji] at hj
              simp only [hji, if_false]
              obtain ⟨h1, h2, h3, h4⟩ := hI.nphi j hnj' hj
              refine ⟨h1, h2, by rw [hb.size]; exact h3, ?_⟩
              by_cases hjo : j = own ws i
              · rw [hjo]; exact hpo
              · rcases hLoc with hw0 | hLoc
                · exact absurd (by rw [hw0]; rfl) hoi
                refine hLoc j _ _ _ _ _ _ _ hb ?_ h4
                have hoo : own ws j ≠ own ws (own ws i) := by rw [hooj]; exact huniq j hnj' hji hjo
                have := hI.disj j (own ws i) hnj' hnj hj hjl hoo
                omega
          · intro j k hnj' hnk hj hk hjk
            rw [tt_set hlt] at hj hk
            by_cases hji : j = i
            · have hki : k ≠ i := fun e => hjk (by rw [hji, e])
              rw [if_neg hki] at hk
              simp only [hji, hki, if_true, if_false]
              rw [hji] at hjk
              exact hI.disj (own ws i) k hnj hnk hjl hk (by rw [hooj]; exact hjk)
            · rw [if_neg hji] at hj
              by_cases hki : k = i
              · simp only [hji, hki, if_true, if_false]
                rw [hki] at hjk
                exact hI.disj j (own ws i) hnj' hnj hj hjl (by rw [hooj]; exact hjk)
              · rw [if_neg hki] at hk
                simp only [hji, hki, if_false]
                exact hI.disj j k hnj' hnk hj hk hjk
          · intro j hnj' hj hoj
            rw [tt_set hlt] at hj
            by_cases hji : j = i
            · rw [hji]
              simp only [hoi, if_true, if_false]
              exact ⟨trivial, trivial⟩
            · rw [if_neg hji] at hj
              have hoji : own ws j ≠ i := hne _ (waitsOwn j hnj' hoj hj)
              simp only [hji, hoji, if_false]
              exact hI.tied j hnj' hj hoj
        obtain ⟨hw, hg⟩ := hO.wrts i o hni hoi ho vals lo hi w hI.below hdeps
        rw [if_pos (by rw [wanted_same hag]; exact hw)]
        exact wpIn_of_wp (nd hdf ho) (gives_upon hg hexec fun u w' h => next u w' h.1 h.2.1 h.2.2)

/-- **A region that draws its order.** -/
theorem wpIn_region_or {id : Nat} {Q : Exit → Act → World → Prop} {a0 : Act} {w0 : World} (n : Nat) (ns : List Nat) (ws : List (Nat × Nat)) (Phi : Nat → Spec) (hPhi : ∀ i, Lasting (Phi i)) (hLoc : ws = [] ∨ ∀ i, Local (Phi i)) (hm : P.follows .mixedOrders = true) (hok : ok l n ns ws = true) (hdf : noDefer l = true)
    (h : wpQuiet P l.toArray (fun w' => ∃ p : Regrown, w' = Sort.grow (redrawn w0 p.d) p.os) (OwedIn m lr P l n ns ws Phi Q w0) (pick ns 0 (l.take n)) a0) : (Code.region id l.toArray true).wpIn (Fence.wide.inRound lr) m P Q a0 w0 := by
  have g := good_of hok
  obtain ⟨v, hv, hO⟩ := acts_of (C := Cls w0) (OwedIn m lr P l n ns ws Phi Q w0) a0 h g.le
  refine wpIn_region_any hm (front_anyIn hdf g hPhi hLoc hv hO _ (fun _ => undef) (fun _ => 0) (fun _ => 0) (Array.replicate l.toArray.size false) a0 _ (by simp [List.count_replicate])
    ⟨(Below.refl _ _).drew, rfl, rfl, by simp, fun j _ => tt0 _ _, ?_, ?_, ?_, ?_, ?_, fun t _ => rfl, ?_⟩)
  · intro j _ _ hj; rw [tt0] at hj; cases hj
  · intro j _ hj; rw [tt0] at hj; cases hj
  · intro j _ hj; rw [tt0] at hj; cases hj
  · intro j k _ _ hj; rw [tt0] at hj; cases hj
  · intro j _ hj; rw [tt0] at hj; cases hj
  · intro j o hj; rw [tt0] at hj; cases hj

theorem wpIn_region {id : Nat} {Q : Exit → Act → World → Prop} {a0 : Act} {w0 : World} (n : Nat) (ns : List Nat) (ws : List (Nat × Nat)) (Phi : Nat → Spec) (hPhi : ∀ i, Lasting (Phi i)) (hLoc : ∀ i, Local (Phi i)) (hm : P.follows .mixedOrders = true) (hok : ok l n ns ws = true) (hdf : noDefer l = true)
    (h : wpQuiet P l.toArray (fun w' => ∃ p : Regrown, w' = Sort.grow (redrawn w0 p.d) p.os) (OwedIn m lr P l n ns ws Phi Q w0) (pick ns 0 (l.take n)) a0) : (Code.region id l.toArray true).wpIn (Fence.wide.inRound lr) m P Q a0 w0 :=
  wpIn_region_or n ns ws Phi hPhi (.inr hLoc) hm hok hdf h
/-- Where nothing is written: what an operation is good for need not be a thing of its own blocks. -/
theorem wpIn_region0 {id : Nat} {Q : Exit → Act → World → Prop} {a0 : Act} {w0 : World} (n : Nat) (ns : List Nat) (Phi : Nat → Spec) (hPhi : ∀ i, Lasting (Phi i)) (hm : P.follows .mixedOrders = true) (hok : ok l n ns [] = true) (hdf : noDefer l = true)
    (h : wpQuiet P l.toArray (fun w' => ∃ p : Regrown, w' = Sort.grow (redrawn w0 p.d) p.os) (OwedIn m lr P l n ns [] Phi Q w0) (pick ns 0 (l.take n)) a0) : (Code.region id l.toArray true).wpIn (Fence.wide.inRound lr) m P Q a0 w0 :=
  wpIn_region_or n ns [] Phi hPhi (.inl rfl) hm hok hdf h

/-- Nothing but settled ones ahead of the tail. -/
theorem wpIn_region_tail {id : Nat} {Q : Exit → Act → World → Prop} {a0 : Act} {w0 : World} (n : Nat) (hm : P.follows .mixedOrders = true) (hok : ok l n [] [] = true) (hdf : noDefer l = true)
    (h : wpQuiet P l.toArray (fun w' => ∃ p : Regrown, w' = Sort.grow (redrawn w0 p.d) p.os) (fun A => ∀ w, Below w0.heap.size w0 w → wpListIn (Fence.wide.inRound lr) m P l.toArray Q (l.drop n) A w) (l.take n) a0) : (Code.region id l.toArray true).wpIn (Fence.wide.inRound lr) m P Q a0 w0 := by
  have hp : ∀ (m' : List Oper) k, pick [] k m' = m' := by
    intro m'
    induction m' with
    | nil => intro k; rfl
    | cons o m' ih => intro k; rw [pick, if_neg (by simp), ih]
  refine wpIn_region n [] [] (fun _ _ _ _ _ => True) (fun _ _ _ _ _ _ _ _ _ => trivial) (fun _ _ _ _ _ _ _ _ _ _ _ => trivial) hm hok hdf ?_
  rw [hp]
  refine wpQuiet_mono ?_ _ _ h
  intro A hA
  exact ⟨fun i o hi => by simp at hi, fun i o hi => by simp at hi, fun vals lo hi w hb _ _ _ => hA w hb⟩

end

end Go.Fat.R
