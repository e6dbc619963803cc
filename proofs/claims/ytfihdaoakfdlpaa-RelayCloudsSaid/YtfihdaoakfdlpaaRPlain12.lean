/- The plain mathematics of layer 3: a land without a station; a land with one more wall; one case alone. No program. -/
import Derived.Test.YtfihdaoakfdlpaaRPlain11
namespace Go.Hill

/-! ### Without a station -/
def Land.dropSt (L : Land) (i : Nat) : Land := { L with st := L.st.eraseIdx i }
def upI (i j : Nat) : Nat := if j < i then j else j + 1
def dnI (i j : Nat) : Nat := if i < j then j - 1 else j
theorem up_dn {i j : Nat} (h : j ≠ i) : upI i (dnI i j) = j := by unfold upI dnI; split <;> split <;> omega
theorem up_ne {i j : Nat} : upI i j ≠ i := by unfold upI; split <;> omega
theorem up_inj {i a b : Nat} : upI i a = upI i b ↔ a = b := by unfold upI; split <;> split <;> omega
theorem dn_lt {i j n : Nat} (h : j ≠ i) (hi : i < n) (hj : j < n) : dnI i j < n - 1 := by unfold dnI; split <;> omega
theorem up_lt {i j n : Nat} (h : j < n - 1) : upI i j < n := by unfold upI; split <;> omega
section
variable {L : Land} {i : Nat}
theorem st_drop (k : Nat) : (L.dropSt i).st[k]? = L.st[upI i k]? := by
  unfold Land.dropSt upI
  simp only
  rw [List.getElem?_eraseIdx]
  split <;> rfl
theorem can_drop (a b k t : Nat) : (L.dropSt i).can a b k t = L.can (upI i a) (upI i b) k t := by
  have h1 : (L.dropSt i).rbs a b = L.rbs (upI i a) (upI i b) := by
    unfold Land.rbs
    refine sel_congr fun r _ => ?_
    unfold Land.rb
    rw [st_drop, st_drop]; rfl
  have h2 : (L.dropSt i).cbs a b k t = L.cbs (upI i a) (upI i b) k t := by
    unfold Land.cbs
    refine sel_congr fun r _ => ?_
    unfold Land.cb
    rw [st_drop, st_drop]; rfl
  have h3 : (L.dropSt i).mir a = L.mir (upI i a) := by unfold Land.mir; rw [st_drop]
  have h4 : (L.dropSt i).need a b t = L.need (upI i a) (upI i b) t := by unfold Land.need; rw [st_drop, st_drop]; rfl
  have h5 : (a != b) = (upI i a != upI i b) := by
    rw [Bool.eq_iff_iff]; simp only [bne_iff_ne, ne_eq, up_inj]
  unfold Land.can Land.why
  rw [h1, h2, h3, h4, h5]; rfl
theorem chk_zero {L : Land} : L.chk = 0 ↔ L.lim = false ∧ L.arg = false := by
  unfold Land.chk
  cases L.lim <;> cases L.arg <;> simp
theorem chk_drop (h : L.chk = 0) (hn : 1 < L.st.length) (hi : i < L.st.length) : (L.dropSt i).chk = 0 := by
  rw [chk_zero] at h ⊢
  obtain ⟨h1, h2⟩ := h
  have hlen : (L.dropSt i).st.length = L.st.length - 1 := by unfold Land.dropSt; simp [List.length_eraseIdx, hi]
  constructor
  · unfold Land.lim at h1 ⊢
    simp only [Bool.or_eq_false_iff] at h1 ⊢
    obtain ⟨⟨⟨⟨a1, a2⟩, a3⟩, a4⟩, a5⟩ := h1
    refine ⟨⟨⟨⟨?_, a2⟩, a3⟩, a4⟩, a5⟩
    rw [hlen]; simp only [decide_eq_false_iff_not] at a1 ⊢; omega
  · unfold Land.arg at h2 ⊢
    simp only [Bool.or_eq_false_iff] at h2 ⊢
    obtain ⟨⟨⟨⟨⟨⟨⟨b1, b2⟩, b3⟩, b4⟩, b5⟩, b6⟩, b7⟩, b8⟩ := h2
    refine ⟨⟨⟨⟨⟨⟨⟨?_, b2⟩, b3⟩, ?_⟩, ?_⟩, b6⟩, b7⟩, b8⟩
    · rw [hlen]; simp only [beq_eq_false_iff_ne]; omega
    · simp only [Bool.not_eq_false', List.all_eq_true] at b4 ⊢
      intro x hx
      exact b4 x (List.mem_of_mem_eraseIdx hx)
    · simp only [Bool.not_eq_false'] at b5 ⊢
      unfold apartTo at b5 ⊢
      simp only [List.all_eq_true, List.mem_range] at b5 ⊢
      intro x hx y hy
      rw [hlen] at hx
      have h3 := b5 (upI i x) (up_lt hx) (upI i y) (by unfold upI; split <;> split <;> omega)
      unfold sameAt at h3 ⊢
      rw [st_drop, st_drop]; exact h3
theorem has_drop {k f s : Nat} (hi : i < L.st.length) (j y : Nat) : ((L.dropSt i).rel k (-1)).has f s j y = (L.rel k (i : Int)).has (upI i f) s j (upI i y) := by
  have hlen : (L.dropSt i).st.length = L.st.length - 1 := by unfold Land.dropSt; simp [List.length_eraseIdx, hi]
  induction j generalizing y with
  | zero =>
    rw [Rel.has_zero, Rel.has_zero]
    by_cases h : y = f
    · subst h; rw [if_pos rfl, if_pos rfl]
    · rw [if_neg h, if_neg fun e => h (up_inj.1 e)]
  | succ j ih =>
    rw [Rel.has_succ, Rel.has_succ]
    unfold Rel.step
    rw [ih y]
    have hany : ((L.dropSt i).rel k (-1)).any (((L.dropSt i).rel k (-1)).has f s j) (s + j) ((L.dropSt i).rel k (-1)).n y = (L.rel k (i : Int)).any ((L.rel k (i : Int)).has (upI i f) s j) (s + j) (L.rel k (i : Int)).n (upI i y) := by
      rw [Bool.eq_iff_iff, Rel.any_iff, Rel.any_iff]
      constructor
      · rintro ⟨a, h1, h2, h3, h4, h5, h6⟩
        have h1' : a < L.st.length - 1 := by rw [← hlen]; exact h1
        rw [ih a] at h4 h5
        exact ⟨upI i a, up_lt h1', by have := up_ne (i := i) (j := a); show ((upI i a : Nat) : Int) ≠ (i : Int); omega, by have := up_ne (i := i) (j := y); show ((upI i y : Nat) : Int) ≠ (i : Int); omega, h4, h5, (can_drop (L := L) (i := i) a y k (s + j)).symm.trans h6⟩
      · rintro ⟨a, h1, h2, h3, h4, h5, h6⟩
        have h2' : a ≠ i := fun e => h2 (by rw [e]; rfl)
        have h7 := up_dn h2'
        refine ⟨dnI i a, by show dnI i a < (L.dropSt i).st.length; rw [hlen]; exact dn_lt h2' hi h1, by show ((dnI i a : Nat) : Int) ≠ -1; omega, by show (y : Int) ≠ -1; omega, by rw [ih, h7]; exact h4, by rw [ih, h7]; exact h5, ?_⟩
        show (L.dropSt i).can (dnI i a) y k (s + j) = true
        rw [can_drop, h7]; exact h6
    rw [hany]
theorem sur_drop {f t s : Nat} (hi : i < L.st.length) : (L.dropSt i).sur f t s (-1) = L.sur (upI i f) (upI i t) s i :=
  surF_congr fun k _ => by
    show ((L.dropSt i).rel k (-1)).hat f s t = (L.rel k (i : Int)).hat (upI i f) s (upI i t)
    unfold Rel.hat Rel.fin
    rw [has_drop hi]; rfl
theorem mem_vit {f t s i : Nat} (hi : i < L.st.length) (h1 : i ≠ f) (h2 : i ≠ t) : (i : Int) ∈ L.vit f t s ↔ (L.sn.length : Int) < (L.sur f t s i).1 := by
  unfold Land.vit
  rw [sel_mem]
  constructor
  · rintro ⟨j, g1, g2, g3⟩
    obtain rfl : i = j := by omega
    simpa [h1, h2] using g2
  · intro h
    exact ⟨i, hi, by simpa [h1, h2] using h, rfl⟩
theorem vit_ne {f t s : Nat} {x : Int} (h : x ∈ L.vit f t s) : x ≠ f ∧ x ≠ t := by
  unfold Land.vit at h
  obtain ⟨j, g1, g2, rfl⟩ := sel_mem.1 h
  simp only [Bool.and_eq_true, bne_iff_ne, ne_eq] at g2
  omega
end

/-! ### One more wall -/
structure More (L M : Land) : Prop where
  st : M.st.length = L.st.length
  sn : M.sn.length = L.sn.length
  cs : M.cs.length = L.cs.length
  can : ∀ a b k t, M.can a b k t = true → L.can a b k t = true
theorem More.hat {L M : Land} (h : More L M) {f s k x : Nat} (hf : f < L.st.length) (hs : s ≤ L.sn.length) (hx : x < L.st.length) : L.hat f s k (-1) x ≤ M.hat f s k (-1) x := by
  have hcl := Rel.hat_closed (r := L.rel k (-1)) (f := f) (s := s) hs
  refine Rel.hat_le (r := M.rel k (-1)) (f := f) (s := s) (t := L.hat f s k (-1)) (by show f < M.st.length; rw [h.st]; exact hf) ?_ (by rw [show L.hat f s k (-1) f = s from Rel.hat_from]; exact Int.le_refl _) (fun y _ => ?_) (by show s ≤ M.sn.length; rw [h.sn]; exact hs) x (by show x < M.st.length; rw [h.st]; exact hx)
  · intro a b t ha hb ho ho' hta he hc
    exact hcl a b t (by show a < L.st.length; rw [← h.st]; exact ha) (by show b < L.st.length; rw [← h.st]; exact hb) ho ho' hta (by show t < L.sn.length; rw [← h.sn]; exact he) (h.can a b k t hc)
  · have := (Rel.hat_bd (r := L.rel k (-1)) (f := f) hs y).2
    show L.hat f s k (-1) y ≤ (M.sn.length : Int) + 1
    rw [h.sn]; exact this
theorem More.fin {L M : Land} (h : More L M) {f s k x : Nat} (hf : f < L.st.length) (hs : s ≤ L.sn.length) (hx : x < L.st.length) (h0 : 0 ≤ M.fin f s k (-1) x) : 0 ≤ L.fin f s k (-1) x ∧ L.fin f s k (-1) x ≤ M.fin f s k (-1) x := by
  have hsM : s ≤ M.sn.length := by rw [h.sn]; exact hs
  have h1 : M.hat f s k (-1) x ≤ M.sn.length := Int.not_lt.1 fun h1 => by have := (fin_lt hsM).2 h1; omega
  have h2 := h.hat (k := k) hf hs hx
  have h3 : L.hat f s k (-1) x ≤ L.sn.length := by rw [h.sn] at h1; omega
  rw [fin_eq hsM h1, fin_eq hs h3]
  have := fin_pos hs h3
  rw [fin_eq hs h3] at this
  exact ⟨this, h2⟩
theorem More.route {L M : Land} (h : More L M) {f t s u : Nat} {l : List Hp} (he : L.sn.length ≤ 97) (hs : s ≤ L.sn.length) (hr : M.route f t s = some (l, u)) : ∃ l' u', L.route f t s = some (l', u') ∧ u' ≤ u := by
  obtain ⟨_, _, g3, g4, g5, g6, _⟩ := route_good (by rw [h.sn]; exact he) (by rw [h.sn]; exact hs) hr
  rw [h.st, h.sn] at g4
  obtain ⟨l', u', g7, g8⟩ := route_le he hs g4 fun p hp => by
    have h1 := alws_stick.2 (g6 p hp)
    refine alws_stick.1 ?_
    unfold Land.alws at h1 ⊢
    rw [List.all_eq_true] at h1 ⊢
    intro k hk
    exact h.can _ _ _ _ (h1 k (by rw [h.cs]; exact hk))
  rw [g5] at g7
  exact ⟨l', u', g7, by omega⟩
theorem why_zero {L : Land} {i j k t : Nat} : (L.why i j k t).1 = 0 ↔ L.up t = true ∧ ¬ L.mir i < L.need i j t ∧ L.rbs i j = [] ∧ L.cbs i j k t = [] := by
  unfold Land.why
  cases L.up t with
  | false => simp
  | true =>
    by_cases h : L.mir i < L.need i j t
    · simp [h]
    · cases L.rbs i j with
      | cons x l => simp [h]
      | nil =>
        cases L.cbs i j k t with
        | cons x l => simp [h]
        | nil => simp [h]
theorem can_zero {L : Land} {i j k t : Nat} : L.can i j k t = true ↔ i ≠ j ∧ L.up t = true ∧ ¬ L.mir i < L.need i j t ∧ L.rbs i j = [] ∧ L.cbs i j k t = [] := by
  unfold Land.can
  rw [Bool.and_eq_true, bne_iff_ne, beq_iff_eq, why_zero]
def Land.plusRd (L : Land) (x : Wl) : Land := { L with rd := L.rd ++ [x] }
def Land.plusCd (L : Land) (k : Nat) (c : Cd) : Land := { L with cs := L.cs.set k (L.kase k ++ [c]) }
def Land.oneCs (L : Land) (k : Nat) : Land := { L with cs := [L.kase k] }
theorem more_rd {L : Land} {x : Wl} : More L (L.plusRd x) := ⟨rfl, rfl, rfl, fun a b k t h => by
  rw [can_zero] at h ⊢
  obtain ⟨h1, h2, h3, h4, h5⟩ := h
  refine ⟨h1, h2, h3, ?_, h5⟩
  unfold Land.rbs at h4 ⊢
  rw [sel_nil] at h4 ⊢
  intro r hr
  have := h4 r (by unfold Land.plusRd; simp; omega)
  unfold Land.rb Land.plusRd at this
  simp only [List.getElem?_append_left hr] at this
  exact this⟩
theorem more_cd {L : Land} {k : Nat} {c : Cd} : More L (L.plusCd k c) := ⟨rfl, rfl, by unfold Land.plusCd; simp, fun a b k' t h => by
  rw [can_zero] at h ⊢
  obtain ⟨h1, h2, h3, h4, h5⟩ := h
  refine ⟨h1, h2, h3, h4, ?_⟩
  unfold Land.cbs at h5 ⊢
  rw [sel_nil] at h5 ⊢
  intro r hr
  by_cases hk : k' < L.cs.length
  · by_cases he : k = k'
    · subst he
      have hk2 : (L.plusCd k c).kase k = L.kase k ++ [c] := by unfold Land.plusCd; simp [Land.kase, hk]
      have := h5 r (by rw [hk2]; simp; omega)
      unfold Land.cb at this ⊢
      rw [hk2, List.getElem?_append_left hr] at this
      exact this
    · have hk2 : (L.plusCd k c).kase k' = L.kase k' := by unfold Land.plusCd Land.kase; simp [List.getElem?_set_ne he]
      have := h5 r (by rw [hk2]; exact hr)
      unfold Land.cb at this ⊢
      rw [hk2] at this
      exact this
  · have : L.kase k' = [] := by unfold Land.kase; rw [List.getElem?_eq_none (by omega)]; rfl
    rw [this] at hr; simp at hr⟩
theorem one_can {L : Land} {k : Nat} (a b t : Nat) : (L.oneCs k).can a b 0 t = L.can a b k t := rfl
theorem one_hat {L : Land} {k f s x : Nat} : (L.oneCs k).hat f s 0 (-1) x = L.hat f s k (-1) x := rfl
theorem one_sur {L : Land} {k f t s : Nat} (hs : s ≤ L.sn.length) : (L.oneCs k).sur f t s (-1) = (L.hat f s k (-1) t, 0) := by
  have h1 : (s : Int) ≤ L.hat f s k (-1) t := (Rel.hat_bd (r := L.rel k (-1)) (f := f) hs t).1
  show surF (fun k' => (L.oneCs k).hat f s k' (-1) t) 1 = _
  unfold surF surF
  rw [if_pos (by simp only [one_hat]; omega), one_hat]
theorem chk_one {L : Land} {k : Nat} (h : L.chk = 0) (hk : k < L.cs.length) : (L.oneCs k).chk = 0 := by
  rw [chk_zero] at h ⊢
  obtain ⟨h1, h2⟩ := h
  have hm : L.kase k ∈ L.cs := by unfold Land.kase; rw [List.getElem?_eq_getElem hk]; exact List.getElem_mem hk
  constructor
  · unfold Land.lim at h1 ⊢
    simp only [Bool.or_eq_false_iff] at h1 ⊢
    obtain ⟨⟨⟨⟨a1, a2⟩, a3⟩, a4⟩, a5⟩ := h1
    refine ⟨⟨⟨⟨a1, a2⟩, rfl⟩, a4⟩, ?_⟩
    simp only [Bool.not_eq_false', List.all_eq_true] at a5 ⊢
    intro x hx
    simp only [Land.oneCs, List.mem_singleton] at hx
    subst hx; exact a5 _ hm
  · unfold Land.arg at h2 ⊢
    simp only [Bool.or_eq_false_iff] at h2 ⊢
    obtain ⟨⟨⟨⟨⟨⟨⟨b1, b2⟩, b3⟩, b4⟩, b5⟩, b6⟩, b7⟩, b8⟩ := h2
    refine ⟨⟨⟨⟨⟨⟨⟨b1, rfl⟩, b3⟩, b4⟩, b5⟩, b6⟩, ?_⟩, b8⟩
    rw [Bool.not_eq_false', List.all_eq_true] at b7 ⊢
    intro x hx
    simp only [Land.oneCs, List.mem_singleton] at hx
    subst hx; exact b7 _ hm
end Go.Hill
