/- The plain laws on one more wall, on a case without clouds, on other orders. -/
import Derived.Test.YtmfnkmmbihmjnaaSet2
import Derived.Test.YtmfnkmmbihmjnaaHigh1
open Go.RowKit
namespace Go.Proofs.Ytmfnkmmbihmjnaa
open Go.Hill

def _root_.Go.Hill.Land.setCs (L : Land) (k : Nat) (c : List Cd) : Land := { L with cs := L.cs.set k c }
def _root_.Go.Hill.Land.addRd (L : Land) (x : Wl) : Land := { L with rd := L.rd ++ [x] }

theorem can_iff {L : Land} {i j k t : Nat} : L.can i j k t = true ↔ i ≠ j ∧ L.up t = true ∧ ¬ L.mir i < L.need i j t ∧ L.rbs i j = [] ∧ L.cbs i j k t = [] := by
  unfold Land.can Land.why
  simp only [Bool.and_eq_true, bne_iff_ne, beq_iff_eq, ne_eq]
  constructor
  · rintro ⟨h1, h2⟩
    refine ⟨h1, ?_⟩
    by_cases hu : L.up t = false
    · rw [if_pos hu] at h2; cases h2
    · rw [if_neg hu] at h2
      by_cases hm : L.mir i < L.need i j t
      · rw [if_pos hm] at h2; cases h2
      · rw [if_neg hm] at h2
        refine ⟨by simpa using hu, hm, ?_⟩
        cases hr : L.rbs i j with
        | cons x l => rw [hr] at h2; cases h2
        | nil =>
          rw [hr] at h2
          refine ⟨rfl, ?_⟩
          cases hc : L.cbs i j k t with
          | cons x l => rw [hc] at h2; cases h2
          | nil => rfl
  · rintro ⟨h1, h2, h3, h4, h5⟩
    refine ⟨h1, ?_⟩
    rw [if_neg (by simp [h2]), if_neg h3, h4, h5]

theorem hrs_sub {L M : Land} {i j c k : Nat} (hn : L.sn.length = M.sn.length) (h : ∀ t, L.can i j c t = true → M.can i j k t = true) : withinB (L.hrs i j c) (M.hrs i j k) = true := by
  refine withinB_true fun x hx => ?_
  have := (sel_sub (p := fun t => L.can i j c t) (r := fun t => M.can i j k t) h L.sn.length).1 x hx
  rw [hn] at this
  exact List.contains_iff_mem.2 this

theorem kase_set {L : Land} {k : Nat} (c : List Cd) (hk : k < L.cs.length) : (L.setCs k c).kase k = c := by unfold Land.kase Land.setCs; simp [hk]
/-- A case without clouds is as good as any. -/
theorem can_nil {L : Land} {i j c k t : Nat} (hk : k < L.cs.length) (h : L.can i j c t = true) : (L.setCs k []).can i j k t = true := by
  rw [can_iff] at h ⊢
  obtain ⟨h1, h2, h3, h4, _⟩ := h
  refine ⟨h1, h2, h3, h4, ?_⟩
  unfold Land.cbs
  rw [kase_set [] hk]
  rfl
theorem can_addRd {L : Land} {i j k t : Nat} {x : Wl} (h : (L.addRd x).can i j k t = true) : L.can i j k t = true := by
  rw [can_iff] at h ⊢
  obtain ⟨h1, h2, h3, h4, h5⟩ := h
  refine ⟨h1, h2, h3, ?_, h5⟩
  unfold Land.rbs at h4 ⊢
  rw [Go.Hill.sel_nil] at h4 ⊢
  intro r hr
  have h6 := h4 r (by simp [Land.addRd]; omega)
  unfold Land.rb at h6 ⊢
  rw [show (L.addRd x).rd[r]? = L.rd[r]? by simp [Land.addRd, List.getElem?_append_left hr]] at h6
  exact h6
theorem can_addCd {L : Land} {i j k t : Nat} {cs : List Cd} {c : Cd} (hk : L.cs[k]? = some cs) (h : (L.setCs k (cs ++ [c])).can i j k t = true) : L.can i j k t = true := by
  have hkl : k < L.cs.length := (List.getElem?_eq_some_iff.1 hk).1
  rw [can_iff] at h ⊢
  obtain ⟨h1, h2, h3, h4, h5⟩ := h
  refine ⟨h1, h2, h3, h4, ?_⟩
  unfold Land.cbs at h5 ⊢
  have hka : L.kase k = cs := by unfold Land.kase; rw [hk]; rfl
  rw [Go.Hill.sel_nil] at h5 ⊢
  rw [kase_set _ hkl] at h5
  rw [hka]
  intro r hr
  have h6 := h5 r (by simp; omega)
  unfold Land.cb at h6 ⊢
  rw [kase_set _ hkl, List.getElem?_append_left hr] at h6
  rw [hka]
  exact h6
theorem chk_nil {L : Land} {k : Nat} (h : L.chk = 0) : (L.setCs k []).chk = 0 := by
  rw [chk_two0] at h ⊢
  obtain ⟨h1, h2⟩ := h
  constructor
  · unfold Land.lim at h1 ⊢
    simp only [Bool.or_eq_false_iff] at h1 ⊢
    obtain ⟨⟨⟨⟨a1, a2⟩, a3⟩, a4⟩, a5⟩ := h1
    refine ⟨⟨⟨⟨a1, a2⟩, by simpa [Land.setCs] using a3⟩, a4⟩, ?_⟩
    simp only [Bool.not_eq_false', List.all_eq_true] at a5 ⊢
    intro x hx
    rcases List.mem_or_eq_of_mem_set hx with hx | rfl
    · exact a5 x hx
    · decide
  · unfold Land.arg at h2 ⊢
    simp only [Bool.or_eq_false_iff] at h2 ⊢
    obtain ⟨⟨⟨⟨⟨⟨⟨b1, b2⟩, b3⟩, b4⟩, b5⟩, b6⟩, b7⟩, b8⟩ := h2
    refine ⟨⟨⟨⟨⟨⟨⟨b1, by simpa [Land.setCs] using b2⟩, b3⟩, b4⟩, b5⟩, b6⟩, ?_⟩, b8⟩
    simp only [Bool.not_eq_false', List.all_eq_true] at b7 ⊢
    intro x hx
    rcases List.mem_or_eq_of_mem_set hx with hx | rfl
    · exact b7 x hx
    · simp

theorem kase_len {L : Land} (hs : Small L) (k : Nat) : (L.kase k).length ≤ 1000 := by
  unfold Land.kase
  cases h : L.cs[k]? with
  | none => simp
  | some x => exact hs.l5 x (List.mem_of_getElem? h)


theorem own_row {W : World} {base : Nat} {E : TypeId} {size n c : Nat} {a : Option Addr} {xs : List (List Value)} (h : Own W base E size (.slice a n c) xs) (hn : 0 < n) : ∃ g cur, a = some ⟨g, 0, none⟩ ∧ base ≤ g ∧ Box W g cur E ∧ Cells W g 0 size xs := by
  have hrow := h.rowAt.2.2
  rcases h.1.2 with ⟨hv, _⟩ | ⟨g, cap, cur, hv, hb, hg, _⟩
  · injection hv with e1 e2 e3; omega
  · injection hv with e1 e2 e3
    subst e1
    refine ⟨g, cur, rfl, hb, hg, ?_⟩
    rcases hrow with h0 | ⟨b, o, e, hC⟩
    · subst h0; intro i x hx; simp at hx
    · cases e; exact hC
theorem own_ne {W : World} {base g : Nat} {E T : TypeId} {size : Nat} {v : Value} {xs : List (List Value)} {cs : Array Value} (h : Own W base E size v xs) (hB : Box W g cs T) (hne : T ≠ E) : v.ownBlock ≠ some g := fun e => by
  obtain ⟨c, hc⟩ := own_cells2 h e
  rw [show W.heap[g]? = _ from hB] at hc
  cases hc; exact hne rfl

theorem ready_chk {L : Land} (h : L.chk = 0) (h1 : 1 < L.st.length) : Ready L := by
  obtain ⟨a1, a2, a3, a4, a5, a6, a7⟩ := chk_lens h
  exact ⟨h, h1, a1, a2, a3, a4, a5, a6, a7⟩

theorem landR_setCs {W' : World} {n0 k : Nat} {q : LV} {L : Land} {c : List Cd} (hc : CasesR W' n0 (.slice q.a3 L.cs.length q.c3) (L.cs.set k c)) (hst : Own W' n0 64 4 (.slice q.a1 L.st.length q.c1) (L.st.map Stn.vs))
    (hrd : Own W' n0 55 6 (.slice q.a2 L.rd.length q.c2) (L.rd.map Wl.vs)) (hsn : Own W' n0 50 3 (.slice q.a4 L.sn.length q.c4) (L.sn.map Sn.vs)) : LandR W' n0 q (L.setCs k c) := by
  have hlen : (L.setCs k c).cs.length = L.cs.length := by simp [Land.setCs]
  exact ⟨hst, hrd, by rw [hlen]; exact hc, hsn⟩
/-- What lies elsewhere is there still when a case row has been appended to and stored back. -/
structure Kept (W W' : World) (n0 : Nat) : Prop where
  own : ∀ {m E size u xs}, Own W m E size u xs → E ≠ 61 → E ≠ 59 → Own W' m E size u xs
  box : ∀ {b cs T}, Box W b cs T → T ≠ 61 → T ≠ 59 → Box W' b cs T
  below : ∀ {w : World}, Below w.heap.size w W → w.heap.size ≤ n0 → Below w.heap.size w W'
theorem kept_case {W W1 W2 : World} {n0 g p : Nat} {v nv : Value} {xs : List (List Value)} {cur : Array Value} (hB : Box W g cur 59) (hg0 : n0 ≤ g) (hx : Own W n0 61 8 v xs) (hb : Below W.heap.size W W1) (hg : W1.grownBy W2 v.ownBlock) :
    Kept W (W2.setCell ⟨g, p, none⟩ nv) n0 := by
  have hbut := setCell_but W2 g p nv
  have hx1 := hx.later hb
  have hB2 : Box W2 g cur 59 := (hg.block g (Nat.lt_of_lt_of_le hB.lt hb.size) fun e => own_ne hx1 (hB.later hb) (by decide) e.symm).trans (hB.later hb)
  refine ⟨fun h h1 h2 => ((h.later hb).apart hx1 h1 hg).other hB2 (Ne.symm h2) hbut, fun {b cs T} h h1 h2 => ?_, fun {w0} hw hn => ?_⟩
  · have h3 : Box W2 b cs T := (hg.block b (Nat.lt_of_lt_of_le h.lt hb.size) fun e => own_ne hx1 (h.later hb) h1 e.symm).trans (h.later hb)
    refine hbut.box h3 fun e => ?_
    subst e
    unfold Box at h3 hB2
    rw [hB2] at h3
    cases h3; exact h2 rfl
  · exact hbut.below ((over hw hb).trans (below_grown hg (over hw hb).size fun k hk => Nat.le_trans hn (hx.1.lt k hk).1)) (by omega)
theorem own_row8 {W : World} {base : Nat} {E : TypeId} {v : Value} {xcs : List Cd} (h : Own W base E 8 v (xcs.map Cd.vs)) : W.ownsRow base E 8 v xcs.length (xcs.map Cd.vs).flatten := by
  have := h.1; rwa [List.length_map] at this
theorem own_snoc {W W' : World} {base m : Nat} {E : TypeId} {size : Nat} {v v' : Value} {xs : List (List Value)} {ys : List Value} (h : Own W base E size v xs) (hm : xs.length = m) (h2 : W'.ownsRow base E size v' (m + 1) (xs.flatten ++ ys)) (hl : ys.length = size) : Own W' base E size v' (xs ++ [ys]) := by
  subst hm
  refine ⟨by simpa using h2, fun y hy => ?_⟩
  rcases List.mem_append.1 hy with hy | hy
  · exact h.2 y hy
  · simp at hy; subst hy; exact hl

/-! ### Other orders -/
def rot {α : Type} (k : Nat) (l : List α) : List α := l.drop k ++ l.take k
theorem rot_all {α : Type} (p : α → Bool) (k : Nat) (l : List α) : (rot k l).all p = l.all p := by
  unfold rot
  rw [List.all_append, Bool.and_comm, ← List.all_append, List.take_append_drop]
theorem rot_length {α : Type} (k : Nat) (l : List α) : (rot k l).length = l.length := by unfold rot; simp; omega
def _root_.Go.Hill.Land.rot (L : Land) (k m : Nat) : Land := { L with rd := Go.Proofs.Ytmfnkmmbihmjnaa.rot k L.rd, cs := Go.Proofs.Ytmfnkmmbihmjnaa.rot m L.cs }
theorem chk_rot (L : Land) (k m : Nat) : (L.rot k m).chk = L.chk := by
  have h1 : (L.rot k m).lim = L.lim := by unfold Land.lim Land.rot; simp only [rot_length, rot_all]
  have h2 : (L.rot k m).arg = L.arg := by unfold Land.arg Land.rot; simp only [rot_length, rot_all]
  unfold Land.chk
  rw [h1, h2]
def freeR (a b : Stn) (rd : List Wl) : Bool := rd.all fun w => !blk w a b
def freeC (a b : Stn) (t : Nat) (cs : List Cd) : Bool := cs.all fun c => !(inB t c.fr c.to && blk c.wl a b)
section
variable {L : Land} {i j : Nat} {a b : Stn}
theorem rbs_nil (hi : L.st[i]? = some a) (hj : L.st[j]? = some b) : L.rbs i j = [] ↔ freeR a b L.rd = true := by
  unfold Land.rbs freeR
  rw [Go.Hill.sel_nil, List.all_eq_true]
  constructor
  · intro h w hw
    obtain ⟨r, hr, hrw⟩ := List.mem_iff_getElem.1 hw
    have h1 := h r hr
    rw [rb_old hi hj, show L.rd[r]? = some w by rw [List.getElem?_eq_getElem hr, hrw]] at h1
    simp only at h1
    rw [h1]; rfl
  · intro h r hr
    rw [rb_old hi hj, List.getElem?_eq_getElem hr]
    simpa using h _ (List.getElem_mem hr)
theorem cbs_nil (hi : L.st[i]? = some a) (hj : L.st[j]? = some b) {k t : Nat} : L.cbs i j k t = [] ↔ freeC a b t (L.kase k) = true := by
  unfold Land.cbs freeC
  rw [Go.Hill.sel_nil, List.all_eq_true]
  have hcb : ∀ c, L.cb i j k t c = match (L.kase k)[c]? with | some w => inB t w.fr w.to && blk w.wl a b | none => false := fun c => by
    unfold Land.cb
    rw [hi, hj]
    cases (L.kase k)[c]? <;> rfl
  constructor
  · intro h w hw
    obtain ⟨r, hr, hrw⟩ := List.mem_iff_getElem.1 hw
    have h1 := h r hr
    rw [hcb, show (L.kase k)[r]? = some w by rw [List.getElem?_eq_getElem hr, hrw]] at h1
    simp only at h1
    rw [h1]; rfl
  · intro h r hr
    rw [hcb, List.getElem?_eq_getElem hr]
    have h1 := h _ (List.getElem_mem hr)
    rw [Bool.not_eq_true'] at h1
    exact h1
theorem stick_len (hi : L.st[i]? = some a) (hj : L.st[j]? = some b) (h0 : 0 < L.cs.length) (t : Nat) : (L.stick i j t == L.cs.length) = (decide (i ≠ j) && L.up t && !decide (L.mir i < L.need i j t) && freeR a b L.rd && L.cs.all (freeC a b t)) := by
  rw [Bool.eq_iff_iff, beq_iff_eq, stick_all]
  simp only [Bool.and_eq_true, decide_eq_true_eq, Bool.not_eq_true', decide_eq_false_iff_not, List.all_eq_true]
  constructor
  · intro h
    have h1 := can_iff.1 (h 0 h0)
    refine ⟨⟨⟨⟨h1.1, h1.2.1⟩, h1.2.2.1⟩, (rbs_nil hi hj).1 h1.2.2.2.1⟩, fun c hc => ?_⟩
    obtain ⟨r, hr, hrw⟩ := List.mem_iff_getElem.1 hc
    have h2 := (can_iff.1 (h r hr)).2.2.2.2
    rw [cbs_nil hi hj] at h2
    unfold Land.kase at h2
    rw [List.getElem?_eq_getElem hr, hrw] at h2
    exact h2
  · rintro ⟨⟨⟨⟨h1, h2⟩, h3⟩, h4⟩, h5⟩ c hc
    refine can_iff.2 ⟨h1, h2, h3, (rbs_nil hi hj).2 h4, (cbs_nil hi hj).2 ?_⟩
    unfold Land.kase
    rw [List.getElem?_eq_getElem hc]
    exact h5 _ (List.getElem_mem hc)
theorem alw_rot (hi : L.st[i]? = some a) (hj : L.st[j]? = some b) (h0 : 0 < L.cs.length) (k m : Nat) : (L.rot k m).alw i j = L.alw i j := by
  unfold Land.alw
  rw [show (L.rot k m).sn = L.sn from rfl]
  refine sel_congr fun t _ => ?_
  rw [stick_len hi hj h0, stick_len (L := L.rot k m) (a := a) (b := b) hi hj (by unfold Land.rot; simp only [rot_length]; exact h0)]
  rw [show freeR a b (L.rot k m).rd = freeR a b L.rd from rot_all _ _ _, show (L.rot k m).cs.all (freeC a b t) = L.cs.all (freeC a b t) from rot_all _ _ _]
  rfl
theorem rise_rot (L : Land) (i j k m : Nat) : (L.rot k m).rise i j = L.rise i j := by
  have h : ∀ a b n, freeAt (rot k L.rd) a b n = freeAt L.rd a b n := fun a b n => rot_all _ _ _
  unfold Land.rise riseOf
  rw [show (L.rot k m).st = L.st from rfl, show (L.rot k m).rd = rot k L.rd from rfl]
  simp only [h]
end
end Go.Proofs.Ytmfnkmmbihmjnaa
