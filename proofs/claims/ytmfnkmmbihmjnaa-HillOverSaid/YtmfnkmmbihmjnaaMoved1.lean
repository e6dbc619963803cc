/- The plain laws on lands that are moved and turned, and on walls that are turned round or divided. -/
import Derived.Test.YtmfnkmmbihmjnaaMore1
import Derived.Test.YtmfnkmmbihmjnaaFacts2
open Go.RowKit
namespace Go.Proofs.Ytmfnkmmbihmjnaa
open Go.Hill

/-- All answers about two stations are the same in two lands. -/
structure Alike (L M : Land) (i j : Nat) : Prop where
  st : M.st.length = L.st.length
  cs : M.cs.length = L.cs.length
  sn : M.sn.length = L.sn.length
  alw : M.alw i j = L.alw i j
  rise : M.rise i j = L.rise i j
  rbs : M.rbs i j = L.rbs i j
  cbs : ∀ k t, M.cbs i j k t = L.cbs i j k t
  why : ∀ k t, M.why i j k t = L.why i j k t
theorem why_same {L M : Land} {i j k t : Nat} (h1 : M.up t = L.up t) (h2 : M.mir i = L.mir i) (h3 : M.need i j t = L.need i j t) (h4 : M.rbs i j = L.rbs i j) (h5 : M.cbs i j k t = L.cbs i j k t) : M.why i j k t = L.why i j k t := by
  unfold Land.why; rw [h1, h2, h3, h4, h5]
theorem alw_same {L M : Land} {i j : Nat} (hs : M.sn.length = L.sn.length) (hc : M.cs.length = L.cs.length) (h : ∀ k t, M.why i j k t = L.why i j k t) : M.alw i j = L.alw i j := by
  have h1 : ∀ k t, M.can i j k t = L.can i j k t := fun k t => by unfold Land.can; rw [h]
  unfold Land.alw
  rw [hs]
  refine sel_congr fun t _ => ?_
  unfold Land.stick
  rw [hc]
  simp only [h1]

def _root_.Go.Hill.Land.mv (L : Land) (e n : Int) (tn : Bool) : Land := ⟨L.st.map (Stn.mv e n tn), L.rd.map (Wl.mv e n tn), L.cs.map (List.map (Cd.mv e n tn)), L.sn.map (Sn.tn tn)⟩
theorem mv_upBy (e n u : Int) (tn : Bool) (a : Stn) : (a.mv e n tn).upBy u = (a.upBy u).mv e n tn := by
  unfold Stn.mv Stn.upBy; cases tn <;> rfl
theorem mv_Z (e n : Int) (tn : Bool) (a : Stn) : (a.mv e n tn).Z = a.Z ∧ (a.mv e n tn).M = a.M := by
  unfold Stn.mv; cases tn <;> exact ⟨rfl, rfl⟩
theorem tn_U (tn : Bool) (s : Sn) : (s.tn tn).U = s.U := by unfold Sn.tn; cases tn <;> rfl
theorem alike_mv (L : Land) (e n : Int) (tn : Bool) (i j : Nat) : Alike L (L.mv e n tn) i j := by
  have hrb : ∀ r, (L.mv e n tn).rb i j r = L.rb i j r := fun r => by
    unfold Land.rb Land.mv
    simp only [List.getElem?_map]
    cases L.rd[r]? <;> cases L.st[i]? <;> cases L.st[j]? <;> simp [blk_mv]
  have hka : ∀ k, (L.mv e n tn).kase k = (L.kase k).map (Cd.mv e n tn) := fun k => by
    unfold Land.kase Land.mv
    simp only [List.getElem?_map]
    cases L.cs[k]? <;> rfl
  have hcb : ∀ k t c, (L.mv e n tn).cb i j k t c = L.cb i j k t c := fun k t c => by
    unfold Land.cb
    rw [hka]
    unfold Land.mv
    simp only [List.getElem?_map]
    cases (L.kase k)[c]? <;> cases L.st[i]? <;> cases L.st[j]? <;> simp [Cd.mv, blk_mv]
  have hrbs : (L.mv e n tn).rbs i j = L.rbs i j := by
    unfold Land.rbs
    rw [show (L.mv e n tn).rd.length = L.rd.length by simp [Land.mv], show (L.mv e n tn).rb i j = L.rb i j from funext hrb]
  have hcbs : ∀ k t, (L.mv e n tn).cbs i j k t = L.cbs i j k t := fun k t => by
    unfold Land.cbs
    rw [show ((L.mv e n tn).kase k).length = (L.kase k).length by rw [hka]; simp, show (L.mv e n tn).cb i j k t = L.cb i j k t from funext (hcb k t)]
  have hup : ∀ t, (L.mv e n tn).up t = L.up t := fun t => by
    unfold Land.up Land.mv
    simp only [List.getElem?_map]
    cases L.sn[t]? <;> simp [tn_U]
  have hmir : (L.mv e n tn).mir i = L.mir i := by
    unfold Land.mir Land.mv
    simp only [List.getElem?_map]
    cases L.st[i]? <;> simp [mv_Z]
  have hneed : ∀ t, (L.mv e n tn).need i j t = L.need i j t := fun t => by
    unfold Land.need Land.mv
    simp only [List.getElem?_map]
    cases L.sn[t]? <;> cases L.st[i]? <;> cases L.st[j]? <;> simp [needM_mv]
  have hwhy : ∀ k t, (L.mv e n tn).why i j k t = L.why i j k t := fun k t => why_same (hup t) hmir (hneed t) hrbs (hcbs k t)
  have l1 : (L.mv e n tn).st.length = L.st.length := by simp [Land.mv]
  have l2 : (L.mv e n tn).cs.length = L.cs.length := by simp [Land.mv]
  have l3 : (L.mv e n tn).sn.length = L.sn.length := by simp [Land.mv]
  refine ⟨l1, l2, l3, alw_same l3 l2 hwhy, ?_, hrbs, hcbs, hwhy⟩
  have hfree : ∀ a b u, freeAt (L.rd.map (Wl.mv e n tn)) (a.mv e n tn) (b.mv e n tn) u = freeAt L.rd a b u := fun a b u => by
    unfold freeAt
    rw [List.all_map]
    congr 1
    funext w
    simp only [Function.comp, mv_upBy, blk_mv]
  unfold Land.rise Land.mv
  simp only [List.getElem?_map]
  cases L.st[i]? <;> cases L.st[j]? <;> try rfl
  simp only [Option.map_some]
  unfold riseOf
  rw [(mv_Z e n tn _).1]
  simp only [hfree]

/-! ### Ridges turned round, divided -/
def _root_.Go.Hill.Land.setRd (L : Land) (r : Nat) (w : Wl) : Land := { L with rd := L.rd.set r w }
theorem flip_rg {w : Wl} (h : w.rg = true) : w.flip.rg = true := by
  unfold Wl.rg Wl.ok Wl.flip at *
  simp only [Bool.and_eq_true, Bool.not_eq_true', Bool.and_eq_false_iff, beq_eq_false_iff_ne, ne_eq] at h ⊢
  obtain ⟨⟨⟨⟨⟨⟨⟨h1, h2⟩, h3⟩, h4⟩, h5⟩, h6⟩, h7⟩, h8⟩ := h
  refine ⟨⟨⟨⟨⟨⟨⟨h3, h4⟩, h1⟩, h2⟩, ?_⟩, h6⟩, h7⟩, h8⟩
  rcases h5 with h5 | h5
  · exact .inl fun e => h5 e.symm
  · exact .inr fun e => h5 e.symm
theorem chk_rd {L : Land} {l : List Wl} (h : L.chk = 0) (hl : l.length ≤ 6) (hr : ∀ w ∈ l, w.rg = true) : ({ L with rd := l } : Land).chk = 0 := by
  rw [chk_two0] at h ⊢
  obtain ⟨h1, h2⟩ := h
  constructor
  · unfold Land.lim at h1 ⊢
    simp only [Bool.or_eq_false_iff] at h1 ⊢
    obtain ⟨⟨⟨⟨a1, a2⟩, a3⟩, a4⟩, a5⟩ := h1
    exact ⟨⟨⟨⟨a1, by simpa using hl⟩, a3⟩, a4⟩, a5⟩
  · unfold Land.arg at h2 ⊢
    simp only [Bool.or_eq_false_iff] at h2 ⊢
    obtain ⟨⟨⟨⟨⟨⟨⟨b1, b2⟩, b3⟩, b4⟩, b5⟩, b6⟩, b7⟩, b8⟩ := h2
    exact ⟨⟨⟨⟨⟨⟨⟨b1, b2⟩, b3⟩, b4⟩, b5⟩, by simpa [List.all_eq_true] using hr⟩, b7⟩, b8⟩
theorem rd_rg {L : Land} (h : L.chk = 0) : ∀ w ∈ L.rd, w.rg = true := by
  have h := (chk_two0.1 h).2
  unfold Land.arg at h
  simp only [Bool.or_eq_false_iff, Bool.not_eq_false', List.all_eq_true] at h
  exact h.1.1.2
theorem chk_flip {L : Land} {r : Nat} {w : Wl} (h : L.chk = 0) (hw : L.rd[r]? = some w) (h6 : L.rd.length ≤ 6) : (L.setRd r w.flip).chk = 0 := by
  refine chk_rd h (by simpa using h6) fun x hx => ?_
  rcases List.mem_or_eq_of_mem_set hx with hx | rfl
  · exact rd_rg h x hx
  · exact flip_rg (rd_rg h w (List.mem_of_getElem? hw))
theorem rb_setRd {L : Land} {r : Nat} {w w' : Wl} {i j : Nat} (hw : L.rd[r]? = some w) (hb : ∀ a b, blk w' a b = blk w a b) (m : Nat) : (L.setRd r w').rb i j m = L.rb i j m := by
  have hrl : r < L.rd.length := (List.getElem?_eq_some_iff.1 hw).1
  unfold Land.rb Land.setRd
  simp only [List.getElem?_set]
  by_cases hm : r = m
  · subst hm
    rw [if_pos rfl, if_pos hrl, hw]
    cases L.st[i]? <;> cases L.st[j]? <;> simp [hb]
  · rw [if_neg hm]
theorem all_set {α : Type} {p : α → Bool} : ∀ {l : List α} {r : Nat} {w w' : α}, l[r]? = some w → p w' = p w → (l.set r w').all p = l.all p
  | [], r, w, w', h, _ => by simp at h
  | x :: l, 0, w, w', h, hp => by simp at h; subst h; simp [hp]
  | x :: l, r + 1, w, w', h, hp => by
    simp only [List.set_cons_succ, List.all_cons]
    rw [all_set (l := l) (by simpa using h) hp]
theorem alike_flip {L : Land} {r : Nat} {w : Wl} {i j : Nat} (hw : L.rd[r]? = some w) : Alike L (L.setRd r w.flip) i j := by
  have hrb := rb_setRd (i := i) (j := j) hw (w' := w.flip) fun a b => blk_flip w a b
  have hrbs : (L.setRd r w.flip).rbs i j = L.rbs i j := by
    unfold Land.rbs
    rw [show (L.setRd r w.flip).rd.length = L.rd.length by simp [Land.setRd], show (L.setRd r w.flip).rb i j = L.rb i j from funext hrb]
  have hwhy : ∀ k t, (L.setRd r w.flip).why i j k t = L.why i j k t := fun k t => why_same rfl rfl rfl hrbs rfl
  refine ⟨rfl, rfl, rfl, alw_same rfl rfl hwhy, ?_, hrbs, fun _ _ => rfl, hwhy⟩
  have hfree : ∀ a b u, freeAt (L.rd.set r w.flip) a b u = freeAt L.rd a b u := fun a b u => all_set hw (by rw [blk_flip])
  unfold Land.rise riseOf
  rw [show (L.setRd r w.flip).st = L.st from rfl, show (L.setRd r w.flip).rd = L.rd.set r w.flip from rfl]
  simp only [hfree]

/-- The wall up to the place, and from there on. -/
def part1 (w : Wl) (dx dy k : Int) : Wl := ⟨w.X1, w.Y1, w.X1 + dx * k, w.Y1 + dy * k, w.B, w.T⟩
def part2 (w : Wl) (dx dy k : Int) : Wl := ⟨w.X1 + dx * k, w.Y1 + dy * k, w.X2, w.Y2, 0, w.T⟩
def _root_.Go.Hill.Land.parts (L : Land) (r : Nat) (w1 w2 : Wl) : Land := { L with rd := L.rd.set r w1 ++ [w2] }
section
variable {w : Wl} {dx dy n k : Int}
theorem part_blk (hB : w.B = 0) (hx : w.X2 - w.X1 = dx * n) (hy : w.Y2 - w.Y1 = dy * n) (h1 : 0 < k) (h2 : k < n) (a b : Stn) : blk w a b = (blk (part1 w dx dy k) a b || blk (part2 w dx dy k) a b) := by
  have := blk_parts (X := w.X1) (Y := w.Y1) (dx := dx) (dy := dy) (B := w.B) (T := w.T) h1 h2 a b
  rw [← hx, ← hy, show w.X1 + (w.X2 - w.X1) = w.X2 by omega, show w.Y1 + (w.Y2 - w.Y1) = w.Y2 by omega] at this
  unfold part1 part2
  rw [← hB]
  exact this
theorem mid_in {x y d n k lo hi : Int} (h : y - x = d * n) (h1 : 0 < k) (h2 : k < n) (hx : lo ≤ x ∧ x ≤ hi) (hy : lo ≤ y ∧ y ≤ hi) : lo ≤ x + d * k ∧ x + d * k ≤ hi := by
  rcases Int.le_total 0 d with hd | hd
  · have a1 := Int.mul_nonneg hd (show 0 ≤ k by omega)
    have a2 := Int.mul_le_mul_of_nonneg_left (show k ≤ n by omega) hd
    omega
  · have a1 := Int.mul_nonneg (show 0 ≤ -d by omega) (show 0 ≤ k by omega)
    have a2 := Int.mul_le_mul_of_nonneg_left (show k ≤ n by omega) (show 0 ≤ -d by omega)
    rw [Int.neg_mul] at a1 a2
    rw [Int.neg_mul] at a2
    omega
theorem part_rg (hw : w.rg = true) (hx : w.X2 - w.X1 = dx * n) (hy : w.Y2 - w.Y1 = dy * n) (h1 : 0 < k) (h2 : k < n) : (part1 w dx dy k).rg = true ∧ (part2 w dx dy k).rg = true := by
  have hz : ∀ d m : Int, 0 < m → d * m = 0 → d = 0 := fun d m hm h => by
    rcases Int.mul_eq_zero.1 h with h | h
    · exact h
    · omega
  have key : ∀ m : Int, 0 < m → ¬ (dx * m = 0 ∧ dy * m = 0) := fun m hm ⟨e1, e2⟩ => by
    have e3 := hz _ _ hm e1
    have e4 := hz _ _ hm e2
    rw [e3] at hx; rw [e4] at hy
    unfold Wl.rg Wl.ok at hw
    simp only [Bool.and_eq_true, Bool.not_eq_true', Bool.and_eq_false_iff, beq_eq_false_iff_ne, ne_eq] at hw
    have := hw.1.1.1.2
    omega
  have k1 := key k h1
  have k2 := key (n - k) (by omega)
  have e1 : dx * n = dx * k + dx * (n - k) := by rw [← Int.mul_add]; congr 1; omega
  have e2 : dy * n = dy * k + dy * (n - k) := by rw [← Int.mul_add]; congr 1; omega
  unfold Wl.rg Wl.ok at hw ⊢
  unfold part1 part2
  simp only [Bool.and_eq_true, Bool.not_eq_true', Bool.and_eq_false_iff, beq_eq_false_iff_ne, ne_eq, inB, decide_eq_true_eq, beq_iff_eq] at hw ⊢
  obtain ⟨⟨⟨⟨⟨⟨⟨g1, g2⟩, g3⟩, g4⟩, g5⟩, g6⟩, g7⟩, g8⟩ := hw
  have m1 := mid_in hx h1 h2 g1 g3
  have m2 := mid_in hy h1 h2 g2 g4
  refine ⟨⟨⟨⟨⟨⟨⟨⟨g1, g2⟩, m1⟩, m2⟩, ?_⟩, g6⟩, g7⟩, g8⟩, ⟨⟨⟨⟨⟨⟨⟨m1, m2⟩, g3⟩, g4⟩, ?_⟩, ?_⟩, g7⟩, trivial⟩⟩
  · omega
  · omega
  · omega
end
section
variable {L : Land} {r i j : Nat} {w w1 w2 : Wl} {a b : Stn}
theorem chk_parts (h : L.chk = 0) (h6 : L.rd.length < 6) (h1 : w1.rg = true) (h2 : w2.rg = true) : (L.parts r w1 w2).chk = 0 := by
  refine chk_rd h (by simp; omega) fun x hx => ?_
  rcases List.mem_append.1 hx with hx | hx
  · rcases List.mem_or_eq_of_mem_set hx with hx | rfl
    · exact rd_rg h x hx
    · exact h1
  · simp at hx; subst hx; exact h2
theorem rbs_parts (hw : L.rd[r]? = some w) (hi : L.st[i]? = some a) (hj : L.st[j]? = some b) (hb : ∀ a b, blk w a b = (blk w1 a b || blk w2 a b)) :
    (L.rbs i j).contains (r : Int) = (((L.parts r w1 w2).rbs i j).contains (r : Int) || ((L.parts r w1 w2).rbs i j).contains (L.rd.length : Int)) := by
  have hrl : r < L.rd.length := (List.getElem?_eq_some_iff.1 hw).1
  have hlen : (L.parts r w1 w2).rd.length = L.rd.length + 1 := by simp [Land.parts]
  unfold Land.rbs
  rw [sel_contains, sel_contains, sel_contains, hlen]
  have e1 : (L.parts r w1 w2).rb i j r = blk w1 a b := by
    rw [rb_old (L := L.parts r w1 w2) (i := i) (j := j) (a := a) (b := b) hi hj]
    rw [show (L.parts r w1 w2).rd[r]? = some w1 by unfold Land.parts; rw [List.getElem?_append_left (by simpa using hrl)]; simp [hrl]]
  have e2 : (L.parts r w1 w2).rb i j L.rd.length = blk w2 a b := by
    rw [rb_old (L := L.parts r w1 w2) (i := i) (j := j) (a := a) (b := b) hi hj]
    rw [show (L.parts r w1 w2).rd[L.rd.length]? = some w2 by unfold Land.parts; rw [List.getElem?_append_right (by simp)]; simp]
  have e3 : L.rb i j r = blk w a b := by rw [rb_old hi hj, hw]
  rw [e1, e2, e3, hb]
  simp [hrl, show r < L.rd.length + 1 by omega]
theorem rise_parts (hw : L.rd[r]? = some w) (hb : ∀ a b, blk w a b = (blk w1 a b || blk w2 a b)) : (L.parts r w1 w2).rise i j = L.rise i j := by
  have hfree : ∀ a b u, freeAt (L.rd.set r w1 ++ [w2]) a b u = freeAt L.rd a b u := fun a b u => by
    unfold freeAt
    rw [List.all_append]
    have h2 : ∀ {l : List Wl} {r : Nat}, l[r]? = some w → ((l.set r w1).all (fun x => !blk x (a.upBy u) b) && [w2].all fun x => !blk x (a.upBy u) b) = l.all fun x => !blk x (a.upBy u) b := fun {l} => by
      induction l with
      | nil => intro r h; simp at h
      | cons x l ih =>
        intro r h
        cases r with
        | zero =>
          simp at h; subst h
          simp only [List.set_cons_zero, List.all_cons, List.all_nil, Bool.and_true]
          rw [hb]
          cases blk w1 (a.upBy u) b <;> cases blk w2 (a.upBy u) b <;> simp
        | succ r =>
          rw [List.set_cons_succ, List.all_cons, List.all_cons (l := l), Bool.and_assoc, ih (by simpa using h)]
    exact h2 hw
  unfold Land.rise riseOf
  rw [show (L.parts r w1 w2).st = L.st from rfl, show (L.parts r w1 w2).rd = L.rd.set r w1 ++ [w2] from rfl]
  simp only [hfree]
end
end Go.Proofs.Ytmfnkmmbihmjnaa
