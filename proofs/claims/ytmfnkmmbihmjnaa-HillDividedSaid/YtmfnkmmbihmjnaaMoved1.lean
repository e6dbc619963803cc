/- Copied lands changed cell by cell, a wall moved; the plain laws on lands that are moved and turned, and on walls that are turned round or divided. -/
import Derived.Test.YtmfnkmmbihmjnaaMore1
namespace Go.Hill

theorem side_line (ax ay bx «by» px py dx dy n : Int) : side ax ay bx «by» (px + dx * n) (py + dy * n) = side ax ay bx «by» px py + (side ax ay bx «by» (px + dx) (py + dy) - side ax ay bx «by» px py) * n := by
  unfold side; grind
theorem side_along (px py dx dy x y k n : Int) : side (px + dx * k) (py + dy * k) (px + dx * n) (py + dy * n) x y = side px py (px + dx) (py + dy) x y * (n - k) := by
  unfold side; grind
theorem absI_mul {x k : Int} (hk : 0 < k) : absI (x * k) = absI x * k := by
  unfold absI
  rcases Int.le_total 0 x with h | h
  · have := Int.mul_nonneg h (show 0 ≤ k by omega)
    rw [Int.max_eq_left (by omega), Int.max_eq_left (by omega)]
  · have := Int.mul_nonneg (show 0 ≤ -x by omega) (show 0 ≤ k by omega)
    rw [Int.neg_mul] at this
    rw [Int.max_eq_right (by omega), Int.max_eq_right (by omega), Int.neg_mul]
theorem pos_mul {x k : Int} (hk : 0 < k) : (0 < x * k ↔ 0 < x) ∧ (x * k = 0 ↔ x = 0) ∧ (x * k ≤ 0 ↔ x ≤ 0) ∧ (0 ≤ x * k ↔ 0 ≤ x) := by
  have h1 : 0 < x → 0 < x * k := fun h => Int.mul_pos h hk
  have h2 : x < 0 → x * k < 0 := fun h => Int.mul_neg_of_neg_of_pos h hk
  have h3 : x = 0 → x * k = 0 := fun h => by rw [h]; simp
  refine ⟨⟨fun h => ?_, h1⟩, ⟨fun h => ?_, h3⟩, ⟨fun h => ?_, fun h => ?_⟩, ⟨fun h => ?_, fun h => ?_⟩⟩ <;>
    (rcases Int.lt_trichotomy x 0 with c | c | c
     · have := h2 c; omega
     · have := h3 c; omega
     · have := h1 c; omega)
theorem over_mul_k (h az bz f o k : Int) : over h az bz (f * k) (o * k) = over h az bz f o * k := by unfold over; grind

/-- The lines are crossed. -/
def crossed (f o : Int) : Bool := !decide (f = 0 ∨ o = 0 ∨ (decide (0 < f) == decide (0 < o)) = true)
def parted (s t : Int) : Bool := !decide ((0 < s ∧ 0 < t) ∨ (s < 0 ∧ t < 0))
def inside (B T az bz f o : Int) : Bool := decide (0 ≤ over B az bz (absI f) (absI o)) && decide (over T az bz (absI f) (absI o) ≤ 0)
theorem blkOf_and (B T az bz f o s t : Int) : blkOf B T az bz f o s t = (crossed f o && parted s t && inside B T az bz f o) := by
  unfold blkOf crossed parted inside
  split
  · rename_i h; rw [decide_eq_true h]; rfl
  · rename_i h
    rw [decide_eq_false h]
    split
    · rename_i h2; rw [decide_eq_true h2]; rfl
    · rename_i h2; rw [decide_eq_false h2]; rfl
theorem crossed_mul {f o k : Int} (hk : 0 < k) : crossed (f * k) (o * k) = crossed f o := by
  unfold crossed
  obtain ⟨a1, a2, _⟩ := pos_mul (x := f) hk
  obtain ⟨b1, b2, _⟩ := pos_mul (x := o) hk
  simp only [a1, a2, b1, b2]
theorem inside_mul {B T az bz f o k : Int} (hk : 0 < k) : inside B T az bz (f * k) (o * k) = inside B T az bz f o := by
  unfold inside
  rw [absI_mul hk, absI_mul hk, over_mul_k, over_mul_k]
  obtain ⟨_, _, _, a4⟩ := pos_mul (x := over B az bz (absI f) (absI o)) hk
  obtain ⟨_, _, b3, _⟩ := pos_mul (x := over T az bz (absI f) (absI o)) hk
  simp only [a4, b3]
theorem parted_mid {s d n k : Int} (h1 : 0 < k) (h2 : k < n) : (parted s (s + d * k) || parted (s + d * k) (s + d * n)) = parted s (s + d * n) := by
  have e : d * n = d * k + d * (n - k) := by rw [← Int.mul_add]; congr 1; omega
  have p1 := pos_mul (x := d) h1
  have p2 := pos_mul (x := d) (show 0 < n - k by omega)
  rw [e]
  generalize d * k = x at *
  generalize d * (n - k) = y at *
  unfold parted
  rw [Bool.eq_iff_iff]
  simp only [Bool.or_eq_true, Bool.not_eq_true', decide_eq_false_iff_not]
  omega

/-- A wall whose ends are a place, and n steps from it; divided after k of them. -/
theorem blk_parts {X Y dx dy n k B T : Int} (h1 : 0 < k) (h2 : k < n) (a b : Stn) :
    blk ⟨X, Y, X + dx * n, Y + dy * n, B, T⟩ a b = (blk ⟨X, Y, X + dx * k, Y + dy * k, B, T⟩ a b || blk ⟨X + dx * k, Y + dy * k, X + dx * n, Y + dy * n, B, T⟩ a b) := by
  unfold blk
  simp only [blkOf_and]
  rw [side_at X Y dx dy a.X a.Y n, side_at X Y dx dy b.X b.Y n, side_at X Y dx dy a.X a.Y k, side_at X Y dx dy b.X b.Y k, side_along, side_along]
  rw [crossed_mul (by omega), crossed_mul h1, crossed_mul (by omega), inside_mul (by omega), inside_mul h1, inside_mul (by omega)]
  rw [side_line a.X a.Y b.X b.Y X Y dx dy n, side_line a.X a.Y b.X b.Y X Y dx dy k, ← parted_mid h1 h2]
  generalize crossed _ _ = c
  generalize inside _ _ _ _ _ _ = i
  cases c <;> cases i <;> simp
end Go.Hill
open Go.RowKit
namespace Go.Proofs.Ytmfnkmmbihmjnaa
open Go.Hill

/-- All answers about two stations are the same in two lands. -/
structure Alike (L M : Land) (i j : Nat) : Prop where
  st : M.st.length = L.st.length
  cs : M.cs.length = L.cs.length
  sn : M.sn.length = L.sn.length
  alw : M.alw i j = L.alw i j
  rise : M.rise i j = L.rise i j
  rbs : M.rbs i j = L.rbs i j
  cbs : ∀ k t, M.cbs i j k t = L.cbs i j k t
  why : ∀ k t, M.why i j k t = L.why i j k t
theorem why_same {L M : Land} {i j k t : Nat} (h1 : M.up t = L.up t) (h2 : M.mir i = L.mir i) (h3 : M.need i j t = L.need i j t) (h4 : M.rbs i j = L.rbs i j) (h5 : M.cbs i j k t = L.cbs i j k t) : M.why i j k t = L.why i j k t := by
  unfold Land.why; rw [h1, h2, h3, h4, h5]
theorem alw_same {L M : Land} {i j : Nat} (hs : M.sn.length = L.sn.length) (hc : M.cs.length = L.cs.length) (h : ∀ k t, M.why i j k t = L.why i j k t) : M.alw i j = L.alw i j := by
  have h1 : ∀ k t, M.can i j k t = L.can i j k t := fun k t => by unfold Land.can; rw [h]
  unfold Land.alw
  rw [hs]
  refine sel_congr fun t _ => ?_
  unfold Land.stick
  rw [hc]
  simp only [h1]

def _root_.Go.Hill.Land.mv (L : Land) (e n : Int) (tn : Bool) : Land := ⟨L.st.map (Stn.mv e n tn), L.rd.map (Wl.mv e n tn), L.cs.map (List.map (Cd.mv e n tn)), L.sn.map (Sn.tn tn)⟩
theorem mv_upBy (e n u : Int) (tn : Bool) (a : Stn) : (a.mv e n tn).upBy u = (a.upBy u).mv e n tn := by
  unfold Stn.mv Stn.upBy; cases tn <;> rfl
theorem mv_Z (e n : Int) (tn : Bool) (a : Stn) : (a.mv e n tn).Z = a.Z ∧ (a.mv e n tn).M = a.M := by
  unfold Stn.mv; cases tn <;> exact ⟨rfl, rfl⟩
theorem tn_U (tn : Bool) (s : Sn) : (s.tn tn).U = s.U := by unfold Sn.tn; cases tn <;> rfl
theorem alike_mv (L : Land) (e n : Int) (tn : Bool) (i j : Nat) : Alike L (L.mv e n tn) i j := by
  have hrb : ∀ r, (L.mv e n tn).rb i j r = L.rb i j r := fun r => by
    unfold Land.rb Land.mv
    simp only [List.getElem?_map]
    cases L.rd[r]? <;> cases L.st[i]? <;> cases L.st[j]? <;> simp [blk_mv]
  have hka : ∀ k, (L.mv e n tn).kase k = (L.kase k).map (Cd.mv e n tn) := fun k => by
    unfold Land.kase Land.mv
    simp only [List.getElem?_map]
    cases L.cs[k]? <;> rfl
  have hcb : ∀ k t c, (L.mv e n tn).cb i j k t c = L.cb i j k t c := fun k t c => by
    unfold Land.cb
    rw [hka]
    unfold Land.mv
    simp only [List.getElem?_map]
    cases (L.kase k)[c]? <;> cases L.st[i]? <;> cases L.st[j]? <;> simp [Cd.mv, blk_mv]
  have hrbs : (L.mv e n tn).rbs i j = L.rbs i j := by
    unfold Land.rbs
    rw [show (L.mv e n tn).rd.length = L.rd.length by simp [Land.mv], show (L.mv e n tn).rb i j = L.rb i j from funext hrb]
  have hcbs : ∀ k t, (L.mv e n tn).cbs i j k t = L.cbs i j k t := fun k t => by
    unfold Land.cbs
    rw [show ((L.mv e n tn).kase k).length = (L.kase k).length by rw [hka]; simp, show (L.mv e n tn).cb i j k t = L.cb i j k t from funext (hcb k t)]
  have hup : ∀ t, (L.mv e n tn).up t = L.up t := fun t => by
    unfold Land.up Land.mv
    simp only [List.getElem?_map]
    cases L.sn[t]? <;> simp [tn_U]
  have hmir : (L.mv e n tn).mir i = L.mir i := by
    unfold Land.mir Land.mv
    simp only [List.getElem?_map]
    cases L.st[i]? <;> simp [mv_Z]
  have hneed : ∀ t, (L.mv e n tn).need i j t = L.need i j t := fun t => by
    unfold Land.need Land.mv
    simp only [List.getElem?_map]
    cases L.sn[t]? <;> cases L.st[i]? <;> cases L.st[j]? <;> simp [needM_mv]
  have hwhy : ∀ k t, (L.mv e n tn).why i j k t = L.why i j k t := fun k t => why_same (hup t) hmir (hneed t) hrbs (hcbs k t)
  have l1 : (L.mv e n tn).st.length = L.st.length := by simp [Land.mv]
  have l2 : (L.mv e n tn).cs.length = L.cs.length := by simp [Land.mv]
  have l3 : (L.mv e n tn).sn.length = L.sn.length := by simp [Land.mv]
  refine ⟨l1, l2, l3, alw_same l3 l2 hwhy, ?_, hrbs, hcbs, hwhy⟩
  have hfree : ∀ a b u, freeAt (L.rd.map (Wl.mv e n tn)) (a.mv e n tn) (b.mv e n tn) u = freeAt L.rd a b u := fun a b u => by
    unfold freeAt
    rw [List.all_map]
    congr 1
    funext w
    simp only [Function.comp, mv_upBy, blk_mv]
  unfold Land.rise Land.mv
  simp only [List.getElem?_map]
  cases L.st[i]? <;> cases L.st[j]? <;> try rfl
  simp only [Option.map_some]
  unfold riseOf
  rw [(mv_Z e n tn _).1]
  simp only [hfree]

/-! ### Ridges turned round, divided -/
def _root_.Go.Hill.Land.setRd (L : Land) (r : Nat) (w : Wl) : Land := { L with rd := L.rd.set r w }
theorem flip_rg {w : Wl} (h : w.rg = true) : w.flip.rg = true := by
  unfold Wl.rg Wl.ok Wl.flip at *
  simp only [Bool.and_eq_true, Bool.not_eq_true', Bool.and_eq_false_iff, beq_eq_false_iff_ne, ne_eq] at h ⊢
  obtain ⟨⟨⟨⟨⟨⟨⟨h1, h2⟩, h3⟩, h4⟩, h5⟩, h6⟩, h7⟩, h8⟩ := h
  refine ⟨⟨⟨⟨⟨⟨⟨h3, h4⟩, h1⟩, h2⟩, ?_⟩, h6⟩, h7⟩, h8⟩
  rcases h5 with h5 | h5
  · exact .inl fun e => h5 e.symm
  · exact .inr fun e => h5 e.symm
theorem chk_rd {L : Land} {l : List Wl} (h : L.chk = 0) (hl : l.length ≤ 6) (hr : ∀ w ∈ l, w.rg = true) : ({ L with rd := l } : Land).chk = 0 := by
  rw [chk_two0] at h ⊢
  obtain ⟨h1, h2⟩ := h
  constructor
  · unfold Land.lim at h1 ⊢
    simp only [Bool.or_eq_false_iff] at h1 ⊢
    obtain ⟨⟨⟨⟨a1, a2⟩, a3⟩, a4⟩, a5⟩ := h1
    exact ⟨⟨⟨⟨a1, by simpa using hl⟩, a3⟩, a4⟩, a5⟩
  · unfold Land.arg at h2 ⊢
    simp only [Bool.or_eq_false_iff] at h2 ⊢
    obtain ⟨⟨⟨⟨⟨⟨⟨b1, b2⟩, b3⟩, b4⟩, b5⟩, b6⟩, b7⟩, b8⟩ := h2
    exact ⟨⟨⟨⟨⟨⟨⟨b1, b2⟩, b3⟩, b4⟩, b5⟩, by simpa [List.all_eq_true] using hr⟩, b7⟩, b8⟩
theorem rd_rg {L : Land} (h : L.chk = 0) : ∀ w ∈ L.rd, w.rg = true := by
  have h := (chk_two0.1 h).2
  unfold Land.arg at h
  simp only [Bool.or_eq_false_iff, Bool.not_eq_false', List.all_eq_true] at h
  exact h.1.1.2
theorem chk_flip {L : Land} {r : Nat} {w : Wl} (h : L.chk = 0) (hw : L.rd[r]? = some w) (h6 : L.rd.length ≤ 6) : (L.setRd r w.flip).chk = 0 := by
  refine chk_rd h (by simpa using h6) fun x hx => ?_
  rcases List.mem_or_eq_of_mem_set hx with hx | rfl
  · exact rd_rg h x hx
  · exact flip_rg (rd_rg h w (List.mem_of_getElem? hw))
theorem rb_setRd {L : Land} {r : Nat} {w w' : Wl} {i j : Nat} (hw : L.rd[r]? = some w) (hb : ∀ a b, blk w' a b = blk w a b) (m : Nat) : (L.setRd r w').rb i j m = L.rb i j m := by
  have hrl : r < L.rd.length := (List.getElem?_eq_some_iff.1 hw).1
  unfold Land.rb Land.setRd
  simp only [List.getElem?_set]
  by_cases hm : r = m
  · subst hm
    rw [if_pos rfl, if_pos hrl, hw]
    cases L.st[i]? <;> cases L.st[j]? <;> simp [hb]
  · rw [if_neg hm]
theorem all_set {α : Type} {p : α → Bool} : ∀ {l : List α} {r : Nat} {w w' : α}, l[r]? = some w → p w' = p w → (l.set r w').all p = l.all p
  | [], r, w, w', h, _ => by simp at h
  | x :: l, 0, w, w', h, hp => by simp at h; subst h; simp [hp]
  | x :: l, r + 1, w, w', h, hp => by
    simp only [List.set_cons_succ, List.all_cons]
    rw [all_set (l := l) (by simpa using h) hp]
theorem alike_flip {L : Land} {r : Nat} {w : Wl} {i j : Nat} (hw : L.rd[r]? = some w) : Alike L (L.setRd r w.flip) i j := by
  have hrb := rb_setRd (i := i) (j := j) hw (w' := w.flip) fun a b => blk_flip w a b
  have hrbs : (L.setRd r w.flip).rbs i j = L.rbs i j := by
    unfold Land.rbs
    rw [show (L.setRd r w.flip).rd.length = L.rd.length by simp [Land.setRd], show (L.setRd r w.flip).rb i j = L.rb i j from funext hrb]
  have hwhy : ∀ k t, (L.setRd r w.flip).why i j k t = L.why i j k t := fun k t => why_same rfl rfl rfl hrbs rfl
  refine ⟨rfl, rfl, rfl, alw_same rfl rfl hwhy, ?_, hrbs, fun _ _ => rfl, hwhy⟩
  have hfree : ∀ a b u, freeAt (L.rd.set r w.flip) a b u = freeAt L.rd a b u := fun a b u => all_set hw (by rw [blk_flip])
  unfold Land.rise riseOf
  rw [show (L.setRd r w.flip).st = L.st from rfl, show (L.setRd r w.flip).rd = L.rd.set r w.flip from rfl]
  simp only [hfree]

/-- The wall up to the place, and from there on. -/
def part1 (w : Wl) (dx dy k : Int) : Wl := ⟨w.X1, w.Y1, w.X1 + dx * k, w.Y1 + dy * k, w.B, w.T⟩
def part2 (w : Wl) (dx dy k : Int) : Wl := ⟨w.X1 + dx * k, w.Y1 + dy * k, w.X2, w.Y2, 0, w.T⟩
def _root_.Go.Hill.Land.parts (L : Land) (r : Nat) (w1 w2 : Wl) : Land := { L with rd := L.rd.set r w1 ++ [w2] }
section
variable {w : Wl} {dx dy n k : Int}
theorem part_blk (hB : w.B = 0) (hx : w.X2 - w.X1 = dx * n) (hy : w.Y2 - w.Y1 = dy * n) (h1 : 0 < k) (h2 : k < n) (a b : Stn) : blk w a b = (blk (part1 w dx dy k) a b || blk (part2 w dx dy k) a b) := by
  have := blk_parts (X := w.X1) (Y := w.Y1) (dx := dx) (dy := dy) (B := w.B) (T := w.T) h1 h2 a b
  rw [← hx, ← hy, show w.X1 + (w.X2 - w.X1) = w.X2 by omega, show w.Y1 + (w.Y2 - w.Y1) = w.Y2 by omega] at this
  unfold part1 part2
  rw [← hB]
  exact this
theorem mid_in {x y d n k lo hi : Int} (h : y - x = d * n) (h1 : 0 < k) (h2 : k < n) (hx : lo ≤ x ∧ x ≤ hi) (hy : lo ≤ y ∧ y ≤ hi) : lo ≤ x + d * k ∧ x + d * k ≤ hi := by
  rcases Int.le_total 0 d with hd | hd
  · have a1 := Int.mul_nonneg hd (show 0 ≤ k by omega)
    have a2 := Int.mul_le_mul_of_nonneg_left (show k ≤ n by omega) hd
    omega
  · have a1 := Int.mul_nonneg (show 0 ≤ -d by omega) (show 0 ≤ k by omega)
    have a2 := Int.mul_le_mul_of_nonneg_left (show k ≤ n by omega) (show 0 ≤ -d by omega)
    rw [Int.neg_mul] at a1 a2
    rw [Int.neg_mul] at a2
    omega
theorem part_rg (hw : w.rg = true) (hx : w.X2 - w.X1 = dx * n) (hy : w.Y2 - w.Y1 = dy * n) (h1 : 0 < k) (h2 : k < n) : (part1 w dx dy k).rg = true ∧ (part2 w dx dy k).rg = true := by
  have hz : ∀ d m : Int, 0 < m → d * m = 0 → d = 0 := fun d m hm h => by
    rcases Int.mul_eq_zero.1 h with h | h
    · exact h
    · omega
  have key : ∀ m : Int, 0 < m → ¬ (dx * m = 0 ∧ dy * m = 0) := fun m hm ⟨e1, e2⟩ => by
    have e3 := hz _ _ hm e1
    have e4 := hz _ _ hm e2
    rw [e3] at hx; rw [e4] at hy
    unfold Wl.rg Wl.ok at hw
    simp only [Bool.and_eq_true, Bool.not_eq_true', Bool.and_eq_false_iff, beq_eq_false_iff_ne, ne_eq] at hw
    have := hw.1.1.1.2
    omega
  have k1 := key k h1
  have k2 := key (n - k) (by omega)
  have e1 : dx * n = dx * k + dx * (n - k) := by rw [← Int.mul_add]; congr 1; omega
  have e2 : dy * n = dy * k + dy * (n - k) := by rw [← Int.mul_add]; congr 1; omega
  unfold Wl.rg Wl.ok at hw ⊢
  unfold part1 part2
  simp only [Bool.and_eq_true, Bool.not_eq_true', Bool.and_eq_false_iff, beq_eq_false_iff_ne, ne_eq, inB, decide_eq_true_eq, beq_iff_eq] at hw ⊢
  obtain ⟨⟨⟨⟨⟨⟨⟨g1, g2⟩, g3⟩, g4⟩, g5⟩, g6⟩, g7⟩, g8⟩ := hw
  have m1 := mid_in hx h1 h2 g1 g3
  have m2 := mid_in hy h1 h2 g2 g4
  refine ⟨⟨⟨⟨⟨⟨⟨⟨g1, g2⟩, m1⟩, m2⟩, ?_⟩, g6⟩, g7⟩, g8⟩, ⟨⟨⟨⟨⟨⟨⟨m1, m2⟩, g3⟩, g4⟩, ?_⟩, ?_⟩, g7⟩, trivial⟩⟩
  · omega
  · omega
  · omega
end
section
variable {L : Land} {r i j : Nat} {w w1 w2 : Wl} {a b : Stn}
theorem chk_parts (h : L.chk = 0) (h6 : L.rd.length < 6) (h1 : w1.rg = true) (h2 : w2.rg = true) : (L.parts r w1 w2).chk = 0 := by
  refine chk_rd h (by simp; omega) fun x hx => ?_
  rcases List.mem_append.1 hx with hx | hx
  · rcases List.mem_or_eq_of_mem_set hx with hx | rfl
    · exact rd_rg h x hx
    · exact h1
  · simp at hx; subst hx; exact h2
theorem rbs_parts (hw : L.rd[r]? = some w) (hi : L.st[i]? = some a) (hj : L.st[j]? = some b) (hb : ∀ a b, blk w a b = (blk w1 a b || blk w2 a b)) :
    (L.rbs i j).contains (r : Int) = (((L.parts r w1 w2).rbs i j).contains (r : Int) || ((L.parts r w1 w2).rbs i j).contains (L.rd.length : Int)) := by
  have hrl : r < L.rd.length := (List.getElem?_eq_some_iff.1 hw).1
  have hlen : (L.parts r w1 w2).rd.length = L.rd.length + 1 := by simp [Land.parts]
  unfold Land.rbs
  rw [sel_contains, sel_contains, sel_contains, hlen]
  have e1 : (L.parts r w1 w2).rb i j r = blk w1 a b := by
    rw [rb_old (L := L.parts r w1 w2) (i := i) (j := j) (a := a) (b := b) hi hj]
    rw [show (L.parts r w1 w2).rd[r]? = some w1 by unfold Land.parts; rw [List.getElem?_append_left (by simpa using hrl)]; simp [hrl]]
  have e2 : (L.parts r w1 w2).rb i j L.rd.length = blk w2 a b := by
    rw [rb_old (L := L.parts r w1 w2) (i := i) (j := j) (a := a) (b := b) hi hj]
    rw [show (L.parts r w1 w2).rd[L.rd.length]? = some w2 by unfold Land.parts; rw [List.getElem?_append_right (by simp)]; simp]
  have e3 : L.rb i j r = blk w a b := by rw [rb_old hi hj, hw]
  rw [e1, e2, e3, hb]
  simp [hrl, show r < L.rd.length + 1 by omega]
theorem rise_parts (hw : L.rd[r]? = some w) (hb : ∀ a b, blk w a b = (blk w1 a b || blk w2 a b)) : (L.parts r w1 w2).rise i j = L.rise i j := by
  have hfree : ∀ a b u, freeAt (L.rd.set r w1 ++ [w2]) a b u = freeAt L.rd a b u := fun a b u => by
    unfold freeAt
    rw [List.all_append]
    have h2 : ∀ {l : List Wl} {r : Nat}, l[r]? = some w → ((l.set r w1).all (fun x => !blk x (a.upBy u) b) && [w2].all fun x => !blk x (a.upBy u) b) = l.all fun x => !blk x (a.upBy u) b := fun {l} => by
      induction l with
      | nil => intro r h; simp at h
      | cons x l ih =>
        intro r h
        cases r with
        | zero =>
          simp at h; subst h
          simp only [List.set_cons_zero, List.all_cons, List.all_nil, Bool.and_true]
          rw [hb]
          cases blk w1 (a.upBy u) b <;> cases blk w2 (a.upBy u) b <;> simp
        | succ r =>
          rw [List.set_cons_succ, List.all_cons, List.all_cons (l := l), Bool.and_assoc, ih (by simpa using h)]
    exact h2 hw
  unfold Land.rise riseOf
  rw [show (L.parts r w1 w2).st = L.st from rfl, show (L.parts r w1 w2).rd = L.rd.set r w1 ++ [w2] from rfl]
  simp only [hfree]
end


theorem LandR.ridge {W : World} {n0 : Nat} {q : LV} {L : Land} {i : Nat} {a : Wl} (h : LandR W n0 q L) (hi : L.rd[i]? = some a) :
    ∃ g cur, q.a2 = some ⟨g, 0, none⟩ ∧ n0 ≤ g ∧ Box W g cur 55 ∧ (∀ j v, a.vs[j]? = some v → W.cell? ⟨g, i * 6 + j, none⟩ = some v) ∧
      ∀ j u (a' : Wl), j < 6 → a'.vs = a.vs.set j u → LandR (W.setCell ⟨g, i * 6 + j, none⟩ u) n0 q (L.setRd i a') := by
  obtain ⟨h1, h2, h3, h4⟩ := h
  have hil : i < L.rd.length := (List.getElem?_eq_some_iff.1 hi).1
  have hx : (L.rd.map Wl.vs)[i]? = some a.vs := by simp [hi]
  obtain ⟨g, cur, e, hb, hB, hC⟩ := own_row h2 (by omega)
  obtain ⟨q1, k1, q2, k2, q3, k3, q4, k4⟩ := q
  simp only at e
  subst e
  refine ⟨g, cur, rfl, hb, hB, fun j v hj => ?_, fun j u a' hj ha => ?_⟩
  · have := hC i a.vs hx j v hj
    rwa [Nat.zero_add] at this
  · have hbut := setCell_but W g (i * 6 + j) u
    have hs := h2.set hx hj u
    have e : (L.rd.map Wl.vs).set i (a.vs.set j u) = (L.rd.set i a').map Wl.vs := by rw [List.map_set, ha]
    rw [e] at hs
    have hlen : (L.setRd i a').rd.length = L.rd.length := by simp [Land.setRd]
    exact ⟨h1.other hB (by decide) hbut, by rw [hlen]; exact hs, h3.other hB (by decide) (by decide) hbut, h4.other hB (by decide) hbut⟩
def _root_.Go.Hill.Land.setSn (L : Land) (i : Nat) (s : Sn) : Land := { L with sn := L.sn.set i s }
theorem LandR.sun {W : World} {n0 : Nat} {q : LV} {L : Land} {i : Nat} {a : Sn} (h : LandR W n0 q L) (hi : L.sn[i]? = some a) :
    ∃ g cur, q.a4 = some ⟨g, 0, none⟩ ∧ n0 ≤ g ∧ Box W g cur 50 ∧ (∀ j v, a.vs[j]? = some v → W.cell? ⟨g, i * 3 + j, none⟩ = some v) ∧
      ∀ j u (a' : Sn), j < 3 → a'.vs = a.vs.set j u → LandR (W.setCell ⟨g, i * 3 + j, none⟩ u) n0 q (L.setSn i a') := by
  obtain ⟨h1, h2, h3, h4⟩ := h
  have hil : i < L.sn.length := (List.getElem?_eq_some_iff.1 hi).1
  have hx : (L.sn.map Sn.vs)[i]? = some a.vs := by simp [hi]
  obtain ⟨g, cur, e, hb, hB, hC⟩ := own_row h4 (by omega)
  obtain ⟨q1, k1, q2, k2, q3, k3, q4, k4⟩ := q
  simp only at e
  subst e
  refine ⟨g, cur, rfl, hb, hB, fun j v hj => ?_, fun j u a' hj ha => ?_⟩
  · have := hC i a.vs hx j v hj
    rwa [Nat.zero_add] at this
  · have hbut := setCell_but W g (i * 3 + j) u
    have hs := h4.set hx hj u
    have e : (L.sn.map Sn.vs).set i (a.vs.set j u) = (L.sn.set i a').map Sn.vs := by rw [List.map_set, ha]
    rw [e] at hs
    have hlen : (L.setSn i a').sn.length = L.sn.length := by simp [Land.setSn]
    exact ⟨h1.other hB (by decide) hbut, h2.other hB (by decide) hbut, h3.other hB (by decide) (by decide) hbut, by rw [hlen]; exact hs⟩
theorem CasesR.cloud {W : World} {n0 k i : Nat} {v : Value} {css : List (List Cd)} {cs : List Cd} {c : Cd} (h : CasesR W n0 v css) (hk : css[k]? = some cs) (hi : cs[i]? = some c) :
    ∃ (g cap : Nat) (x : CV) (g2 : Nat) (cur1 cur2 : Array Value), v = .slice (some ⟨g, 0, none⟩) css.length cap ∧ n0 ≤ g ∧ n0 ≤ g2 ∧ Box W g cur1 59 ∧ Box W g2 cur2 61 ∧ x.cs = cs ∧ x.a = some ⟨g2, 0, none⟩ ∧ W.cell? ⟨g, k, none⟩ = some x.val ∧
      (∀ j v, c.vs[j]? = some v → W.cell? ⟨g2, i * 8 + j, none⟩ = some v) ∧
      ∀ j u (c' : Cd), j < 8 → c'.vs = c.vs.set j u → CasesR (W.setCell ⟨g2, i * 8 + j, none⟩ u) n0 v (css.set k (cs.set i c')) := by
  obtain ⟨g, cap, x, cur, e1, hg, hB, hxc, hcell, hown, _⟩ := h.case hk
  subst hxc
  have hil : i < x.cs.length := (List.getElem?_eq_some_iff.1 hi).1
  obtain ⟨g2, cur2, e2, hg2, hB2, hC⟩ := own_row (a := x.a) (n := x.cs.length) (c := x.c) hown (by omega)
  refine ⟨g, cap, x, g2, cur, cur2, e1, hg, hg2, hB, hB2, rfl, e2, hcell, fun j u hj => ?_, fun j u c' hj hc => ?_⟩
  · have := hC i c.vs (by simp [hi]) j u hj
    rwa [Nat.zero_add] at this
  · obtain ⟨l, h1, h2, h3, h4⟩ := h
    have hbut := setCell_but W g2 (i * 8 + j) u
    have hkl : k < l.length := by
      have := (List.getElem?_eq_some_iff.1 hk).1
      rw [← h1] at this; simpa using this
    have hlk : (l[k]'hkl).cs = x.cs := by
      rw [← h1, List.getElem?_map, List.getElem?_eq_getElem hkl] at hk
      simpa using hk
    have hcell2 : W.cell? ⟨g, k, none⟩ = some (l[k]'hkl).val := by
      rw [e1] at h2
      have hrow := h2.rowAt.2.2
      rcases hrow with h0 | ⟨b, o, e, hCc⟩
      · have : l = [] := by simpa using h0
        subst this; simp at hkl
      · cases e
        have := cells_one (f := CV.val) hCc (List.getElem?_eq_getElem hkl)
        rwa [Nat.zero_add] at this
    have hval : (l[k]'hkl).val = x.val := by rw [hcell] at hcell2; exact (Option.some.inj hcell2).symm
    have hx2 : x.val = .slice (some ⟨g2, 0, none⟩) x.cs.length x.c := by unfold CV.val; rw [e2]
    have hset := (show Own W n0 61 8 (.slice (some ⟨g2, 0, none⟩) x.cs.length x.c) (x.cs.map Cd.vs) by rw [← hx2]; exact hown).set (i := i) (x := c.vs) (by simp [hi]) hj u
    rw [show (x.cs.map Cd.vs).set i (c.vs.set j u) = (x.cs.set i c').map Cd.vs by rw [List.map_set, hc]] at hset
    have hblk : (l[k]'hkl).val.ownBlock = some g2 := by rw [hval, hx2]; rfl
    have hpw := List.pairwise_iff_getElem.1 h4
    have hfar : ∀ m (hm : m < l.length), m ≠ k → (l[m]'hm).val.ownBlock ≠ some g2 := fun m hm hmk e => by
      rcases Nat.lt_or_gt_of_ne hmk with hlt | hlt
      · exact hpw m k hm hkl hlt g2 e hblk
      · exact hpw k m hkl hm hlt g2 hblk e
    refine ⟨l.set k ⟨some ⟨g2, 0, none⟩, x.c, x.cs.set i c'⟩, by rw [List.map_set, h1], ?_, fun y hy => ?_, ?_⟩
    · have h5 := h2.other hB2 (by decide) hbut
      have e : (l.set k ⟨some ⟨g2, 0, none⟩, x.c, x.cs.set i c'⟩).map (fun x => [x.val]) = l.map fun x => [x.val] := by
        rw [List.map_set]
        have : [(⟨some ⟨g2, 0, none⟩, x.c, x.cs.set i c'⟩ : CV).val] = (l.map fun x => [x.val])[k]'(by simpa using hkl) := by
          rw [List.getElem_map, hval, hx2]
          unfold CV.val; simp
        rw [this, List.set_getElem_self]
      rw [e]; exact h5
    · obtain ⟨m, hm, rfl⟩ := List.mem_iff_getElem.1 hy
      rw [List.getElem_set]
      rw [List.length_set] at hm
      split
      · have : (⟨some ⟨g2, 0, none⟩, x.c, x.cs.set i c'⟩ : CV).val = .slice (some ⟨g2, 0, none⟩) x.cs.length x.c := by unfold CV.val; simp
        rw [this]; exact hset
      · rename_i hkm
        exact (h3 _ (List.getElem_mem hm)).turn fun b hb => hbut.block b fun e => hfar m hm (Ne.symm hkm) (by rw [hb, e])
    · refine List.pairwise_iff_getElem.2 fun m n hm hn' hmn b h1 h2 => ?_
      rw [List.length_set] at hm hn'
      have hval3 : (⟨some ⟨g2, 0, none⟩, x.c, x.cs.set i c'⟩ : CV).val.ownBlock = some g2 := rfl
      rw [List.getElem_set] at h1 h2
      by_cases hmk : k = m
      · rw [if_pos hmk, hval3] at h1
        rw [if_neg (by omega)] at h2
        cases h1
        exact hfar n hn' (by omega) h2
      · rw [if_neg hmk] at h1
        by_cases hnk : k = n
        · rw [if_pos hnk, hval3] at h2
          cases h2
          exact hfar m hm (by omega) h1
        · rw [if_neg hnk] at h2
          exact hpw m n hm hn' hmn b h1 h2


set_option maxRecDepth 100000 in
theorem moved_any (s : Wl) (e n : Int) (tn : Bool) (w : World) (hs : 0 ≤ s.X1 ∧ s.X1 ≤ 100 ∧ 0 ≤ s.Y1 ∧ s.Y1 ≤ 100 ∧ 0 ≤ s.X2 ∧ s.X2 ≤ 100 ∧ 0 ≤ s.Y2 ∧ s.Y2 ≤ 100) (he : -20 ≤ e ∧ e ≤ 20) (hn : -20 ≤ n ∧ n ≤ 20) :
    Calls Try.prog 43 #[.agg #[.int .i64 s.X1, .int .i64 s.Y1, .int .i64 s.X2, .int .i64 s.Y2, .int .i64 s.B, .int .i64 s.T], .int .i64 e, .int .i64 n, .bool tn] w (Ret (.agg #[.int .i64 (s.mv e n tn).X1, .int .i64 (s.mv e n tn).Y1, .int .i64 (s.mv e n tn).X2, .int .i64 (s.mv e n tn).Y2, .int .i64 (s.mv e n tn).B, .int .i64 (s.mv e n tn).T]) w) := by
  obtain ⟨b1, b2, b3, b4, b5, b6, b7, b8⟩ := hs
  obtain ⟨he1, he2⟩ := he
  obtain ⟨hn1, hn2⟩ := hn
  cases tn
  · go_enter Try.func43, Try.ntmps43
    go_wp2_with fail
    exact bodyPost_ret (v := .agg #[.int .i64 (s.X1 + e), .int .i64 (s.Y1 + n), .int .i64 (s.X2 + e), .int .i64 (s.Y2 + n), .int .i64 s.B, .int .i64 s.T]) (by simp [results, Try.results43, go_sem]) rfl ⟨rfl, (by repeat (first | exact Below.refl _ _ | refine al ?_ _ | refine Below.drew ?_ | refine sc ?_ (by simp) _))⟩
  · go_enter Try.func43, Try.ntmps43
    go_wp2_with fail
    exact bodyPost_ret (v := .agg #[.int .i64 (s.Y1 + n), .int .i64 (s.X1 + e), .int .i64 (s.Y2 + n), .int .i64 (s.X2 + e), .int .i64 s.B, .int .i64 s.T]) (by simp [results, Try.results43, go_sem]) rfl ⟨rfl, (by repeat (first | exact Below.refl _ _ | refine al ?_ _ | refine Below.drew ?_ | refine sc ?_ (by simp) _))⟩

/-! ### Lists changed from the front on -/
def stage {α : Type} (f : α → α) (l : List α) (k : Nat) : List α := (l.take k).map f ++ l.drop k
section
variable {α : Type} {f : α → α} {l : List α} {k : Nat} {x : α}
theorem stage_zero : stage f l 0 = l := by unfold stage; simp
theorem stage_full : stage f l l.length = l.map f := by unfold stage; simp
theorem stage_length : (stage f l k).length = l.length := by unfold stage; simp; omega
theorem stage_get (h : k < l.length) : (stage f l k)[k]? = l[k]? := by
  unfold stage
  rw [List.getElem?_append_right (by simp; omega)]
  simp
  rw [Nat.min_eq_left (by omega), Nat.sub_self, Nat.add_zero]
theorem stage_set (h : l[k]? = some x) : (stage f l k).set k (f x) = stage f l (k + 1) := by
  have hk : k < l.length := (List.getElem?_eq_some_iff.1 h).1
  unfold stage
  rw [List.set_append_right _ _ (by simp; omega), List.take_add_one, h]
  have hd : l.drop k = x :: l.drop (k + 1) := by
    rw [List.drop_eq_getElem_cons hk]
    congr 1
    rw [List.getElem?_eq_getElem hk] at h
    exact Option.some.inj h
  rw [hd]
  simp
  rw [Nat.min_eq_left (by omega), Nat.sub_self]
  rfl
end

/-! ### Several cells -/
theorem st_setSt {L : Land} {i : Nat} {a a' : Stn} (hi : L.st[i]? = some a) : (L.setSt i a').st[i]? = some a' := by
  have hil : i < L.st.length := (List.getElem?_eq_some_iff.1 hi).1
  unfold Land.setSt; simp [hil]
theorem setSt_setSt (L : Land) (i : Nat) (a b : Stn) : (L.setSt i a).setSt i b = L.setSt i b := by unfold Land.setSt; simp
theorem rd_setRd {L : Land} {i : Nat} {a a' : Wl} (hi : L.rd[i]? = some a) : (L.setRd i a').rd[i]? = some a' := by
  have hil : i < L.rd.length := (List.getElem?_eq_some_iff.1 hi).1
  unfold Land.setRd; simp [hil]
theorem setRd_setRd (L : Land) (i : Nat) (a b : Wl) : (L.setRd i a).setRd i b = L.setRd i b := by unfold Land.setRd; simp
theorem LandR.set2 {W : World} {n0 : Nat} {q : LV} {L : Land} {i g : Nat} {a : Stn} (h : LandR W n0 q L) (hi : L.st[i]? = some a) (hg : q.a1 = some ⟨g, 0, none⟩) (x y : Int) :
    LandR ((W.setCell ⟨g, i * 4 + 0, none⟩ (.int .i64 x)).setCell ⟨g, i * 4 + 1, none⟩ (.int .i64 y)) n0 q (L.setSt i ⟨x, y, a.Z, a.M⟩) := by
  obtain ⟨g1, _, e1, _, _, _, h1⟩ := h.set hi
  rw [hg] at e1
  cases e1
  have s1 := h1 0 (.int .i64 x) ⟨x, a.Y, a.Z, a.M⟩ (by decide) rfl
  obtain ⟨g2, _, e2, _, _, _, h2⟩ := s1.set (st_setSt hi)
  rw [hg] at e2
  cases e2
  have s2 := h2 1 (.int .i64 y) ⟨x, y, a.Z, a.M⟩ (by decide) rfl
  rwa [setSt_setSt] at s2
theorem LandR.ridge6 {W : World} {n0 : Nat} {q : LV} {L : Land} {i g : Nat} {a : Wl} (h : LandR W n0 q L) (hi : L.rd[i]? = some a) (hg : q.a2 = some ⟨g, 0, none⟩) (b : Wl) :
    LandR (W.setCells g (i * 6) b.vs) n0 q (L.setRd i b) := by
  have step : ∀ {W : World} {L : Land} {a : Wl} (_ : LandR W n0 q L) (_ : L.rd[i]? = some a) (j : Nat) (u : Value) (a' : Wl), j < 6 → a'.vs = a.vs.set j u → LandR (W.setCell ⟨g, i * 6 + j, none⟩ u) n0 q (L.setRd i a') := fun {W L a} h hi j u a' hj hv => by
    obtain ⟨g1, _, e1, _, _, _, h1⟩ := h.ridge hi
    rw [hg] at e1
    cases e1
    exact h1 j u a' hj hv
  have s1 := step h hi 0 (.int .i64 b.X1) ⟨b.X1, a.Y1, a.X2, a.Y2, a.B, a.T⟩ (by decide) rfl
  have s2 := step s1 (rd_setRd hi) 1 (.int .i64 b.Y1) ⟨b.X1, b.Y1, a.X2, a.Y2, a.B, a.T⟩ (by decide) rfl
  have s3 := step s2 (rd_setRd (rd_setRd hi)) 2 (.int .i64 b.X2) ⟨b.X1, b.Y1, b.X2, a.Y2, a.B, a.T⟩ (by decide) rfl
  have s4 := step s3 (rd_setRd (rd_setRd (rd_setRd hi))) 3 (.int .i64 b.Y2) ⟨b.X1, b.Y1, b.X2, b.Y2, a.B, a.T⟩ (by decide) rfl
  have s5 := step s4 (rd_setRd (rd_setRd (rd_setRd (rd_setRd hi)))) 4 (.int .i64 b.B) ⟨b.X1, b.Y1, b.X2, b.Y2, b.B, a.T⟩ (by decide) rfl
  have s6 := step s5 (rd_setRd (rd_setRd (rd_setRd (rd_setRd (rd_setRd hi))))) 5 (.int .i64 b.T) b (by decide) rfl
  simp only [setRd_setRd] at s6
  exact s6


theorem cloud_step {W : World} {n0 k i g g2 m cp n cp2 : Nat} {v : Value} {css : List (List Cd)} {cs : List Cd} {c : Cd} (h : CasesR W n0 v css) (hk : css[k]? = some cs) (hi : cs[i]? = some c) (hv : v = .slice (some ⟨g, 0, none⟩) m cp)
    (hcell : W.cell? ⟨g, k, none⟩ = some (.slice (some ⟨g2, 0, none⟩) n cp2)) (hne : g ≠ g2) (j : Nat) (u : Value) (c' : Cd) (hj : j < 8) (hc : c'.vs = c.vs.set j u) :
    CasesR (W.setCell ⟨g2, i * 8 + j, none⟩ u) n0 v (css.set k (cs.set i c')) ∧ (W.setCell ⟨g2, i * 8 + j, none⟩ u).cell? ⟨g, k, none⟩ = some (.slice (some ⟨g2, 0, none⟩) n cp2) := by
  obtain ⟨g', cap, x, g2', _, _, e1, _, _, _, _, hx, e2, hcell2, _, hset⟩ := h.cloud hk hi
  rw [hv] at e1
  cases e1
  rw [hcell] at hcell2
  have e3 := Option.some.inj hcell2
  unfold CV.val at e3
  rw [e2] at e3
  cases e3
  exact ⟨hset j u c' hj hc, by rw [World.cell?_of_block ((setCell_but W g2 (i * 8 + j) u).block g hne)]; exact hcell⟩
theorem CasesR.cloud6 {W : World} {n0 k i g g2 m cp n cp2 : Nat} {v : Value} {css : List (List Cd)} {cs : List Cd} {c : Cd} (h : CasesR W n0 v css) (hk : css[k]? = some cs) (hi : cs[i]? = some c) (hv : v = .slice (some ⟨g, 0, none⟩) m cp)
    (hcell : W.cell? ⟨g, k, none⟩ = some (.slice (some ⟨g2, 0, none⟩) n cp2)) (hne : g ≠ g2) (b : Wl) : CasesR (W.setCells g2 (i * 8) b.vs) n0 v (css.set k (cs.set i ⟨b, c.fr, c.to⟩)) := by
  have hkl : k < css.length := (List.getElem?_eq_some_iff.1 hk).1
  have hil : i < cs.length := (List.getElem?_eq_some_iff.1 hi).1
  have K : ∀ d : List Cd, (css.set k d)[k]? = some d := fun d => by simp [hkl]
  have I : ∀ d : Cd, (cs.set i d)[i]? = some d := fun d => by simp [hil]
  have s1 := cloud_step h hk hi hv hcell hne 0 (.int .i64 b.X1) ⟨⟨b.X1, c.wl.Y1, c.wl.X2, c.wl.Y2, c.wl.B, c.wl.T⟩, c.fr, c.to⟩ (by decide) rfl
  have s2 := cloud_step s1.1 (K _) (I _) hv s1.2 hne 1 (.int .i64 b.Y1) ⟨⟨b.X1, b.Y1, c.wl.X2, c.wl.Y2, c.wl.B, c.wl.T⟩, c.fr, c.to⟩ (by decide) rfl
  rw [List.set_set, List.set_set] at s2
  have s3 := cloud_step s2.1 (K _) (I _) hv s2.2 hne 2 (.int .i64 b.X2) ⟨⟨b.X1, b.Y1, b.X2, c.wl.Y2, c.wl.B, c.wl.T⟩, c.fr, c.to⟩ (by decide) rfl
  rw [List.set_set, List.set_set] at s3
  have s4 := cloud_step s3.1 (K _) (I _) hv s3.2 hne 3 (.int .i64 b.Y2) ⟨⟨b.X1, b.Y1, b.X2, b.Y2, c.wl.B, c.wl.T⟩, c.fr, c.to⟩ (by decide) rfl
  rw [List.set_set, List.set_set] at s4
  have s5 := cloud_step s4.1 (K _) (I _) hv s4.2 hne 4 (.int .i64 b.B) ⟨⟨b.X1, b.Y1, b.X2, b.Y2, b.B, c.wl.T⟩, c.fr, c.to⟩ (by decide) rfl
  rw [List.set_set, List.set_set] at s5
  have s6 := cloud_step s5.1 (K _) (I _) hv s5.2 hne 5 (.int .i64 b.T) ⟨b, c.fr, c.to⟩ (by decide) rfl
  rw [List.set_set, List.set_set] at s6
  exact s6.1
/-- The wall of one cloud is set. -/
theorem LandR.cloud {W : World} {n0 k i : Nat} {q : LV} {L : Land} {cs : List Cd} {c : Cd} (h : LandR W n0 q L) (hk : L.cs[k]? = some cs) (hi : cs[i]? = some c) :
    ∃ (g g2 cap : Nat) (cur1 cur2 : Array Value), q.a3 = some ⟨g, 0, none⟩ ∧ n0 ≤ g ∧ n0 ≤ g2 ∧ g ≠ g2 ∧ Box W g cur1 59 ∧ Box W g2 cur2 61 ∧ W.cell? ⟨g, k, none⟩ = some (.slice (some ⟨g2, 0, none⟩) cs.length cap) ∧
      (∀ j v, c.vs[j]? = some v → W.cell? ⟨g2, i * 8 + j, none⟩ = some v) ∧ ∀ b : Wl, LandR (W.setCells g2 (i * 8) b.vs) n0 q (L.setCs k (cs.set i ⟨b, c.fr, c.to⟩)) := by
  obtain ⟨h1, h2, h3, h4⟩ := h
  obtain ⟨g, cap, x, g2, cur1, cur2, e1, hg, hg2, hB, hB2, hx, e2, hcell, hcells, _⟩ := h3.cloud hk hi
  have hne : g ≠ g2 := fun e => by subst e; unfold Box at hB hB2; rw [hB] at hB2; cases hB2
  have hcell' : W.cell? ⟨g, k, none⟩ = some (.slice (some ⟨g2, 0, none⟩) cs.length x.c) := by rw [hcell]; unfold CV.val; rw [e2, hx]
  have e3 : q.a3 = some ⟨g, 0, none⟩ := by injection e1
  refine ⟨g, g2, x.c, cur1, cur2, e3, hg, hg2, hne, hB, hB2, hcell', hcells, fun b => ?_⟩
  have hbut := (setCells_form b.vs (i * 8) hB2).2
  have hlen : (L.setCs k (cs.set i ⟨b, c.fr, c.to⟩)).cs.length = L.cs.length := by simp [Land.setCs]
  exact ⟨h1.other hB2 (by decide) hbut, h2.other hB2 (by decide) hbut, by rw [hlen]; exact h3.cloud6 hk hi e1 hcell' hne b, h4.other hB2 (by decide) hbut⟩
theorem LandR.sun2 {W : World} {n0 : Nat} {q : LV} {L : Land} {i g : Nat} {a : Sn} (h : LandR W n0 q L) (hi : L.sn[i]? = some a) (hg : q.a4 = some ⟨g, 0, none⟩) (x y : Int) :
    LandR ((W.setCell ⟨g, i * 3 + 0, none⟩ (.int .i64 x)).setCell ⟨g, i * 3 + 1, none⟩ (.int .i64 y)) n0 q (L.setSn i ⟨x, y, a.U⟩) := by
  have hil : i < L.sn.length := (List.getElem?_eq_some_iff.1 hi).1
  obtain ⟨g1, _, e1, _, _, _, h1⟩ := h.sun hi
  rw [hg] at e1
  cases e1
  have s1 := h1 0 (.int .i64 x) ⟨x, a.N, a.U⟩ (by decide) rfl
  obtain ⟨g2, _, e2, _, _, _, h2⟩ := s1.sun (i := i) (a := ⟨x, a.N, a.U⟩) (by unfold Land.setSn; simp [hil])
  rw [hg] at e2
  cases e2
  have s2 := h2 1 (.int .i64 y) ⟨x, y, a.U⟩ (by decide) rfl
  rwa [show (L.setSn i ⟨x, a.N, a.U⟩).setSn i ⟨x, y, a.U⟩ = L.setSn i ⟨x, y, a.U⟩ by unfold Land.setSn; simp] at s2
end Go.Proofs.Ytmfnkmmbihmjnaa
