/- A copied land changed: one case. -/
import Derived.Test.YtmfnkmmbihmjnaaLReached
open Go.RowKit
namespace Go.Proofs.Ytmfnkmmbihmjnaa
open Go.Hill

theorem CasesR.case {W : World} {n0 k : Nat} {v : Value} {css : List (List Cd)} {cs : List Cd} (h : CasesR W n0 v css) (hk : css[k]? = some cs) :
    ∃ (g c : Nat) (x : CV) (cur : Array Value), v = .slice (some ⟨g, 0, none⟩) css.length c ∧ n0 ≤ g ∧ Box W g cur 59 ∧ x.cs = cs ∧ W.cell? ⟨g, k, none⟩ = some x.val ∧ Own W n0 61 8 x.val (cs.map Cd.vs) ∧
      ∀ (W1 W2 : World) (x' : CV), Below W.heap.size W W1 → W1.grownBy W2 x.val.ownBlock → Own W2 n0 61 8 x'.val (x'.cs.map Cd.vs) → (∀ b, x'.val.ownBlock = some b → x.val.ownBlock = some b ∨ W1.heap.size ≤ b) →
        CasesR (W2.setCell ⟨g, k, none⟩ x'.val) n0 v (css.set k x'.cs) := by
  obtain ⟨l, h1, h2, h3, h4⟩ := h
  subst h1
  rw [List.getElem?_map] at hk
  cases hx : l[k]? with
  | none => rw [hx] at hk; cases hk
  | some x =>
    rw [hx] at hk
    simp only [Option.map_some, Option.some.injEq] at hk
    subst hk
    have hkl : k < l.length := (List.getElem?_eq_some_iff.1 hx).1
    have hxm := List.mem_of_getElem? hx
    rcases h2.1.2 with ⟨hv, h0⟩ | ⟨g, cap, cur, hv, hb, hg, _⟩
    · rw [List.length_map] at h0; omega
    · subst hv
      have hB : Box W g cur 59 := hg
      have hrow := h2.rowAt.2.2
      refine ⟨g, cap, x, cur, by simp, hb, hg, rfl, ?_, h3 x hxm, fun W1 W2 x' hb1 hg2 ho hn => ?_⟩
      · rcases hrow with h | ⟨b, o, e, hC⟩
        · have : l = [] := by simpa using h
          subst this; simp at hkl
        · cases e
          have := cells_one (f := CV.val) hC hx
          rwa [Nat.zero_add] at this
      · have hbut := setCell_but W2 g k x'.val
        have hx1 : Own W1 n0 61 8 x.val (x.cs.map Cd.vs) := (h3 x hxm).later hb1
        have hl2 := (h2.later hb1).apart hx1 (by decide) hg2
        have hB2 : Box W2 g cur 59 := (hg2.block g (Nat.lt_of_lt_of_le hB.lt hb1.size) fun e => by
          obtain ⟨c, hc⟩ := own_cells2 hx1 e.symm
          rw [show W1.heap[g]? = _ from hB.later hb1] at hc
          cases hc).trans (hB.later hb1)
        have hset := hl2.set (i := k) (x := [x.val]) (by simp [hx]) (show 0 < 1 by decide) x'.val
        rw [Nat.mul_one, Nat.add_zero] at hset
        have hpw := List.pairwise_iff_getElem.1 h4
        have hk2 : l[k]'hkl = x := by
          have := List.getElem?_eq_getElem hkl
          rw [hx] at this; exact (Option.some.inj this).symm
        have hfar : ∀ m (hm : m < l.length), m ≠ k → ∀ b, (l[m]'hm).val.ownBlock = some b → x.val.ownBlock ≠ some b := fun m hm hmk b h1 h2 => by
          rcases Nat.lt_or_gt_of_ne hmk with hlt | hlt
          · have := hpw m k hm hkl hlt b h1
            rw [hk2] at this; exact this h2
          · have := hpw k m hkl hm hlt b
            rw [hk2] at this
            exact this h2 h1
        have hold : ∀ m (hm : m < l.length), m ≠ k → Own (W2.setCell ⟨g, k, none⟩ x'.val) n0 61 8 (l[m]'hm).val ((l[m]'hm).cs.map Cd.vs) := fun m hm hmk => by
          have hy := (h3 _ (List.getElem_mem hm)).later hb1
          have hy2 : Own W2 n0 61 8 (l[m]'hm).val ((l[m]'hm).cs.map Cd.vs) := hy.turn fun b hbk => hg2.block b (hy.1.lt b hbk).2 fun e => hfar m hm hmk b hbk e.symm
          exact hy2.other hB2 (by decide) hbut
        have hnew : Own (W2.setCell ⟨g, k, none⟩ x'.val) n0 61 8 x'.val (x'.cs.map Cd.vs) := ho.other hB2 (by decide) hbut
        have hfar2 : ∀ m (hm : m < l.length), m ≠ k → ∀ b, (l[m]'hm).val.ownBlock = some b → x'.val.ownBlock ≠ some b := fun m hm hmk b h1 h2 => by
          rcases hn b h2 with h5 | h5
          · exact hfar m hm hmk b h1 h5
          · have := ((h3 _ (List.getElem_mem hm)).1.lt b h1).2
            have := hb1.size
            omega
        refine ⟨l.set k x', by rw [List.map_set], ?_, fun y hy => ?_, ?_⟩
        · have e : (l.map fun x => [x.val]).set k ([x.val].set 0 x'.val) = (l.set k x').map fun x => [x.val] := by rw [List.map_set]; rfl
          rw [e] at hset
          simpa using hset
        · obtain ⟨m, hm, rfl⟩ := List.mem_iff_getElem.1 hy
          rw [List.getElem_set]
          rw [List.length_set] at hm
          split
          · exact hnew
          · rename_i hkm
            exact hold m hm (Ne.symm hkm)
        · refine List.pairwise_iff_getElem.2 fun m n hm hn' hmn b h1 h2 => ?_
          rw [List.length_set] at hm hn'
          rw [List.getElem_set] at h1 h2
          by_cases hmk : k = m
          · rw [if_pos hmk] at h1
            rw [if_neg (by omega)] at h2
            exact hfar2 n hn' (by omega) b h2 h1
          · rw [if_neg hmk] at h1
            by_cases hnk : k = n
            · rw [if_pos hnk] at h2
              exact hfar2 m hm (by omega) b h1 h2
            · rw [if_neg hnk] at h2
              exact hpw m n hm hn' hmn b h1 h2
end Go.Proofs.Ytmfnkmmbihmjnaa
