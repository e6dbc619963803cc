/- A land at work, the walks: the first case in which a station cannot flash. -/
import Derived.Test.YtmfnkmmbihmjnaaWork2
import Derived.WalkMore
import Derived.Deep.LoopGhost
open Go.RowKit
namespace Go.Proofs.Ytmfnkmmbihmjnaa
open Go.Hill

set_option maxRecDepth 100000 in
set_option maxHeartbeats 1000000 in
theorem stick_any (bw bm : Nat) (q : LV) (L : Land) (av : Nat → Prop) (i j t : Nat) (w : World) (hw : WorkAt w bw bm q L av) (hav : ∀ b, av b → b < w.heap.size) (hc : L.chk = 0) (hi : i < L.st.length) (hj : j < L.st.length) (ht : t < L.sn.length) :
    Calls Try.prog 63 #[.pointer (some ⟨bw, 0, none⟩), pairV i j, .int .i64 t] w (RetW (.int .i64 (L.stick i j t)) bw bm q L av w) := by
  have HW := Lib.hid hw
  have HAv := Lib.hid hav
  have HC := Lib.hid hc
  have l3 := (small_of hc).l3
  have B1 := hw.box
  clear hw hav hc
  go_enter Try.func63, Try.ntmps63
  have hW : Below w.heap.size w (w.alloc (.cells #[.int .i64 i, .int .i64 j] 95)) := (by repeat (first | exact Below.refl _ _ | refine al ?_ _ | refine Below.drew ?_ | refine sc ?_ (by simp) _))
  have c1 := (B1.later hW).cell
  go_wp2_with fail
  go_step3
  go_wp2_with fail
  go_step3
  go_wp2_with fail
  refine named1 (p := Code.wp _ _ _ _) ?_
  intro W hW' B4
  clear c1 hW
  (try clear c1 t1); replace B1 := B1.later hW'; have c1 := B1.cell; have t1 := B1.lt
  have c4 := B4.cell; have t4 := B4.lt
  have HW1 := Lib.hid (HW.out.later hW')
  have HS := hW'.size
  have HG0 := Lib.hid (Below.grown hW' (some bm))
  clear hW'
  go_loopw [14] (fun i' wr => ∃ n : Nat, n ≤ L.cs.length ∧ i' = .int .i64 n ∧ W.grownBy wr (some bm) ∧ WorkAt wr bw bm q L av ∧ ∀ m, m < n → L.can i j m t = true) (fun i' _ => L.cs.length - (intOf i').toNat)
  case atStart => exact ⟨0, Nat.zero_le _, rfl, Below.grown (Below.refl _ _) _, HW1.out, fun m hm => by omega⟩
  case round =>
    obtain ⟨n, hn, rfl, hg, hwr, hall⟩ := hrel
    have HWr := Lib.hid hwr
    have HG := Lib.hid hg
    have HA := Lib.hid hall
    have D1 := HW1.out.keep B1 hg
    have D4 := HW1.out.keep B4 hg
    have hsz := hg.size
    clear c1 t1 c4 t4 hwr hg hall
    have c1 := D1.cell
    have t1 := D1.lt
    have c4 := D4.cell
    have t4 := D4.lt
    by_cases hlt : n < L.cs.length
    · obtain ⟨v, hv⟩ : ∃ v, v = L.can i j n t := ⟨_, rfl⟩
      have HV := Lib.hid hv
      have HCan : Hid (Calls Try.prog 47 #[.pointer (some ⟨bw, 0, none⟩), pairV i j, .int .i64 n, .int .i64 t] wr (RetW (.bool v) bw bm q L av wr)) := by
        rw [hv]; exact can_any bw bm q L av i j n t wr HWr.out (fun b hb => by have := HAv.out b hb; omega) HC.out hi hj hlt ht
      clear hv
      go_wp2_with fail
      refine HCan.out.mono ?_
      rintro e w2 ⟨rfl, hg2, hw2⟩
      have HG2 := Lib.hid (grown_trans HG.out hg2)
      have HW2 := Lib.hid hw2
      clear hg2 hw2 HCan c1 t1 c4 t4
      cases v with
      | true =>
        go_wp2_with fail
        go_roundw
        case rel =>
          refine ⟨n + 1, by omega, by go_num, HG2.out, HW2.out, fun m hm => ?_⟩
          rcases Nat.lt_succ_iff_lt_or_eq.1 hm with h | h
          · exact HA.out m h
          · subst h; exact HV.out.symm
        case measure => simp [intOf]; omega
      | false =>
        go_wp2_with fail
        go_ret
        exact ⟨ret_int (by rw [Land.stick, firstNot_at hlt HV.out.symm HA.out]), grown_trans HG0.out HG2.out, HW2.out⟩
    · go_wp2_with fail
      go_ret
      exact ⟨ret_int (by rw [Land.stick, firstNot_all fun m hm => HA.out m (by omega)]), grown_trans HG0.out HG.out, HWr.out⟩

/-! ### A list of hours -/
/-- As wpList_grow, and where the new row lies. -/
theorem wpList_grow2 {P : Program} {ops : Array Oper} {rest : List Oper} {o : Oper} {a : Act} {W : World} {Q : Exit → Act → World → Prop} (hgd : o.guard = none) (s x : Operand) (t : TypeId)
    (ho : o.op = .call { callee := .builtin .append, args := #[s, x], argTypes := #[t, t] })
    {base : Nat} {E : TypeId} {size bytes : Nat} (he : Elem P t E size bytes) {v : Value} {xs : List (List Value)} (hs : a.eval s = v) (hown : Own W base E size v xs)
    {g c : Nat} {cells : Array Value} (hx : a.eval x = .slice (some ⟨g, 0, none⟩) 1 c) (hB : Box W g cells E) (hsz : cells.size = size) (h0 : 0 < size) (h1 : cells.toList.all (·.oneCell') = true)
    {n : Nat} (hnn : xs.length = n) (hn : n ≤ 1000) (hby : bytes ≤ 1000) (hbase : base ≤ W.heap.size)
    (h : ∀ a' c' W', Own W' base E size (.slice a' (n + 1) c') (xs ++ [cells.toList]) → Below base W W' → W.grownBy W' v.ownBlock → (∀ g, (Value.slice a' (n + 1) c').ownBlock = some g → v.ownBlock = some g ∨ W.heap.size ≤ g) →
      wpList P ops Q rest (a.put o.dst (.slice a' (n + 1) c')) W') : wpList P ops Q (o :: rest) a W := by
  subst hnn
  obtain ⟨i, z, hi, hz, i1, i2, i3⟩ := he.get
  refine wpList_append_lies W hgd s x t ho base E i z size bytes he.ht hi hz i1 i2 i3 h0 v xs.length xs.flatten hs hown.1 ⟨g, 0, none⟩ 1 c cells.toList hx (by simp [hsz]) (World.news_of_block hB) (fun u hu => List.all_eq_true.1 h1 u hu) (by omega) (by unfold maxLen; omega) ?_ hbase _ rfl ?_
  · have : (xs.length + 1) * bytes ≤ 1001 * 1000 := Nat.mul_le_mul (by omega) hby
    omega
  · intro g' cap w' h2 h3 h4 h5
    refine h _ _ _ ⟨?_, ?_⟩ (below_grown h3 hbase fun k hk => (hown.1.lt k hk).1) h3 (fun k hk => ?_)
    · simpa using h2
    · intro y hy
      rcases List.mem_append.1 hy with hy | hy
      · exact hown.2 y hy
      · simp at hy; subst hy; simpa using hsz
    · cases hk
      rcases h4 with h4 | h4
      · exact .inl h4
      · exact .inr (show W.heap.size ≤ g' by omega)
end Go.Proofs.Ytmfnkmmbihmjnaa
