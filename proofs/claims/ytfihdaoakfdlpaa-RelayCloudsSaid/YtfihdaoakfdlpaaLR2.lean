/- The statements on relays: lands that are ready, numbers that are chosen; answers at stations that are there. -/
import Derived.Test.YtfihdaoakfdlpaaRAwk
import Derived.Test.YtfihdaoakfdlpaaRPlain6
import Derived.Test.YtfihdaoakfdlpaaWC
import Derived.Test.YtfihdaoakfdlpaaWD
import Derived.Test.YtfihdaoakfdlpaaRB
open Go.RowKit
namespace Go.Proofs.Ytfihdaoakfdlpaa
open Go.Hill

def ready3B (L : Land) : Bool := thinB L && L.chk == 0
theorem ready3_any (q : LV) (L : Land) (w : World) (hL : LandAt w q L) (hs : Sane L) :
    Calls Try.prog 7 #[landV q L] w (Ret (.bool (ready3B L)) w) := by
  have HL := Lib.hid hL
  have HK : Hid (ready3B L = (thinB L && L.chk == 0)) := rfl
  have HS := Lib.hid hs
  clear hL hs
  go_enter Try.func7, Try.ntmps7
  go_wp2_with fail
  refine named1 (p := fun W => Calls _ _ _ W _) ?_
  intro W hW B1
  refine (thin_any q L W (HL.out.later hW) HS.out).mono ?_
  rintro e w1 ⟨rfl, hb1⟩
  replace hW := over hW hb1
  (try clear c1 t1); replace B1 := B1.later hb1; have c1 := B1.cell; have t1 := B1.lt
  clear hb1
  obtain ⟨tb, htb⟩ : ∃ b, b = thinB L := ⟨_, rfl⟩
  rw [← htb]
  have HT := Lib.hid htb
  clear htb
  cases tb with
  | false =>
    go_wp2_with fail
    go_ret
    exact ⟨ret_bool (by rw [HK.out, ← HT.out]; rfl), hW⟩
  | true =>
    have hsm := thin_small HT.out.symm
    obtain ⟨c, hc⟩ : ∃ c, c = L.chk := ⟨_, rfl⟩
    have HF := fault_any q L w1 (HL.out.later hW) hsm.l1 hsm.l2 hsm.l3 hsm.l4 hsm.l5
    rw [← hc] at HF
    replace HF := Lib.hid HF
    have HC := Lib.hid hc
    clear hc hsm
    go_wp2_with fail
    refine HF.out.mono ?_
    rintro e w2 ⟨rfl, hb2⟩
    replace hW := over hW hb2
    clear hb2 c1 t1 B1 HF
    go_wp2_with fail
    go_ret
    exact ⟨ret_bool (by rw [HK.out, ← HT.out, ← HC.out]; rfl), hW⟩
set_option maxRecDepth 100000 in
set_option maxHeartbeats 1000000 in
theorem numbers_any (q : LV) (L : Land) (a b c : Nat) (w : World) (hc : L.chk = 0) (ha : a < 256) (hb : b < 256) (hcc : c < 256) :
    Calls Try.prog 9 #[landV q L, .int .u8 a, .int .u8 b, .int .u8 c] w (Ret (.tuple #[.int .i64 ((a % L.st.length : Nat) : Int), .int .i64 ((b % (L.sn.length + 1) : Nat) : Int), .int .i64 ((c % L.cs.length : Nat) : Int)]) w) := by
  obtain ⟨n6, n0, e12, e0, m4, m0⟩ := st_six hc
  obtain ⟨x, hx⟩ : ∃ x, x = a % L.st.length := ⟨_, rfl⟩
  obtain ⟨y, hy⟩ : ∃ y, y = b % (L.sn.length + 1) := ⟨_, rfl⟩
  obtain ⟨z, hz⟩ : ∃ z, z = c % L.cs.length := ⟨_, rfl⟩
  rw [← hx, ← hy, ← hz]
  have hxl : x < L.st.length := by rw [hx]; exact Nat.mod_lt _ n0
  have hyl : y < L.sn.length + 1 := by rw [hy]; exact Nat.mod_lt _ (by omega)
  have hzl : z < L.cs.length := by rw [hz]; exact Nat.mod_lt _ m0
  have t1 : (a : Int).tmod (L.st.length : Int) = x := by rw [Int.tmod_eq_emod_of_nonneg (by omega), hx]; rfl
  have t2 : (b : Int).tmod ((L.sn.length : Int) + 1) = y := by rw [Int.tmod_eq_emod_of_nonneg (by omega), hy]; push_cast; rfl
  have t3 : (c : Int).tmod (L.cs.length : Int) = z := by rw [Int.tmod_eq_emod_of_nonneg (by omega), hz]; rfl
  have s1 : (L.st.length : Int) ≠ 0 := by omega
  have s2 : (L.sn.length : Int) + 1 ≠ 0 := by omega
  have s3 : (L.cs.length : Int) ≠ 0 := by omega
  have s4 : ((L.st.length : Int) == 0) = false := by simpa using s1
  have s5 : ((L.sn.length : Int) + 1 == 0) = false := by simpa using s2
  have s6 : ((L.cs.length : Int) == 0) = false := by simpa using s3
  clear hx hy hz hc
  go_enter Try.func9, Try.ntmps9
  go_wp2_with fail
  refine named1 (p := Code.wp _ _ _ _) ?_
  intro W hW B4
  have c4 := B4.cell; have t4 := B4.lt
  refine Fat.wp_region_tail 21 (by kernel_rfl) (by kernel_rfl) ?_
  simp only [List.take_succ_cons, List.drop_succ_cons, List.take_nil, List.drop_nil]
  repeat (go_big_quiet_step (exact Calls.regrown_of (rend_any _ _ _)))
  refine wpQuiet_nil ?_
  intro w1 hb1
  replace hW := over hW hb1
  clear hb1 c4 t4 B4
  go_wp2_with fail
  go_ret3
  exact ⟨rfl, hW⟩
theorem askr_ok {L : Land} {f t s k : Nat} (hc : L.chk = 0) (hf : f < L.st.length) (ht : t < L.st.length) (hs : s ≤ L.sn.length) (hk : k < L.cs.length) : L.askr f t s k = 0 := by
  unfold Land.askr
  rw [if_pos hc, if_pos (by simp [inB]; omega)]
theorem sureE_ok {L : Land} {f t s : Nat} (hc : L.chk = 0) (hf : f < L.st.length) (ht : t < L.st.length) (hs : s ≤ L.sn.length) : Land.sureE L f t s = if (L.sn.length : Int) < (L.sur f t s (-1)).1 then (0, 0, 10) else ((L.sur f t s (-1)).1, ((L.sur f t s (-1)).2 : Int), 0) := by
  unfold Land.sureE
  rw [if_pos (show L.askr f t s 0 = 0 from askr_ok (k := 0) hc hf ht hs (st_six hc).2.2.2.2.2)]; rfl
theorem latE_ok {L : Land} {f t u : Nat} (hc : L.chk = 0) (hf : f < L.st.length) (ht : t < L.st.length) (hs : u ≤ L.sn.length) : Land.latE L f t u = if L.lat f t u = -1 then (0, 10) else (L.lat f t u, 0) := by
  unfold Land.latE
  rw [if_pos (show L.askr f t u 0 = 0 from askr_ok (k := 0) hc hf ht hs (st_six hc).2.2.2.2.2)]; rfl
theorem vitE_ok {L : Land} {f t u : Nat} (hc : L.chk = 0) (hf : f < L.st.length) (ht : t < L.st.length) (hs : u ≤ L.sn.length) : Land.vitE L f t u = if (L.sn.length : Int) < (L.sur f t u (-1)).1 then ([], 10) else (L.vit f t u, 0) := by
  unfold Land.vitE
  rw [if_pos (show L.askr f t u 0 = 0 from askr_ok (k := 0) hc hf ht hs (st_six hc).2.2.2.2.2)]; rfl
end Go.Proofs.Ytfihdaoakfdlpaa
