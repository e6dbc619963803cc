/- Layer 1, the walks: what is valid, the rest. -/
import Derived.Test.YtmfnkmmbihmjnaaW4
open Go.RowKit
namespace Go.Proofs.Ytmfnkmmbihmjnaa
open Go.Hill

theorem sunny_any (n : Int) (w : World) : Calls Try.prog 104 #[.int .i64 n] w (Ret (.bool (inB n (-100) 100)) w) := by
  go_enter Try.func104, Try.ntmps104
  go_wp2_with (go_at_call 79; refine (within_any _ _ _ _).mono ?_; rintro e w' ⟨rfl, hb⟩)
  go_ret
  exact ⟨rfl, hb⟩

theorem sn_valid (s : Sn) (w : World) : Calls Try.prog 74 #[.agg #[.int .i64 s.E, .int .i64 s.N, .int .i64 s.U]] w (Ret (.bool s.ok) w) := by
  go_enter Try.func74, Try.ntmps74
  go_wp2_with fail
  refine named2 (p := fun W => Calls _ _ _ W _) ?_
  intro W hW B1 B2
  refine (all_int [s.E, s.N, s.U] (some ⟨w.heap.size + 1, 0, none⟩) 3 W ?_ 104 #[] #[] (fun n => inB n (-100) 100) (fun _ _ => by kernel_rfl) (by simp) ?_).mono ?_
  · refine .inr ⟨_, _, rfl, ?_⟩
    intro i x hx j v hv
    match i, hx with
    | 0, hx => cases hx; match j, hv with | 0, hv => cases hv; exact B2.cell 0
    | 1, hx => cases hx; match j, hv with | 0, hv => cases hv; exact B2.cell 1
    | 2, hx => cases hx; match j, hv with | 0, hv => cases hv; exact B2.cell 2
  · intro x _ w' _; exact sunny_any x w'
  rintro e w' ⟨rfl, hb⟩
  replace hW := over hW hb
  go_wp2_with fail
  go_ret
  exact ⟨ret_bool (by simp [Sn.ok, Bool.and_assoc]), hW⟩

/-- A land's value. -/
def cloudV (x : Cd) : Value := .agg #[.int .i64 x.wl.X1, .int .i64 x.wl.Y1, .int .i64 x.wl.X2, .int .i64 x.wl.Y2, .int .i64 x.wl.B, .int .i64 x.wl.T, .int .i64 x.fr, .int .i64 x.to]

set_option maxRecDepth 100000 in
theorem cloud_any (q : LV) (n1 n2 n3 n4 : Nat) (x : Cd) (w : World) (_hn : n4 ≤ 1000) :
    Calls Try.prog 64 #[.agg #[.slice q.a1 n1 q.c1, .slice q.a2 n2 q.c2, .slice q.a3 n3 q.c3, .slice q.a4 n4 q.c4],
      .agg #[.int .i64 x.wl.X1, .int .i64 x.wl.Y1, .int .i64 x.wl.X2, .int .i64 x.wl.Y2, .int .i64 x.wl.B, .int .i64 x.wl.T, .int .i64 x.fr, .int .i64 x.to]] w (Ret (.bool (x.ok n4)) w) := by
  have HK : Hid (x.ok n4 = (x.wl.ok && inB x.fr 0 x.to && decide (x.to < n4))) := rfl
  go_enter Try.func64, Try.ntmps64
  go_wp2_with fail
  refine named2 (p := fun W => Calls _ _ _ W _) ?_
  intro W hW B2 B3
  have c2 := B2.cell; have t2 := B2.lt; have c3 := B3.cell; have t3 := B3.lt
  go_wp2_with (first
    | (go_at_call 93; refine (wl_valid x.wl _).mono ?_; rintro e w' ⟨rfl, hb⟩; replace hW := over hW hb; (try clear c2 t2 c3 t3); replace B2 := B2.later hb; replace B3 := B3.later hb; have c2 := B2.cell; have t2 := B2.lt; have c3 := B3.cell; have t3 := B3.lt; clear hb)
    | (go_at_call 79; refine (within_any _ _ _ _).mono ?_; rintro e w' ⟨rfl, hb⟩; replace hW := over hW hb; (try clear c2 t2 c3 t3); replace B2 := B2.later hb; replace B3 := B3.later hb; have c2 := B2.cell; have t2 := B2.lt; have c3 := B3.cell; have t3 := B3.lt; clear hb))
  all_goals
    go_ret
    exact ⟨ret_bool (by rw [HK.out]; simp_all), hW⟩

theorem few_any (a : Option Addr) (n c : Nat) (w : World) (hn : n ≤ 1000) : Calls Try.prog 65 #[.slice a n c] w (Ret (.bool (decide (n ≤ 4))) w) := by
  go_enter Try.func65, Try.ntmps65
  go_wp2_with fail
  go_ret
  exact ⟨ret_bool (by simp; omega), Below.refl _ _⟩

theorem cloudy_any (q : LV) (n1 n2 n3 n4 : Nat) (x : CV) (b : Nat) (w : World) (hn : n4 ≤ 1000) (hl : x.cs.length ≤ 1000) (hR : RowAt w x.a 8 (x.cs.map Cd.vs))
    (B1 : Box w b #[.func (.func 64) #[.agg #[.slice q.a1 n1 q.c1, .slice q.a2 n2 q.c2, .slice q.a3 n3 q.c3, .slice q.a4 n4 q.c4]] #[]] 111) :
    Calls Try.prog 66 #[.slice x.a x.cs.length x.c, .pointer (some ⟨b, 0, none⟩)] w (Ret (.bool (x.cs.all (·.ok n4))) w) := by
  have c1 := B1.cell; have t1 := B1.lt
  go_enter Try.func66, Try.ntmps66
  go_wp2_with fail
  refine (all_cd x.cs x.a x.c w hR 64 _ #[] (·.ok n4) (fun _ _ => by kernel_rfl) hl ?_).mono ?_
  · intro y _ w' _; exact cloud_any q n1 n2 n3 n4 y w' hn
  rintro e w' ⟨rfl, hb⟩
  go_wp2_with fail
  go_ret
  exact ⟨rfl, hb⟩

end Go.Proofs.Ytmfnkmmbihmjnaa
