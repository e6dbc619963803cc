/- Whether all elements of a list pass a test. -/
import Derived.Test.YtingfmdbihbamaaGreatOMem
open Go.RowKit
namespace Go.Proofs.YtingfmdbihbamaaGreat
namespace Cp
open Go.Once

set_option maxHeartbeats 400000 in
theorem index_int (l : List Int) (a : Option Addr) (c : Nat) (W : World) (hR : RowAt W a 1 (l.map fun n => [.int .i64 n])) (f : Nat) (first cap : Array Value) (p : Int → Bool)
    (hf : ∀ args w, (callFunc f args).run Tryz.prog w = .ok (.enter f args) w) (hlen : l.length ≤ 1000)
    (hp : ∀ x ∈ l, ∀ w', Below W.heap.size W w' → Calls Tryz.prog f (first.push (.int .i64 x) ++ cap) w' (Ret (.bool (p x)) w')) :
    Calls Tryz.prog 100 #[.slice a l.length c, .func (.func f) first cap] W (Ret (.int .i64 (idxI p l)) W) := by
  have HP := Lib.hid hp
  have HR := Lib.hid hR
  clear hp hR
  go_enter Tryz.func100, Tryz.ntmps100
  go_wp2
  go_loopw [8] (fun i wr => ∃ k : Nat, k ≤ l.length ∧ i = .int .i64 k ∧ Below W.heap.size W wr ∧ ∀ j x, j < k → l[j]? = some x → p x = false) (fun i _ => l.length - (intOf i).toNat)
  case atStart => exact ⟨0, Nat.zero_le _, rfl, Below.refl _ _, fun j x hj => by omega⟩
  case round =>
    obtain ⟨k, hk, rfl, hb, hno⟩ := hrel
    have HN := Lib.hid hno
    clear hno
    by_cases hlt : k < l.length
    · obtain ⟨b, o, rfl, hC⟩ := RowAt.at HR.out hlt
      obtain ⟨x, hx⟩ : ∃ x, l[k]? = some x := ⟨l[k], by simp [hlt]⟩
      obtain e0 := cells_one (hC.later hb) hx
      have HX := Lib.hid hx
      clear hx hC
      go_wp2_with fail
      refine (HP.out x (List.mem_of_getElem? HX.out) wr hb).mono ?_
      rintro e w' ⟨rfl, hb'⟩
      replace hb := over hb hb'
      clear hb'
      by_cases hpx : p x = true
      · rw [hpx]
        have HT := Lib.hid hpx
        clear hpx
        go_wp2_with fail
        go_ret
        exact ⟨ret_int (idxI_some HX.out HT.out HN.out).symm, hb⟩
      · have hpf : p x = false := by simpa using hpx
        rw [hpf]
        have HT := Lib.hid hpf
        clear hpf hpx
        go_wp2_with fail
        go_roundw
        case rel =>
          refine ⟨k + 1, by omega, by go_num, hb, fun j y hj hy => ?_⟩
          rcases Nat.lt_succ_iff_lt_or_eq.1 hj with h | h
          · exact HN.out j y h hy
          · subst h; rw [HX.out] at hy; cases hy; exact HT.out
        case measure => simp [intOf]; omega
    · go_wp2_with fail
      go_ret
      exact ⟨ret_int (idxI_none fun j y hj => HN.out j y (by omega)).symm, hb⟩

theorem contains_int (l : List Int) (a : Option Addr) (c : Nat) (W : World) (hR : RowAt W a 1 (l.map fun n => [.int .i64 n])) (f : Nat) (first cap : Array Value) (p : Int → Bool)
    (hf : ∀ args w, (callFunc f args).run Tryz.prog w = .ok (.enter f args) w) (hlen : l.length ≤ 1000)
    (hp : ∀ x ∈ l, ∀ w', Below W.heap.size W w' → Calls Tryz.prog f (first.push (.int .i64 x) ++ cap) w' (Ret (.bool (p x)) w')) :
    Calls Tryz.prog 68 #[.slice a l.length c, .func (.func f) first cap] W (Ret (.bool (l.any p)) W) := by
  have HC := Lib.hid (index_int l a c W hR f first cap p hf hlen hp)
  have hi := idxI_bd p l
  clear hp hR hf
  go_enter Tryz.func68, Tryz.ntmps68
  go_wp2_with fail
  refine HC.out.mono ?_
  rintro e w' ⟨rfl, hb⟩
  go_wp2_with fail
  go_ret
  exact ⟨ret_bool (idxI_any p l), hb⟩
set_option maxHeartbeats 400000 in
theorem index_rg (l : List Rg) (a : Option Addr) (c : Nat) (W : World) (hR : RowAt W a 2 (l.map Rg.vs)) (f : Nat) (first cap : Array Value) (p : Rg → Bool)
    (hf : ∀ args w, (callFunc f args).run Tryz.prog w = .ok (.enter f args) w) (hlen : l.length ≤ 1000)
    (hp : ∀ x ∈ l, ∀ w', Below W.heap.size W w' → Calls Tryz.prog f (first.push (.agg #[.int .i64 x.lo, .int .i64 x.hi]) ++ cap) w' (Ret (.bool (p x)) w')) :
    Calls Tryz.prog 110 #[.slice a l.length c, .func (.func f) first cap] W (Ret (.int .i64 (idxI p l)) W) := by
  have HP := Lib.hid hp
  have HR := Lib.hid hR
  clear hp hR
  go_enter Tryz.func110, Tryz.ntmps110
  go_wp2
  go_loopw [8] (fun i wr => ∃ k : Nat, k ≤ l.length ∧ i = .int .i64 k ∧ Below W.heap.size W wr ∧ ∀ j x, j < k → l[j]? = some x → p x = false) (fun i _ => l.length - (intOf i).toNat)
  case atStart => exact ⟨0, Nat.zero_le _, rfl, Below.refl _ _, fun j x hj => by omega⟩
  case round =>
    obtain ⟨k, hk, rfl, hb, hno⟩ := hrel
    have HN := Lib.hid hno
    clear hno
    by_cases hlt : k < l.length
    · obtain ⟨b, o, rfl, hC⟩ := RowAt.at HR.out hlt
      obtain ⟨x, hx⟩ : ∃ x, l[k]? = some x := ⟨l[k], by simp [hlt]⟩
      obtain ⟨e0, e1⟩ := cells_rg (hC.later hb) hx
      have HX := Lib.hid hx
      clear hx hC
      go_wp2_with fail
      refine (HP.out x (List.mem_of_getElem? HX.out) wr hb).mono ?_
      rintro e w' ⟨rfl, hb'⟩
      replace hb := over hb hb'
      clear hb'
      by_cases hpx : p x = true
      · rw [hpx]
        have HT := Lib.hid hpx
        clear hpx
        go_wp2_with fail
        go_ret
        exact ⟨ret_int (idxI_some HX.out HT.out HN.out).symm, hb⟩
      · have hpf : p x = false := by simpa using hpx
        rw [hpf]
        have HT := Lib.hid hpf
        clear hpf hpx
        go_wp2_with fail
        go_roundw
        case rel =>
          refine ⟨k + 1, by omega, by go_num, hb, fun j y hj hy => ?_⟩
          rcases Nat.lt_succ_iff_lt_or_eq.1 hj with h | h
          · exact HN.out j y h hy
          · subst h; rw [HX.out] at hy; cases hy; exact HT.out
        case measure => simp [intOf]; omega
    · go_wp2_with fail
      go_ret
      exact ⟨ret_int (idxI_none fun j y hj => HN.out j y (by omega)).symm, hb⟩

theorem contains_rg (l : List Rg) (a : Option Addr) (c : Nat) (W : World) (hR : RowAt W a 2 (l.map Rg.vs)) (f : Nat) (first cap : Array Value) (p : Rg → Bool)
    (hf : ∀ args w, (callFunc f args).run Tryz.prog w = .ok (.enter f args) w) (hlen : l.length ≤ 1000)
    (hp : ∀ x ∈ l, ∀ w', Below W.heap.size W w' → Calls Tryz.prog f (first.push (.agg #[.int .i64 x.lo, .int .i64 x.hi]) ++ cap) w' (Ret (.bool (p x)) w')) :
    Calls Tryz.prog 81 #[.slice a l.length c, .func (.func f) first cap] W (Ret (.bool (l.any p)) W) := by
  have HC := Lib.hid (index_rg l a c W hR f first cap p hf hlen hp)
  have hi := idxI_bd p l
  clear hp hR hf
  go_enter Tryz.func81, Tryz.ntmps81
  go_wp2_with fail
  refine HC.out.mono ?_
  rintro e w' ⟨rfl, hb⟩
  go_wp2_with fail
  go_ret
  exact ⟨ret_bool (idxI_any p l), hb⟩
set_option maxHeartbeats 400000 in
theorem index_lg (l : List LgV) (a : Option Addr) (c : Nat) (W : World) (hR : RowAt W a 3 (l.map LgV.vs)) (f : Nat) (first cap : Array Value) (p : LgV → Bool)
    (hf : ∀ args w, (callFunc f args).run Tryz.prog w = .ok (.enter f args) w) (hlen : l.length ≤ 1000)
    (hp : ∀ x ∈ l, ∀ w', Below W.heap.size W w' → Calls Tryz.prog f (first.push (.agg #[.int .i64 x.lg.lo, .int .i64 x.lg.hi, .slice x.a x.lg.as.length x.c]) ++ cap) w' (Ret (.bool (p x)) w')) :
    Calls Tryz.prog 120 #[.slice a l.length c, .func (.func f) first cap] W (Ret (.int .i64 (idxI p l)) W) := by
  have HP := Lib.hid hp
  have HR := Lib.hid hR
  clear hp hR
  go_enter Tryz.func120, Tryz.ntmps120
  go_wp2
  go_loopw [8] (fun i wr => ∃ k : Nat, k ≤ l.length ∧ i = .int .i64 k ∧ Below W.heap.size W wr ∧ ∀ j x, j < k → l[j]? = some x → p x = false) (fun i _ => l.length - (intOf i).toNat)
  case atStart => exact ⟨0, Nat.zero_le _, rfl, Below.refl _ _, fun j x hj => by omega⟩
  case round =>
    obtain ⟨k, hk, rfl, hb, hno⟩ := hrel
    have HN := Lib.hid hno
    clear hno
    by_cases hlt : k < l.length
    · obtain ⟨b, o, rfl, hC⟩ := RowAt.at HR.out hlt
      obtain ⟨x, hx⟩ : ∃ x, l[k]? = some x := ⟨l[k], by simp [hlt]⟩
      obtain ⟨e0, e1, e2⟩ := cells_lg (hC.later hb) hx
      have HX := Lib.hid hx
      clear hx hC
      go_wp2_with fail
      refine (HP.out x (List.mem_of_getElem? HX.out) wr hb).mono ?_
      rintro e w' ⟨rfl, hb'⟩
      replace hb := over hb hb'
      clear hb'
      by_cases hpx : p x = true
      · rw [hpx]
        have HT := Lib.hid hpx
        clear hpx
        go_wp2_with fail
        go_ret
        exact ⟨ret_int (idxI_some HX.out HT.out HN.out).symm, hb⟩
      · have hpf : p x = false := by simpa using hpx
        rw [hpf]
        have HT := Lib.hid hpf
        clear hpf hpx
        go_wp2_with fail
        go_roundw
        case rel =>
          refine ⟨k + 1, by omega, by go_num, hb, fun j y hj hy => ?_⟩
          rcases Nat.lt_succ_iff_lt_or_eq.1 hj with h | h
          · exact HN.out j y h hy
          · subst h; rw [HX.out] at hy; cases hy; exact HT.out
        case measure => simp [intOf]; omega
    · go_wp2_with fail
      go_ret
      exact ⟨ret_int (idxI_none fun j y hj => HN.out j y (by omega)).symm, hb⟩

theorem contains_lg (l : List LgV) (a : Option Addr) (c : Nat) (W : World) (hR : RowAt W a 3 (l.map LgV.vs)) (f : Nat) (first cap : Array Value) (p : LgV → Bool)
    (hf : ∀ args w, (callFunc f args).run Tryz.prog w = .ok (.enter f args) w) (hlen : l.length ≤ 1000)
    (hp : ∀ x ∈ l, ∀ w', Below W.heap.size W w' → Calls Tryz.prog f (first.push (.agg #[.int .i64 x.lg.lo, .int .i64 x.lg.hi, .slice x.a x.lg.as.length x.c]) ++ cap) w' (Ret (.bool (p x)) w')) :
    Calls Tryz.prog 105 #[.slice a l.length c, .func (.func f) first cap] W (Ret (.bool (l.any p)) W) := by
  have HC := Lib.hid (index_lg l a c W hR f first cap p hf hlen hp)
  have hi := idxI_bd p l
  clear hp hR hf
  go_enter Tryz.func105, Tryz.ntmps105
  go_wp2_with fail
  refine HC.out.mono ?_
  rintro e w' ⟨rfl, hb⟩
  go_wp2_with fail
  go_ret
  exact ⟨ret_bool (idxI_any p l), hb⟩
set_option maxHeartbeats 400000 in
theorem index_rt (l : List RtV) (a : Option Addr) (c : Nat) (W : World) (hR : RowAt W a 2 (l.map RtV.vs)) (f : Nat) (first cap : Array Value) (p : RtV → Bool)
    (hf : ∀ args w, (callFunc f args).run Tryz.prog w = .ok (.enter f args) w) (hlen : l.length ≤ 1000)
    (hp : ∀ x ∈ l, ∀ w', Below W.heap.size W w' → Calls Tryz.prog f (first.push (.agg #[.slice x.a x.legs.length x.c, .bool x.lossy]) ++ cap) w' (Ret (.bool (p x)) w')) :
    Calls Tryz.prog 104 #[.slice a l.length c, .func (.func f) first cap] W (Ret (.int .i64 (idxI p l)) W) := by
  have HP := Lib.hid hp
  have HR := Lib.hid hR
  clear hp hR
  go_enter Tryz.func104, Tryz.ntmps104
  go_wp2
  go_loopw [8] (fun i wr => ∃ k : Nat, k ≤ l.length ∧ i = .int .i64 k ∧ Below W.heap.size W wr ∧ ∀ j x, j < k → l[j]? = some x → p x = false) (fun i _ => l.length - (intOf i).toNat)
  case atStart => exact ⟨0, Nat.zero_le _, rfl, Below.refl _ _, fun j x hj => by omega⟩
  case round =>
    obtain ⟨k, hk, rfl, hb, hno⟩ := hrel
    have HN := Lib.hid hno
    clear hno
    by_cases hlt : k < l.length
    · obtain ⟨b, o, rfl, hC⟩ := RowAt.at HR.out hlt
      obtain ⟨x, hx⟩ : ∃ x, l[k]? = some x := ⟨l[k], by simp [hlt]⟩
      obtain ⟨e0, e1⟩ := cells_rt (hC.later hb) hx
      have HX := Lib.hid hx
      clear hx hC
      go_wp2_with fail
      refine (HP.out x (List.mem_of_getElem? HX.out) wr hb).mono ?_
      rintro e w' ⟨rfl, hb'⟩
      replace hb := over hb hb'
      clear hb'
      by_cases hpx : p x = true
      · rw [hpx]
        have HT := Lib.hid hpx
        clear hpx
        go_wp2_with fail
        go_ret
        exact ⟨ret_int (idxI_some HX.out HT.out HN.out).symm, hb⟩
      · have hpf : p x = false := by simpa using hpx
        rw [hpf]
        have HT := Lib.hid hpf
        clear hpf hpx
        go_wp2_with fail
        go_roundw
        case rel =>
          refine ⟨k + 1, by omega, by go_num, hb, fun j y hj hy => ?_⟩
          rcases Nat.lt_succ_iff_lt_or_eq.1 hj with h | h
          · exact HN.out j y h hy
          · subst h; rw [HX.out] at hy; cases hy; exact HT.out
        case measure => simp [intOf]; omega
    · go_wp2_with fail
      go_ret
      exact ⟨ret_int (idxI_none fun j y hj => HN.out j y (by omega)).symm, hb⟩

theorem contains_rt (l : List RtV) (a : Option Addr) (c : Nat) (W : World) (hR : RowAt W a 2 (l.map RtV.vs)) (f : Nat) (first cap : Array Value) (p : RtV → Bool)
    (hf : ∀ args w, (callFunc f args).run Tryz.prog w = .ok (.enter f args) w) (hlen : l.length ≤ 1000)
    (hp : ∀ x ∈ l, ∀ w', Below W.heap.size W w' → Calls Tryz.prog f (first.push (.agg #[.slice x.a x.legs.length x.c, .bool x.lossy]) ++ cap) w' (Ret (.bool (p x)) w')) :
    Calls Tryz.prog 74 #[.slice a l.length c, .func (.func f) first cap] W (Ret (.bool (l.any p)) W) := by
  have HC := Lib.hid (index_rt l a c W hR f first cap p hf hlen hp)
  have hi := idxI_bd p l
  clear hp hR hf
  go_enter Tryz.func74, Tryz.ntmps74
  go_wp2_with fail
  refine HC.out.mono ?_
  rintro e w' ⟨rfl, hb⟩
  go_wp2_with fail
  go_ret
  exact ⟨ret_bool (idxI_any p l), hb⟩
theorem pass_int (x : Int) (b : Nat) (w : World) (f : Nat) (first cap : Array Value) (p : Bool) (B1 : Box w b #[.func (.func f) first cap] 125)
    (hf : ∀ args w, (callFunc f args).run Tryz.prog w = .ok (.enter f args) w)
    (hp : ∀ w', Below w.heap.size w w' → Calls Tryz.prog f (first.push (.int .i64 x) ++ cap) w' (Ret (.bool p) w')) :
    Calls Tryz.prog 78 #[.int .i64 x, .pointer (some ⟨b, 0, none⟩)] w (Ret (.bool (!p)) w) := by
  have HP := Lib.hid hp
  clear hp
  have c1 := B1.cell; have t1 := B1.lt
  go_enter Tryz.func78, Tryz.ntmps78
  go_wp2_with fail
  have hb0 := Below.refl w.heap.size w
  refine (HP.out _ hb0).mono ?_
  rintro e w' ⟨rfl, hb⟩
  replace hb := over hb0 hb
  go_wp2_with fail
  go_ret
  exact ⟨rfl, hb⟩

theorem all_int (l : List Int) (a : Option Addr) (c : Nat) (W : World) (hR : RowAt W a 1 (l.map fun n => [.int .i64 n])) (f : Nat) (first cap : Array Value) (p : Int → Bool)
    (hf : ∀ args w, (callFunc f args).run Tryz.prog w = .ok (.enter f args) w) (hlen : l.length ≤ 1000)
    (hp : ∀ x ∈ l, ∀ w', Below W.heap.size W w' → Calls Tryz.prog f (first.push (.int .i64 x) ++ cap) w' (Ret (.bool (p x)) w')) :
    Calls Tryz.prog 46 #[.slice a l.length c, .func (.func f) first cap] W (Ret (.bool (l.all p)) W) := by
  have HP := Lib.hid hp
  have HR := Lib.hid hR
  have HF := Lib.hid hf
  clear hp hR hf
  go_enter Tryz.func46, Tryz.ntmps46
  go_wp2_with fail
  refine named1 (p := fun W => Calls _ _ _ W _) ?_
  intro w1 hb1 B1
  refine (contains_int l a c w1 (HR.out.later hb1) 78 #[] #[.pointer (some ⟨W.heap.size, 0, none⟩)] (fun x => !p x) (fun _ _ => by kernel_rfl) hlen ?_).mono ?_
  · intro x hx w' hb'
    exact pass_int x _ w' f first cap (p x) (B1.later hb') HF.out (fun w'' hb'' => HP.out x hx w'' (over (over hb1 hb') hb''))
  rintro e w2 ⟨rfl, hb2⟩
  replace hb2 := over hb1 hb2
  clear hb1
  go_wp2_with fail
  go_ret
  exact ⟨ret_bool (not_any_not p l), hb2⟩
theorem pass_rg (x : Rg) (b : Nat) (w : World) (f : Nat) (first cap : Array Value) (p : Bool) (B1 : Box w b #[.func (.func f) first cap] 165)
    (hf : ∀ args w, (callFunc f args).run Tryz.prog w = .ok (.enter f args) w)
    (hp : ∀ w', Below w.heap.size w w' → Calls Tryz.prog f (first.push (.agg #[.int .i64 x.lo, .int .i64 x.hi]) ++ cap) w' (Ret (.bool p) w')) :
    Calls Tryz.prog 121 #[.agg #[.int .i64 x.lo, .int .i64 x.hi], .pointer (some ⟨b, 0, none⟩)] w (Ret (.bool (!p)) w) := by
  have HP := Lib.hid hp
  clear hp
  have c1 := B1.cell; have t1 := B1.lt
  go_enter Tryz.func121, Tryz.ntmps121
  go_wp2_with fail
  refine named1 (p := fun W => Calls _ _ _ W _) ?_; intro w1 hb0 _
  refine (HP.out _ hb0).mono ?_
  rintro e w' ⟨rfl, hb⟩
  replace hb := over hb0 hb
  go_wp2_with fail
  go_ret
  exact ⟨rfl, hb⟩

theorem all_rg (l : List Rg) (a : Option Addr) (c : Nat) (W : World) (hR : RowAt W a 2 (l.map Rg.vs)) (f : Nat) (first cap : Array Value) (p : Rg → Bool)
    (hf : ∀ args w, (callFunc f args).run Tryz.prog w = .ok (.enter f args) w) (hlen : l.length ≤ 1000)
    (hp : ∀ x ∈ l, ∀ w', Below W.heap.size W w' → Calls Tryz.prog f (first.push (.agg #[.int .i64 x.lo, .int .i64 x.hi]) ++ cap) w' (Ret (.bool (p x)) w')) :
    Calls Tryz.prog 108 #[.slice a l.length c, .func (.func f) first cap] W (Ret (.bool (l.all p)) W) := by
  have HP := Lib.hid hp
  have HR := Lib.hid hR
  have HF := Lib.hid hf
  clear hp hR hf
  go_enter Tryz.func108, Tryz.ntmps108
  go_wp2_with fail
  refine named1 (p := fun W => Calls _ _ _ W _) ?_
  intro w1 hb1 B1
  refine (contains_rg l a c w1 (HR.out.later hb1) 121 #[] #[.pointer (some ⟨W.heap.size, 0, none⟩)] (fun x => !p x) (fun _ _ => by kernel_rfl) hlen ?_).mono ?_
  · intro x hx w' hb'
    exact pass_rg x _ w' f first cap (p x) (B1.later hb') HF.out (fun w'' hb'' => HP.out x hx w'' (over (over hb1 hb') hb''))
  rintro e w2 ⟨rfl, hb2⟩
  replace hb2 := over hb1 hb2
  clear hb1
  go_wp2_with fail
  go_ret
  exact ⟨ret_bool (not_any_not p l), hb2⟩
theorem pass_lg (x : LgV) (b : Nat) (w : World) (f : Nat) (first cap : Array Value) (p : Bool) (B1 : Box w b #[.func (.func f) first cap] 163)
    (hf : ∀ args w, (callFunc f args).run Tryz.prog w = .ok (.enter f args) w)
    (hp : ∀ w', Below w.heap.size w w' → Calls Tryz.prog f (first.push (.agg #[.int .i64 x.lg.lo, .int .i64 x.lg.hi, .slice x.a x.lg.as.length x.c]) ++ cap) w' (Ret (.bool p) w')) :
    Calls Tryz.prog 106 #[.agg #[.int .i64 x.lg.lo, .int .i64 x.lg.hi, .slice x.a x.lg.as.length x.c], .pointer (some ⟨b, 0, none⟩)] w (Ret (.bool (!p)) w) := by
  have HP := Lib.hid hp
  clear hp
  have c1 := B1.cell; have t1 := B1.lt
  go_enter Tryz.func106, Tryz.ntmps106
  go_wp2_with fail
  refine named1 (p := fun W => Calls _ _ _ W _) ?_; intro w1 hb0 _
  refine (HP.out _ hb0).mono ?_
  rintro e w' ⟨rfl, hb⟩
  replace hb := over hb0 hb
  go_wp2_with fail
  go_ret
  exact ⟨rfl, hb⟩

theorem all_lg (l : List LgV) (a : Option Addr) (c : Nat) (W : World) (hR : RowAt W a 3 (l.map LgV.vs)) (f : Nat) (first cap : Array Value) (p : LgV → Bool)
    (hf : ∀ args w, (callFunc f args).run Tryz.prog w = .ok (.enter f args) w) (hlen : l.length ≤ 1000)
    (hp : ∀ x ∈ l, ∀ w', Below W.heap.size W w' → Calls Tryz.prog f (first.push (.agg #[.int .i64 x.lg.lo, .int .i64 x.lg.hi, .slice x.a x.lg.as.length x.c]) ++ cap) w' (Ret (.bool (p x)) w')) :
    Calls Tryz.prog 76 #[.slice a l.length c, .func (.func f) first cap] W (Ret (.bool (l.all p)) W) := by
  have HP := Lib.hid hp
  have HR := Lib.hid hR
  have HF := Lib.hid hf
  clear hp hR hf
  go_enter Tryz.func76, Tryz.ntmps76
  go_wp2_with fail
  refine named1 (p := fun W => Calls _ _ _ W _) ?_
  intro w1 hb1 B1
  refine (contains_lg l a c w1 (HR.out.later hb1) 106 #[] #[.pointer (some ⟨W.heap.size, 0, none⟩)] (fun x => !p x) (fun _ _ => by kernel_rfl) hlen ?_).mono ?_
  · intro x hx w' hb'
    exact pass_lg x _ w' f first cap (p x) (B1.later hb') HF.out (fun w'' hb'' => HP.out x hx w'' (over (over hb1 hb') hb''))
  rintro e w2 ⟨rfl, hb2⟩
  replace hb2 := over hb1 hb2
  clear hb1
  go_wp2_with fail
  go_ret
  exact ⟨ret_bool (not_any_not p l), hb2⟩
theorem pass_rt (x : RtV) (b : Nat) (w : World) (f : Nat) (first cap : Array Value) (p : Bool) (B1 : Box w b #[.func (.func f) first cap] 140)
    (hf : ∀ args w, (callFunc f args).run Tryz.prog w = .ok (.enter f args) w)
    (hp : ∀ w', Below w.heap.size w w' → Calls Tryz.prog f (first.push (.agg #[.slice x.a x.legs.length x.c, .bool x.lossy]) ++ cap) w' (Ret (.bool p) w')) :
    Calls Tryz.prog 75 #[.agg #[.slice x.a x.legs.length x.c, .bool x.lossy], .pointer (some ⟨b, 0, none⟩)] w (Ret (.bool (!p)) w) := by
  have HP := Lib.hid hp
  clear hp
  have c1 := B1.cell; have t1 := B1.lt
  go_enter Tryz.func75, Tryz.ntmps75
  go_wp2_with fail
  refine named1 (p := fun W => Calls _ _ _ W _) ?_; intro w1 hb0 _
  refine (HP.out _ hb0).mono ?_
  rintro e w' ⟨rfl, hb⟩
  replace hb := over hb0 hb
  go_wp2_with fail
  go_ret
  exact ⟨rfl, hb⟩

theorem all_rt (l : List RtV) (a : Option Addr) (c : Nat) (W : World) (hR : RowAt W a 2 (l.map RtV.vs)) (f : Nat) (first cap : Array Value) (p : RtV → Bool)
    (hf : ∀ args w, (callFunc f args).run Tryz.prog w = .ok (.enter f args) w) (hlen : l.length ≤ 1000)
    (hp : ∀ x ∈ l, ∀ w', Below W.heap.size W w' → Calls Tryz.prog f (first.push (.agg #[.slice x.a x.legs.length x.c, .bool x.lossy]) ++ cap) w' (Ret (.bool (p x)) w')) :
    Calls Tryz.prog 44 #[.slice a l.length c, .func (.func f) first cap] W (Ret (.bool (l.all p)) W) := by
  have HP := Lib.hid hp
  have HR := Lib.hid hR
  have HF := Lib.hid hf
  clear hp hR hf
  go_enter Tryz.func44, Tryz.ntmps44
  go_wp2_with fail
  refine named1 (p := fun W => Calls _ _ _ W _) ?_
  intro w1 hb1 B1
  refine (contains_rt l a c w1 (HR.out.later hb1) 75 #[] #[.pointer (some ⟨W.heap.size, 0, none⟩)] (fun x => !p x) (fun _ _ => by kernel_rfl) hlen ?_).mono ?_
  · intro x hx w' hb'
    exact pass_rt x _ w' f first cap (p x) (B1.later hb') HF.out (fun w'' hb'' => HP.out x hx w'' (over (over hb1 hb') hb''))
  rintro e w2 ⟨rfl, hb2⟩
  replace hb2 := over hb1 hb2
  clear hb1
  go_wp2_with fail
  go_ret
  exact ⟨ret_bool (not_any_not p l), hb2⟩
end Cp
end Go.Proofs.YtingfmdbihbamaaGreat
