/- Layer 1, the walks: whether all elements of a list pass a test. -/
import Derived.Test.YtmfnkmmbihmjnaaRows1
open Go.RowKit
namespace Go.Proofs.Ytmfnkmmbihmjnaa
open Go.Hill

set_option maxHeartbeats 400000 in
theorem index_wl (l : List Wl) (a : Option Addr) (c : Nat) (W : World) (hR : RowAt W a 6 (l.map Wl.vs)) (f : Nat) (first cap : Array Value) (p : Wl → Bool)
    (hf : ∀ args w, (callFunc f args).run Try.prog w = .ok (.enter f args) w) (hlen : l.length ≤ 1000)
    (hp : ∀ x ∈ l, ∀ w', Below W.heap.size W w' → Calls Try.prog f (first.push (.agg #[.int .i64 x.X1, .int .i64 x.Y1, .int .i64 x.X2, .int .i64 x.Y2, .int .i64 x.B, .int .i64 x.T]) ++ cap) w' (Ret (.bool (p x)) w')) :
    Calls Try.prog 107 #[.slice a l.length c, .func (.func f) first cap] W (Ret (.int .i64 (idxI p l)) W) := by
  have HP := Lib.hid hp
  have HR := Lib.hid hR
  clear hp hR
  go_enter Try.func107, Try.ntmps107
  go_wp2
  go_loopw [8] (fun i wr => ∃ k : Nat, k ≤ l.length ∧ i = .int .i64 k ∧ Below W.heap.size W wr ∧ ∀ j x, j < k → l[j]? = some x → p x = false) (fun i _ => l.length - (intOf i).toNat)
  case atStart => exact ⟨0, Nat.zero_le _, rfl, Below.refl _ _, fun j x hj => by omega⟩
  case round =>
    obtain ⟨k, hk, rfl, hb, hno⟩ := hrel
    have HN := Lib.hid hno
    clear hno
    by_cases hlt : k < l.length
    · obtain ⟨b, o, rfl, hC⟩ := RowAt.at HR.out hlt
      obtain ⟨x, hx⟩ : ∃ x, l[k]? = some x := ⟨l[k], by simp [hlt]⟩
      obtain ⟨e0, e1, e2, e3, e4, e5⟩ := cells_wl (hC.later hb) hx
      have HX := Lib.hid hx
      clear hx hC
      go_wp2_with fail
      refine (HP.out x (List.mem_of_getElem? HX.out) wr hb).mono ?_
      rintro e w' ⟨rfl, hb'⟩
      replace hb := over hb hb'
      clear hb'
      by_cases hpx : p x = true
      · rw [hpx]
        have HT := Lib.hid hpx
        clear hpx
        go_wp2_with fail
        go_ret
        exact ⟨ret_int (idxI_some HX.out HT.out HN.out).symm, hb⟩
      · have hpf : p x = false := by simpa using hpx
        rw [hpf]
        have HT := Lib.hid hpf
        clear hpf hpx
        go_wp2_with fail
        go_roundw
        case rel =>
          refine ⟨k + 1, by omega, by go_num, hb, fun j y hj hy => ?_⟩
          rcases Nat.lt_succ_iff_lt_or_eq.1 hj with h | h
          · exact HN.out j y h hy
          · subst h; rw [HX.out] at hy; cases hy; exact HT.out
        case measure => simp [intOf]; omega
    · go_wp2_with fail
      go_ret
      exact ⟨ret_int (idxI_none fun j y hj => HN.out j y (by omega)).symm, hb⟩

theorem contains_wl (l : List Wl) (a : Option Addr) (c : Nat) (W : World) (hR : RowAt W a 6 (l.map Wl.vs)) (f : Nat) (first cap : Array Value) (p : Wl → Bool)
    (hf : ∀ args w, (callFunc f args).run Try.prog w = .ok (.enter f args) w) (hlen : l.length ≤ 1000)
    (hp : ∀ x ∈ l, ∀ w', Below W.heap.size W w' → Calls Try.prog f (first.push (.agg #[.int .i64 x.X1, .int .i64 x.Y1, .int .i64 x.X2, .int .i64 x.Y2, .int .i64 x.B, .int .i64 x.T]) ++ cap) w' (Ret (.bool (p x)) w')) :
    Calls Try.prog 81 #[.slice a l.length c, .func (.func f) first cap] W (Ret (.bool (l.any p)) W) := by
  have HC := Lib.hid (index_wl l a c W hR f first cap p hf hlen hp)
  have hi := idxI_bd p l
  clear hp hR hf
  go_enter Try.func81, Try.ntmps81
  go_wp2_with fail
  refine HC.out.mono ?_
  rintro e w' ⟨rfl, hb⟩
  go_wp2_with fail
  go_ret
  exact ⟨ret_bool (idxI_any p l), hb⟩

theorem pass_wl (x : Wl) (b : Nat) (w : World) (f : Nat) (first cap : Array Value) (p : Bool) (B1 : Box w b #[.func (.func f) first cap] 105)
    (hf : ∀ args w, (callFunc f args).run Try.prog w = .ok (.enter f args) w)
    (hp : ∀ w', Below w.heap.size w w' → Calls Try.prog f (first.push (.agg #[.int .i64 x.X1, .int .i64 x.Y1, .int .i64 x.X2, .int .i64 x.Y2, .int .i64 x.B, .int .i64 x.T]) ++ cap) w' (Ret (.bool p) w')) :
    Calls Try.prog 82 #[.agg #[.int .i64 x.X1, .int .i64 x.Y1, .int .i64 x.X2, .int .i64 x.Y2, .int .i64 x.B, .int .i64 x.T], .pointer (some ⟨b, 0, none⟩)] w (Ret (.bool (!p)) w) := by
  have HP := Lib.hid hp
  clear hp
  have c1 := B1.cell; have t1 := B1.lt
  go_enter Try.func82, Try.ntmps82
  go_wp2_with fail
  refine named1 (p := fun W => Calls _ _ _ W _) ?_; intro w1 hb0 _
  refine (HP.out _ hb0).mono ?_
  rintro e w' ⟨rfl, hb⟩
  replace hb := over hb0 hb
  go_wp2_with fail
  go_ret
  exact ⟨rfl, hb⟩

theorem all_wl (l : List Wl) (a : Option Addr) (c : Nat) (W : World) (hR : RowAt W a 6 (l.map Wl.vs)) (f : Nat) (first cap : Array Value) (p : Wl → Bool)
    (hf : ∀ args w, (callFunc f args).run Try.prog w = .ok (.enter f args) w) (hlen : l.length ≤ 1000)
    (hp : ∀ x ∈ l, ∀ w', Below W.heap.size W w' → Calls Try.prog f (first.push (.agg #[.int .i64 x.X1, .int .i64 x.Y1, .int .i64 x.X2, .int .i64 x.Y2, .int .i64 x.B, .int .i64 x.T]) ++ cap) w' (Ret (.bool (p x)) w')) :
    Calls Try.prog 54 #[.slice a l.length c, .func (.func f) first cap] W (Ret (.bool (l.all p)) W) := by
  have HP := Lib.hid hp
  have HR := Lib.hid hR
  have HF := Lib.hid hf
  clear hp hR hf
  go_enter Try.func54, Try.ntmps54
  go_wp2_with fail
  refine named1 (p := fun W => Calls _ _ _ W _) ?_
  intro w1 hb1 B1
  refine (contains_wl l a c w1 (HR.out.later hb1) 82 #[] #[.pointer (some ⟨W.heap.size, 0, none⟩)] (fun x => !p x) (fun _ _ => by kernel_rfl) hlen ?_).mono ?_
  · intro x hx w' hb'
    exact pass_wl x _ w' f first cap (p x) (B1.later hb') HF.out (fun w'' hb'' => HP.out x hx w'' (over (over hb1 hb') hb''))
  rintro e w2 ⟨rfl, hb2⟩
  replace hb2 := over hb1 hb2
  clear hb1
  go_wp2_with fail
  go_ret
  exact ⟨ret_bool (not_any_not p l), hb2⟩
set_option maxHeartbeats 400000 in
theorem index_cd (l : List Cd) (a : Option Addr) (c : Nat) (W : World) (hR : RowAt W a 8 (l.map Cd.vs)) (f : Nat) (first cap : Array Value) (p : Cd → Bool)
    (hf : ∀ args w, (callFunc f args).run Try.prog w = .ok (.enter f args) w) (hlen : l.length ≤ 1000)
    (hp : ∀ x ∈ l, ∀ w', Below W.heap.size W w' → Calls Try.prog f (first.push (.agg #[.int .i64 x.wl.X1, .int .i64 x.wl.Y1, .int .i64 x.wl.X2, .int .i64 x.wl.Y2, .int .i64 x.wl.B, .int .i64 x.wl.T, .int .i64 x.fr, .int .i64 x.to]) ++ cap) w' (Ret (.bool (p x)) w')) :
    Calls Try.prog 109 #[.slice a l.length c, .func (.func f) first cap] W (Ret (.int .i64 (idxI p l)) W) := by
  have HP := Lib.hid hp
  have HR := Lib.hid hR
  clear hp hR
  go_enter Try.func109, Try.ntmps109
  go_wp2
  go_loopw [8] (fun i wr => ∃ k : Nat, k ≤ l.length ∧ i = .int .i64 k ∧ Below W.heap.size W wr ∧ ∀ j x, j < k → l[j]? = some x → p x = false) (fun i _ => l.length - (intOf i).toNat)
  case atStart => exact ⟨0, Nat.zero_le _, rfl, Below.refl _ _, fun j x hj => by omega⟩
  case round =>
    obtain ⟨k, hk, rfl, hb, hno⟩ := hrel
    have HN := Lib.hid hno
    clear hno
    by_cases hlt : k < l.length
    · obtain ⟨b, o, rfl, hC⟩ := RowAt.at HR.out hlt
      obtain ⟨x, hx⟩ : ∃ x, l[k]? = some x := ⟨l[k], by simp [hlt]⟩
      obtain ⟨e0, e1, e2, e3, e4, e5, e6, e7⟩ := cells_cd (hC.later hb) hx
      have HX := Lib.hid hx
      clear hx hC
      go_wp2_with fail
      refine (HP.out x (List.mem_of_getElem? HX.out) wr hb).mono ?_
      rintro e w' ⟨rfl, hb'⟩
      replace hb := over hb hb'
      clear hb'
      by_cases hpx : p x = true
      · rw [hpx]
        have HT := Lib.hid hpx
        clear hpx
        go_wp2_with fail
        go_ret
        exact ⟨ret_int (idxI_some HX.out HT.out HN.out).symm, hb⟩
      · have hpf : p x = false := by simpa using hpx
        rw [hpf]
        have HT := Lib.hid hpf
        clear hpf hpx
        go_wp2_with fail
        go_roundw
        case rel =>
          refine ⟨k + 1, by omega, by go_num, hb, fun j y hj hy => ?_⟩
          rcases Nat.lt_succ_iff_lt_or_eq.1 hj with h | h
          · exact HN.out j y h hy
          · subst h; rw [HX.out] at hy; cases hy; exact HT.out
        case measure => simp [intOf]; omega
    · go_wp2_with fail
      go_ret
      exact ⟨ret_int (idxI_none fun j y hj => HN.out j y (by omega)).symm, hb⟩

theorem contains_cd (l : List Cd) (a : Option Addr) (c : Nat) (W : World) (hR : RowAt W a 8 (l.map Cd.vs)) (f : Nat) (first cap : Array Value) (p : Cd → Bool)
    (hf : ∀ args w, (callFunc f args).run Try.prog w = .ok (.enter f args) w) (hlen : l.length ≤ 1000)
    (hp : ∀ x ∈ l, ∀ w', Below W.heap.size W w' → Calls Try.prog f (first.push (.agg #[.int .i64 x.wl.X1, .int .i64 x.wl.Y1, .int .i64 x.wl.X2, .int .i64 x.wl.Y2, .int .i64 x.wl.B, .int .i64 x.wl.T, .int .i64 x.fr, .int .i64 x.to]) ++ cap) w' (Ret (.bool (p x)) w')) :
    Calls Try.prog 94 #[.slice a l.length c, .func (.func f) first cap] W (Ret (.bool (l.any p)) W) := by
  have HC := Lib.hid (index_cd l a c W hR f first cap p hf hlen hp)
  have hi := idxI_bd p l
  clear hp hR hf
  go_enter Try.func94, Try.ntmps94
  go_wp2_with fail
  refine HC.out.mono ?_
  rintro e w' ⟨rfl, hb⟩
  go_wp2_with fail
  go_ret
  exact ⟨ret_bool (idxI_any p l), hb⟩

theorem pass_cd (x : Cd) (b : Nat) (w : World) (f : Nat) (first cap : Array Value) (p : Bool) (B1 : Box w b #[.func (.func f) first cap] 111)
    (hf : ∀ args w, (callFunc f args).run Try.prog w = .ok (.enter f args) w)
    (hp : ∀ w', Below w.heap.size w w' → Calls Try.prog f (first.push (.agg #[.int .i64 x.wl.X1, .int .i64 x.wl.Y1, .int .i64 x.wl.X2, .int .i64 x.wl.Y2, .int .i64 x.wl.B, .int .i64 x.wl.T, .int .i64 x.fr, .int .i64 x.to]) ++ cap) w' (Ret (.bool p) w')) :
    Calls Try.prog 95 #[.agg #[.int .i64 x.wl.X1, .int .i64 x.wl.Y1, .int .i64 x.wl.X2, .int .i64 x.wl.Y2, .int .i64 x.wl.B, .int .i64 x.wl.T, .int .i64 x.fr, .int .i64 x.to], .pointer (some ⟨b, 0, none⟩)] w (Ret (.bool (!p)) w) := by
  have HP := Lib.hid hp
  clear hp
  have c1 := B1.cell; have t1 := B1.lt
  go_enter Try.func95, Try.ntmps95
  go_wp2_with fail
  refine named1 (p := fun W => Calls _ _ _ W _) ?_; intro w1 hb0 _
  refine (HP.out _ hb0).mono ?_
  rintro e w' ⟨rfl, hb⟩
  replace hb := over hb0 hb
  go_wp2_with fail
  go_ret
  exact ⟨rfl, hb⟩

theorem all_cd (l : List Cd) (a : Option Addr) (c : Nat) (W : World) (hR : RowAt W a 8 (l.map Cd.vs)) (f : Nat) (first cap : Array Value) (p : Cd → Bool)
    (hf : ∀ args w, (callFunc f args).run Try.prog w = .ok (.enter f args) w) (hlen : l.length ≤ 1000)
    (hp : ∀ x ∈ l, ∀ w', Below W.heap.size W w' → Calls Try.prog f (first.push (.agg #[.int .i64 x.wl.X1, .int .i64 x.wl.Y1, .int .i64 x.wl.X2, .int .i64 x.wl.Y2, .int .i64 x.wl.B, .int .i64 x.wl.T, .int .i64 x.fr, .int .i64 x.to]) ++ cap) w' (Ret (.bool (p x)) w')) :
    Calls Try.prog 67 #[.slice a l.length c, .func (.func f) first cap] W (Ret (.bool (l.all p)) W) := by
  have HP := Lib.hid hp
  have HR := Lib.hid hR
  have HF := Lib.hid hf
  clear hp hR hf
  go_enter Try.func67, Try.ntmps67
  go_wp2_with fail
  refine named1 (p := fun W => Calls _ _ _ W _) ?_
  intro w1 hb1 B1
  refine (contains_cd l a c w1 (HR.out.later hb1) 95 #[] #[.pointer (some ⟨W.heap.size, 0, none⟩)] (fun x => !p x) (fun _ _ => by kernel_rfl) hlen ?_).mono ?_
  · intro x hx w' hb'
    exact pass_cd x _ w' f first cap (p x) (B1.later hb') HF.out (fun w'' hb'' => HP.out x hx w'' (over (over hb1 hb') hb''))
  rintro e w2 ⟨rfl, hb2⟩
  replace hb2 := over hb1 hb2
  clear hb1
  go_wp2_with fail
  go_ret
  exact ⟨ret_bool (not_any_not p l), hb2⟩
set_option maxHeartbeats 400000 in
theorem index_st (l : List Stn) (a : Option Addr) (c : Nat) (W : World) (hR : RowAt W a 4 (l.map Stn.vs)) (f : Nat) (first cap : Array Value) (p : Stn → Bool)
    (hf : ∀ args w, (callFunc f args).run Try.prog w = .ok (.enter f args) w) (hlen : l.length ≤ 1000)
    (hp : ∀ x ∈ l, ∀ w', Below W.heap.size W w' → Calls Try.prog f (first.push (.agg #[.int .i64 x.X, .int .i64 x.Y, .int .i64 x.Z, .int .i64 x.M]) ++ cap) w' (Ret (.bool (p x)) w')) :
    Calls Try.prog 111 #[.slice a l.length c, .func (.func f) first cap] W (Ret (.int .i64 (idxI p l)) W) := by
  have HP := Lib.hid hp
  have HR := Lib.hid hR
  clear hp hR
  go_enter Try.func111, Try.ntmps111
  go_wp2
  go_loopw [8] (fun i wr => ∃ k : Nat, k ≤ l.length ∧ i = .int .i64 k ∧ Below W.heap.size W wr ∧ ∀ j x, j < k → l[j]? = some x → p x = false) (fun i _ => l.length - (intOf i).toNat)
  case atStart => exact ⟨0, Nat.zero_le _, rfl, Below.refl _ _, fun j x hj => by omega⟩
  case round =>
    obtain ⟨k, hk, rfl, hb, hno⟩ := hrel
    have HN := Lib.hid hno
    clear hno
    by_cases hlt : k < l.length
    · obtain ⟨b, o, rfl, hC⟩ := RowAt.at HR.out hlt
      obtain ⟨x, hx⟩ : ∃ x, l[k]? = some x := ⟨l[k], by simp [hlt]⟩
      obtain ⟨e0, e1, e2, e3⟩ := cells_st (hC.later hb) hx
      have HX := Lib.hid hx
      clear hx hC
      go_wp2_with fail
      refine (HP.out x (List.mem_of_getElem? HX.out) wr hb).mono ?_
      rintro e w' ⟨rfl, hb'⟩
      replace hb := over hb hb'
      clear hb'
      by_cases hpx : p x = true
      · rw [hpx]
        have HT := Lib.hid hpx
        clear hpx
        go_wp2_with fail
        go_ret
        exact ⟨ret_int (idxI_some HX.out HT.out HN.out).symm, hb⟩
      · have hpf : p x = false := by simpa using hpx
        rw [hpf]
        have HT := Lib.hid hpf
        clear hpf hpx
        go_wp2_with fail
        go_roundw
        case rel =>
          refine ⟨k + 1, by omega, by go_num, hb, fun j y hj hy => ?_⟩
          rcases Nat.lt_succ_iff_lt_or_eq.1 hj with h | h
          · exact HN.out j y h hy
          · subst h; rw [HX.out] at hy; cases hy; exact HT.out
        case measure => simp [intOf]; omega
    · go_wp2_with fail
      go_ret
      exact ⟨ret_int (idxI_none fun j y hj => HN.out j y (by omega)).symm, hb⟩

theorem contains_st (l : List Stn) (a : Option Addr) (c : Nat) (W : World) (hR : RowAt W a 4 (l.map Stn.vs)) (f : Nat) (first cap : Array Value) (p : Stn → Bool)
    (hf : ∀ args w, (callFunc f args).run Try.prog w = .ok (.enter f args) w) (hlen : l.length ≤ 1000)
    (hp : ∀ x ∈ l, ∀ w', Below W.heap.size W w' → Calls Try.prog f (first.push (.agg #[.int .i64 x.X, .int .i64 x.Y, .int .i64 x.Z, .int .i64 x.M]) ++ cap) w' (Ret (.bool (p x)) w')) :
    Calls Try.prog 98 #[.slice a l.length c, .func (.func f) first cap] W (Ret (.bool (l.any p)) W) := by
  have HC := Lib.hid (index_st l a c W hR f first cap p hf hlen hp)
  have hi := idxI_bd p l
  clear hp hR hf
  go_enter Try.func98, Try.ntmps98
  go_wp2_with fail
  refine HC.out.mono ?_
  rintro e w' ⟨rfl, hb⟩
  go_wp2_with fail
  go_ret
  exact ⟨ret_bool (idxI_any p l), hb⟩

theorem pass_st (x : Stn) (b : Nat) (w : World) (f : Nat) (first cap : Array Value) (p : Bool) (B1 : Box w b #[.func (.func f) first cap] 116)
    (hf : ∀ args w, (callFunc f args).run Try.prog w = .ok (.enter f args) w)
    (hp : ∀ w', Below w.heap.size w w' → Calls Try.prog f (first.push (.agg #[.int .i64 x.X, .int .i64 x.Y, .int .i64 x.Z, .int .i64 x.M]) ++ cap) w' (Ret (.bool p) w')) :
    Calls Try.prog 99 #[.agg #[.int .i64 x.X, .int .i64 x.Y, .int .i64 x.Z, .int .i64 x.M], .pointer (some ⟨b, 0, none⟩)] w (Ret (.bool (!p)) w) := by
  have HP := Lib.hid hp
  clear hp
  have c1 := B1.cell; have t1 := B1.lt
  go_enter Try.func99, Try.ntmps99
  go_wp2_with fail
  refine named1 (p := fun W => Calls _ _ _ W _) ?_; intro w1 hb0 _
  refine (HP.out _ hb0).mono ?_
  rintro e w' ⟨rfl, hb⟩
  replace hb := over hb0 hb
  go_wp2_with fail
  go_ret
  exact ⟨rfl, hb⟩

theorem all_st (l : List Stn) (a : Option Addr) (c : Nat) (W : World) (hR : RowAt W a 4 (l.map Stn.vs)) (f : Nat) (first cap : Array Value) (p : Stn → Bool)
    (hf : ∀ args w, (callFunc f args).run Try.prog w = .ok (.enter f args) w) (hlen : l.length ≤ 1000)
    (hp : ∀ x ∈ l, ∀ w', Below W.heap.size W w' → Calls Try.prog f (first.push (.agg #[.int .i64 x.X, .int .i64 x.Y, .int .i64 x.Z, .int .i64 x.M]) ++ cap) w' (Ret (.bool (p x)) w')) :
    Calls Try.prog 69 #[.slice a l.length c, .func (.func f) first cap] W (Ret (.bool (l.all p)) W) := by
  have HP := Lib.hid hp
  have HR := Lib.hid hR
  have HF := Lib.hid hf
  clear hp hR hf
  go_enter Try.func69, Try.ntmps69
  go_wp2_with fail
  refine named1 (p := fun W => Calls _ _ _ W _) ?_
  intro w1 hb1 B1
  refine (contains_st l a c w1 (HR.out.later hb1) 99 #[] #[.pointer (some ⟨W.heap.size, 0, none⟩)] (fun x => !p x) (fun _ _ => by kernel_rfl) hlen ?_).mono ?_
  · intro x hx w' hb'
    exact pass_st x _ w' f first cap (p x) (B1.later hb') HF.out (fun w'' hb'' => HP.out x hx w'' (over (over hb1 hb') hb''))
  rintro e w2 ⟨rfl, hb2⟩
  replace hb2 := over hb1 hb2
  clear hb1
  go_wp2_with fail
  go_ret
  exact ⟨ret_bool (not_any_not p l), hb2⟩
set_option maxHeartbeats 400000 in
theorem index_sn (l : List Sn) (a : Option Addr) (c : Nat) (W : World) (hR : RowAt W a 3 (l.map Sn.vs)) (f : Nat) (first cap : Array Value) (p : Sn → Bool)
    (hf : ∀ args w, (callFunc f args).run Try.prog w = .ok (.enter f args) w) (hlen : l.length ≤ 1000)
    (hp : ∀ x ∈ l, ∀ w', Below W.heap.size W w' → Calls Try.prog f (first.push (.agg #[.int .i64 x.E, .int .i64 x.N, .int .i64 x.U]) ++ cap) w' (Ret (.bool (p x)) w')) :
    Calls Try.prog 112 #[.slice a l.length c, .func (.func f) first cap] W (Ret (.int .i64 (idxI p l)) W) := by
  have HP := Lib.hid hp
  have HR := Lib.hid hR
  clear hp hR
  go_enter Try.func112, Try.ntmps112
  go_wp2
  go_loopw [8] (fun i wr => ∃ k : Nat, k ≤ l.length ∧ i = .int .i64 k ∧ Below W.heap.size W wr ∧ ∀ j x, j < k → l[j]? = some x → p x = false) (fun i _ => l.length - (intOf i).toNat)
  case atStart => exact ⟨0, Nat.zero_le _, rfl, Below.refl _ _, fun j x hj => by omega⟩
  case round =>
    obtain ⟨k, hk, rfl, hb, hno⟩ := hrel
    have HN := Lib.hid hno
    clear hno
    by_cases hlt : k < l.length
    · obtain ⟨b, o, rfl, hC⟩ := RowAt.at HR.out hlt
      obtain ⟨x, hx⟩ : ∃ x, l[k]? = some x := ⟨l[k], by simp [hlt]⟩
      obtain ⟨e0, e1, e2⟩ := cells_sn (hC.later hb) hx
      have HX := Lib.hid hx
      clear hx hC
      go_wp2_with fail
      refine (HP.out x (List.mem_of_getElem? HX.out) wr hb).mono ?_
      rintro e w' ⟨rfl, hb'⟩
      replace hb := over hb hb'
      clear hb'
      by_cases hpx : p x = true
      · rw [hpx]
        have HT := Lib.hid hpx
        clear hpx
        go_wp2_with fail
        go_ret
        exact ⟨ret_int (idxI_some HX.out HT.out HN.out).symm, hb⟩
      · have hpf : p x = false := by simpa using hpx
        rw [hpf]
        have HT := Lib.hid hpf
        clear hpf hpx
        go_wp2_with fail
        go_roundw
        case rel =>
          refine ⟨k + 1, by omega, by go_num, hb, fun j y hj hy => ?_⟩
          rcases Nat.lt_succ_iff_lt_or_eq.1 hj with h | h
          · exact HN.out j y h hy
          · subst h; rw [HX.out] at hy; cases hy; exact HT.out
        case measure => simp [intOf]; omega
    · go_wp2_with fail
      go_ret
      exact ⟨ret_int (idxI_none fun j y hj => HN.out j y (by omega)).symm, hb⟩

theorem contains_sn (l : List Sn) (a : Option Addr) (c : Nat) (W : World) (hR : RowAt W a 3 (l.map Sn.vs)) (f : Nat) (first cap : Array Value) (p : Sn → Bool)
    (hf : ∀ args w, (callFunc f args).run Try.prog w = .ok (.enter f args) w) (hlen : l.length ≤ 1000)
    (hp : ∀ x ∈ l, ∀ w', Below W.heap.size W w' → Calls Try.prog f (first.push (.agg #[.int .i64 x.E, .int .i64 x.N, .int .i64 x.U]) ++ cap) w' (Ret (.bool (p x)) w')) :
    Calls Try.prog 101 #[.slice a l.length c, .func (.func f) first cap] W (Ret (.bool (l.any p)) W) := by
  have HC := Lib.hid (index_sn l a c W hR f first cap p hf hlen hp)
  have hi := idxI_bd p l
  clear hp hR hf
  go_enter Try.func101, Try.ntmps101
  go_wp2_with fail
  refine HC.out.mono ?_
  rintro e w' ⟨rfl, hb⟩
  go_wp2_with fail
  go_ret
  exact ⟨ret_bool (idxI_any p l), hb⟩

theorem pass_sn (x : Sn) (b : Nat) (w : World) (f : Nat) (first cap : Array Value) (p : Bool) (B1 : Box w b #[.func (.func f) first cap] 118)
    (hf : ∀ args w, (callFunc f args).run Try.prog w = .ok (.enter f args) w)
    (hp : ∀ w', Below w.heap.size w w' → Calls Try.prog f (first.push (.agg #[.int .i64 x.E, .int .i64 x.N, .int .i64 x.U]) ++ cap) w' (Ret (.bool p) w')) :
    Calls Try.prog 102 #[.agg #[.int .i64 x.E, .int .i64 x.N, .int .i64 x.U], .pointer (some ⟨b, 0, none⟩)] w (Ret (.bool (!p)) w) := by
  have HP := Lib.hid hp
  clear hp
  have c1 := B1.cell; have t1 := B1.lt
  go_enter Try.func102, Try.ntmps102
  go_wp2_with fail
  refine named1 (p := fun W => Calls _ _ _ W _) ?_; intro w1 hb0 _
  refine (HP.out _ hb0).mono ?_
  rintro e w' ⟨rfl, hb⟩
  replace hb := over hb0 hb
  go_wp2_with fail
  go_ret
  exact ⟨rfl, hb⟩

theorem all_sn (l : List Sn) (a : Option Addr) (c : Nat) (W : World) (hR : RowAt W a 3 (l.map Sn.vs)) (f : Nat) (first cap : Array Value) (p : Sn → Bool)
    (hf : ∀ args w, (callFunc f args).run Try.prog w = .ok (.enter f args) w) (hlen : l.length ≤ 1000)
    (hp : ∀ x ∈ l, ∀ w', Below W.heap.size W w' → Calls Try.prog f (first.push (.agg #[.int .i64 x.E, .int .i64 x.N, .int .i64 x.U]) ++ cap) w' (Ret (.bool (p x)) w')) :
    Calls Try.prog 73 #[.slice a l.length c, .func (.func f) first cap] W (Ret (.bool (l.all p)) W) := by
  have HP := Lib.hid hp
  have HR := Lib.hid hR
  have HF := Lib.hid hf
  clear hp hR hf
  go_enter Try.func73, Try.ntmps73
  go_wp2_with fail
  refine named1 (p := fun W => Calls _ _ _ W _) ?_
  intro w1 hb1 B1
  refine (contains_sn l a c w1 (HR.out.later hb1) 102 #[] #[.pointer (some ⟨W.heap.size, 0, none⟩)] (fun x => !p x) (fun _ _ => by kernel_rfl) hlen ?_).mono ?_
  · intro x hx w' hb'
    exact pass_sn x _ w' f first cap (p x) (B1.later hb') HF.out (fun w'' hb'' => HP.out x hx w'' (over (over hb1 hb') hb''))
  rintro e w2 ⟨rfl, hb2⟩
  replace hb2 := over hb1 hb2
  clear hb1
  go_wp2_with fail
  go_ret
  exact ⟨ret_bool (not_any_not p l), hb2⟩
set_option maxHeartbeats 400000 in
theorem index_int (l : List Int) (a : Option Addr) (c : Nat) (W : World) (hR : RowAt W a 1 (l.map fun n => [.int .i64 n])) (f : Nat) (first cap : Array Value) (p : Int → Bool)
    (hf : ∀ args w, (callFunc f args).run Try.prog w = .ok (.enter f args) w) (hlen : l.length ≤ 1000)
    (hp : ∀ x ∈ l, ∀ w', Below W.heap.size W w' → Calls Try.prog f (first.push (.int .i64 x) ++ cap) w' (Ret (.bool (p x)) w')) :
    Calls Try.prog 115 #[.slice a l.length c, .func (.func f) first cap] W (Ret (.int .i64 (idxI p l)) W) := by
  have HP := Lib.hid hp
  have HR := Lib.hid hR
  clear hp hR
  go_enter Try.func115, Try.ntmps115
  go_wp2
  go_loopw [8] (fun i wr => ∃ k : Nat, k ≤ l.length ∧ i = .int .i64 k ∧ Below W.heap.size W wr ∧ ∀ j x, j < k → l[j]? = some x → p x = false) (fun i _ => l.length - (intOf i).toNat)
  case atStart => exact ⟨0, Nat.zero_le _, rfl, Below.refl _ _, fun j x hj => by omega⟩
  case round =>
    obtain ⟨k, hk, rfl, hb, hno⟩ := hrel
    have HN := Lib.hid hno
    clear hno
    by_cases hlt : k < l.length
    · obtain ⟨b, o, rfl, hC⟩ := RowAt.at HR.out hlt
      obtain ⟨x, hx⟩ : ∃ x, l[k]? = some x := ⟨l[k], by simp [hlt]⟩
      obtain e0 := cells_one (hC.later hb) hx
      have HX := Lib.hid hx
      clear hx hC
      go_wp2_with fail
      refine (HP.out x (List.mem_of_getElem? HX.out) wr hb).mono ?_
      rintro e w' ⟨rfl, hb'⟩
      replace hb := over hb hb'
      clear hb'
      by_cases hpx : p x = true
      · rw [hpx]
        have HT := Lib.hid hpx
        clear hpx
        go_wp2_with fail
        go_ret
        exact ⟨ret_int (idxI_some HX.out HT.out HN.out).symm, hb⟩
      · have hpf : p x = false := by simpa using hpx
        rw [hpf]
        have HT := Lib.hid hpf
        clear hpf hpx
        go_wp2_with fail
        go_roundw
        case rel =>
          refine ⟨k + 1, by omega, by go_num, hb, fun j y hj hy => ?_⟩
          rcases Nat.lt_succ_iff_lt_or_eq.1 hj with h | h
          · exact HN.out j y h hy
          · subst h; rw [HX.out] at hy; cases hy; exact HT.out
        case measure => simp [intOf]; omega
    · go_wp2_with fail
      go_ret
      exact ⟨ret_int (idxI_none fun j y hj => HN.out j y (by omega)).symm, hb⟩

theorem contains_int (l : List Int) (a : Option Addr) (c : Nat) (W : World) (hR : RowAt W a 1 (l.map fun n => [.int .i64 n])) (f : Nat) (first cap : Array Value) (p : Int → Bool)
    (hf : ∀ args w, (callFunc f args).run Try.prog w = .ok (.enter f args) w) (hlen : l.length ≤ 1000)
    (hp : ∀ x ∈ l, ∀ w', Below W.heap.size W w' → Calls Try.prog f (first.push (.int .i64 x) ++ cap) w' (Ret (.bool (p x)) w')) :
    Calls Try.prog 113 #[.slice a l.length c, .func (.func f) first cap] W (Ret (.bool (l.any p)) W) := by
  have HC := Lib.hid (index_int l a c W hR f first cap p hf hlen hp)
  have hi := idxI_bd p l
  clear hp hR hf
  go_enter Try.func113, Try.ntmps113
  go_wp2_with fail
  refine HC.out.mono ?_
  rintro e w' ⟨rfl, hb⟩
  go_wp2_with fail
  go_ret
  exact ⟨ret_bool (idxI_any p l), hb⟩

theorem pass_int (x : Int) (b : Nat) (w : World) (f : Nat) (first cap : Array Value) (p : Bool) (B1 : Box w b #[.func (.func f) first cap] 106)
    (hf : ∀ args w, (callFunc f args).run Try.prog w = .ok (.enter f args) w)
    (hp : ∀ w', Below w.heap.size w w' → Calls Try.prog f (first.push (.int .i64 x) ++ cap) w' (Ret (.bool p) w')) :
    Calls Try.prog 114 #[.int .i64 x, .pointer (some ⟨b, 0, none⟩)] w (Ret (.bool (!p)) w) := by
  have HP := Lib.hid hp
  clear hp
  have c1 := B1.cell; have t1 := B1.lt
  go_enter Try.func114, Try.ntmps114
  go_wp2_with fail
  have hb0 := Below.refl w.heap.size w
  refine (HP.out _ hb0).mono ?_
  rintro e w' ⟨rfl, hb⟩
  replace hb := over hb0 hb
  go_wp2_with fail
  go_ret
  exact ⟨rfl, hb⟩

theorem all_int (l : List Int) (a : Option Addr) (c : Nat) (W : World) (hR : RowAt W a 1 (l.map fun n => [.int .i64 n])) (f : Nat) (first cap : Array Value) (p : Int → Bool)
    (hf : ∀ args w, (callFunc f args).run Try.prog w = .ok (.enter f args) w) (hlen : l.length ≤ 1000)
    (hp : ∀ x ∈ l, ∀ w', Below W.heap.size W w' → Calls Try.prog f (first.push (.int .i64 x) ++ cap) w' (Ret (.bool (p x)) w')) :
    Calls Try.prog 103 #[.slice a l.length c, .func (.func f) first cap] W (Ret (.bool (l.all p)) W) := by
  have HP := Lib.hid hp
  have HR := Lib.hid hR
  have HF := Lib.hid hf
  clear hp hR hf
  go_enter Try.func103, Try.ntmps103
  go_wp2_with fail
  refine named1 (p := fun W => Calls _ _ _ W _) ?_
  intro w1 hb1 B1
  refine (contains_int l a c w1 (HR.out.later hb1) 114 #[] #[.pointer (some ⟨W.heap.size, 0, none⟩)] (fun x => !p x) (fun _ _ => by kernel_rfl) hlen ?_).mono ?_
  · intro x hx w' hb'
    exact pass_int x _ w' f first cap (p x) (B1.later hb') HF.out (fun w'' hb'' => HP.out x hx w'' (over (over hb1 hb') hb''))
  rintro e w2 ⟨rfl, hb2⟩
  replace hb2 := over hb1 hb2
  clear hb1
  go_wp2_with fail
  go_ret
  exact ⟨ret_bool (not_any_not p l), hb2⟩
set_option maxHeartbeats 400000 in
theorem index_cv (l : List CV) (a : Option Addr) (c : Nat) (W : World) (hR : RowAt W a 1 (l.map fun x => [.slice x.a x.cs.length x.c])) (f : Nat) (first cap : Array Value) (p : CV → Bool)
    (hf : ∀ args w, (callFunc f args).run Try.prog w = .ok (.enter f args) w) (hlen : l.length ≤ 1000)
    (hp : ∀ x ∈ l, ∀ w', Below W.heap.size W w' → Calls Try.prog f (first.push (.slice x.a x.cs.length x.c) ++ cap) w' (Ret (.bool (p x)) w')) :
    Calls Try.prog 110 #[.slice a l.length c, .func (.func f) first cap] W (Ret (.int .i64 (idxI p l)) W) := by
  have HP := Lib.hid hp
  have HR := Lib.hid hR
  clear hp hR
  go_enter Try.func110, Try.ntmps110
  go_wp2
  go_loopw [8] (fun i wr => ∃ k : Nat, k ≤ l.length ∧ i = .int .i64 k ∧ Below W.heap.size W wr ∧ ∀ j x, j < k → l[j]? = some x → p x = false) (fun i _ => l.length - (intOf i).toNat)
  case atStart => exact ⟨0, Nat.zero_le _, rfl, Below.refl _ _, fun j x hj => by omega⟩
  case round =>
    obtain ⟨k, hk, rfl, hb, hno⟩ := hrel
    have HN := Lib.hid hno
    clear hno
    by_cases hlt : k < l.length
    · obtain ⟨b, o, rfl, hC⟩ := RowAt.at HR.out hlt
      obtain ⟨x, hx⟩ : ∃ x, l[k]? = some x := ⟨l[k], by simp [hlt]⟩
      obtain e0 := cells_one (hC.later hb) hx
      have HX := Lib.hid hx
      clear hx hC
      go_wp2_with fail
      refine (HP.out x (List.mem_of_getElem? HX.out) wr hb).mono ?_
      rintro e w' ⟨rfl, hb'⟩
      replace hb := over hb hb'
      clear hb'
      by_cases hpx : p x = true
      · rw [hpx]
        have HT := Lib.hid hpx
        clear hpx
        go_wp2_with fail
        go_ret
        exact ⟨ret_int (idxI_some HX.out HT.out HN.out).symm, hb⟩
      · have hpf : p x = false := by simpa using hpx
        rw [hpf]
        have HT := Lib.hid hpf
        clear hpf hpx
        go_wp2_with fail
        go_roundw
        case rel =>
          refine ⟨k + 1, by omega, by go_num, hb, fun j y hj hy => ?_⟩
          rcases Nat.lt_succ_iff_lt_or_eq.1 hj with h | h
          · exact HN.out j y h hy
          · subst h; rw [HX.out] at hy; cases hy; exact HT.out
        case measure => simp [intOf]; omega
    · go_wp2_with fail
      go_ret
      exact ⟨ret_int (idxI_none fun j y hj => HN.out j y (by omega)).symm, hb⟩

theorem contains_cv (l : List CV) (a : Option Addr) (c : Nat) (W : World) (hR : RowAt W a 1 (l.map fun x => [.slice x.a x.cs.length x.c])) (f : Nat) (first cap : Array Value) (p : CV → Bool)
    (hf : ∀ args w, (callFunc f args).run Try.prog w = .ok (.enter f args) w) (hlen : l.length ≤ 1000)
    (hp : ∀ x ∈ l, ∀ w', Below W.heap.size W w' → Calls Try.prog f (first.push (.slice x.a x.cs.length x.c) ++ cap) w' (Ret (.bool (p x)) w')) :
    Calls Try.prog 96 #[.slice a l.length c, .func (.func f) first cap] W (Ret (.bool (l.any p)) W) := by
  have HC := Lib.hid (index_cv l a c W hR f first cap p hf hlen hp)
  have hi := idxI_bd p l
  clear hp hR hf
  go_enter Try.func96, Try.ntmps96
  go_wp2_with fail
  refine HC.out.mono ?_
  rintro e w' ⟨rfl, hb⟩
  go_wp2_with fail
  go_ret
  exact ⟨ret_bool (idxI_any p l), hb⟩

theorem pass_cv (x : CV) (b : Nat) (w : World) (f : Nat) (first cap : Array Value) (p : Bool) (B1 : Box w b #[.func (.func f) first cap] 112)
    (hf : ∀ args w, (callFunc f args).run Try.prog w = .ok (.enter f args) w)
    (hp : ∀ w', Below w.heap.size w w' → Calls Try.prog f (first.push (.slice x.a x.cs.length x.c) ++ cap) w' (Ret (.bool p) w')) :
    Calls Try.prog 97 #[.slice x.a x.cs.length x.c, .pointer (some ⟨b, 0, none⟩)] w (Ret (.bool (!p)) w) := by
  have HP := Lib.hid hp
  clear hp
  have c1 := B1.cell; have t1 := B1.lt
  go_enter Try.func97, Try.ntmps97
  go_wp2_with fail
  have hb0 := Below.refl w.heap.size w
  refine (HP.out _ hb0).mono ?_
  rintro e w' ⟨rfl, hb⟩
  replace hb := over hb0 hb
  go_wp2_with fail
  go_ret
  exact ⟨rfl, hb⟩

theorem all_cv (l : List CV) (a : Option Addr) (c : Nat) (W : World) (hR : RowAt W a 1 (l.map fun x => [.slice x.a x.cs.length x.c])) (f : Nat) (first cap : Array Value) (p : CV → Bool)
    (hf : ∀ args w, (callFunc f args).run Try.prog w = .ok (.enter f args) w) (hlen : l.length ≤ 1000)
    (hp : ∀ x ∈ l, ∀ w', Below W.heap.size W w' → Calls Try.prog f (first.push (.slice x.a x.cs.length x.c) ++ cap) w' (Ret (.bool (p x)) w')) :
    Calls Try.prog 68 #[.slice a l.length c, .func (.func f) first cap] W (Ret (.bool (l.all p)) W) := by
  have HP := Lib.hid hp
  have HR := Lib.hid hR
  have HF := Lib.hid hf
  clear hp hR hf
  go_enter Try.func68, Try.ntmps68
  go_wp2_with fail
  refine named1 (p := fun W => Calls _ _ _ W _) ?_
  intro w1 hb1 B1
  refine (contains_cv l a c w1 (HR.out.later hb1) 97 #[] #[.pointer (some ⟨W.heap.size, 0, none⟩)] (fun x => !p x) (fun _ _ => by kernel_rfl) hlen ?_).mono ?_
  · intro x hx w' hb'
    exact pass_cv x _ w' f first cap (p x) (B1.later hb') HF.out (fun w'' hb'' => HP.out x hx w'' (over (over hb1 hb') hb''))
  rintro e w2 ⟨rfl, hb2⟩
  replace hb2 := over hb1 hb2
  clear hb1
  go_wp2_with fail
  go_ret
  exact ⟨ret_bool (not_any_not p l), hb2⟩
end Go.Proofs.Ytmfnkmmbihmjnaa
