/- The statements on routes: what Stick and ProveRoute return for a route. -/
import Derived.Test.YtfihdaoakfdlpaaGreatLR6
import Derived.Test.YtfihdaoakfdlpaaGreatLR2
import Derived.Test.YtfihdaoakfdlpaaGreatR24
open Go.RowKit
namespace Go.Proofs.YtfihdaoakfdlpaaGreat
open Go.Hill

theorem sticE_ok {L : Land} {f s : Nat} {l : List Hp} (hc : L.chk = 0) (hf : f < L.st.length) (hs : s ≤ L.sn.length) (hch : chain L.st.length L.sn.length f s l) (h12 : l.length ≤ 12) :
    Land.sticE L f s (l.map Hp.hi) = (match stkF L l 0 with | some (i, k) => ((i : Int), (k : Int), 0) | none => (0, 0, 7)) := by
  unfold Land.sticE
  rw [if_pos (show L.askr f f s 0 = 0 from askr_ok (k := 0) hc hf hf hs (st_six hc).2.2.2.2.2), List.length_map, if_neg (by omega), chain_lead hch, if_neg (by simp), hp_hi]
  cases stkF L l 0 <;> rfl
theorem prvR_at {L : Land} {f s u t : Nat} {l : List Hp} (hc : L.chk = 0) (hf : f < L.st.length) (hs : s ≤ L.sn.length) (hu : u ≤ L.sn.length) (hch : chain L.st.length L.sn.length f s l) (h12 : l.length ≤ 12) (ht : endR f l = t) :
    Land.prvR L f t s (l.map Hp.hi) u = ((stkF L l 0).isNone && decide (arrA s l ≤ u)) := by
  have h1 : okr L [(f : Int), (t : Int)] [(s : Int), (u : Int)] 0 = true := by
    have h2 := chain_end hf hch
    rw [ht] at h2
    have h3 := (st_six hc).2.2.2.2.2
    unfold okr
    simp only [List.all_cons, List.all_nil, Bool.and_true, Bool.and_eq_true, inB_iff]
    refine ⟨⟨⟨?_, ?_⟩, ?_, ?_⟩, ⟨⟨?_, ?_⟩, ?_, ?_⟩, ?_, ?_⟩ <;> omega
  unfold Land.prvR
  rw [decide_eq_true hc, h1, List.length_map, decide_eq_true h12, chain_lead hch, ht, decide_eq_true rfl, hp_hi, arrF_hp, Bool.true_and, Bool.true_and, Bool.true_and, Bool.true_and]
  congr 1
  exact decide_eq_decide.2 (by omega)
/-- What a walk knows of a route: where it leads, when it arrives. -/
theorem rArr_hp {s : Nat} {l : List Hp} {a : Option Addr} {c n e f : Nat} {w : World} (hl : HopsAt w a l) (hf : f < n) (hch : chain n e f s l) (h12 : l.length ≤ 12) (he : e ≤ 12) :
    Calls Tryz.prog 31 #[.int .i64 s, .slice a l.length c] w (Ret (.int .i64 ((arrA s l : Nat) : Int)) w) := by
  have h := rArrives_any s (l.map Hp.hi) a c w (hops_his hl) (by rw [List.length_map]; omega) fun p hp => by
    obtain ⟨y, hy, rfl⟩ := List.mem_map.1 hp
    have := (chain_mem hf hch y hy).2.2
    show (0 : Int) ≤ (y.hr : Int) ∧ (y.hr : Int) ≤ 1000
    omega
  rw [List.length_map, arrF_hp] at h
  exact h
theorem rIs_hp {q : LV} {L : Land} {f s : Nat} {l : List Hp} {a : Option Addr} {c : Nat} {w : World} (hc : L.chk = 0) (hl : HopsAt w a l) (hch : chain L.st.length L.sn.length f s l) (h12 : l.length ≤ 12) :
    Calls Tryz.prog 30 #[landV q L, .int .i64 f, .int .i64 s, .slice a l.length c] w (Ret (.tuple #[.int .i64 ((endR f l : Nat) : Int), .bool true]) w) := by
  have h := rIsRoute_any q L f s (l.map Hp.hi) a c w hc (hops_his hl) (by rw [List.length_map]; omega)
  rw [List.length_map, chain_lead hch, isrV, show (some ((endR f l : Nat) : Int)).getD 0 = ((endR f l : Nat) : Int) from rfl, show (some ((endR f l : Nat) : Int)).isSome = true from rfl, decide_eq_true h12, Bool.and_self] at h
  exact h
theorem convR_hp {l : List Hp} {a : Option Addr} {c : Nat} {w : World} (hl : HopsAt w a l) (h12 : l.length ≤ 12) :
    Calls Tryz.prog 39 #[.slice a l.length c] w (fun e w' => ∃ a' c', e = .returned (.slice a' l.length c') ∧ Below w.heap.size w w' ∧ HopsAt w' a' l) := by
  have h := convR_any (l.map Hp.hi) a c w (hops_his hl) (by rw [List.length_map]; omega)
  rw [List.length_map] at h
  refine h.mono ?_
  rintro e w' ⟨v, rfl, hb, hO⟩
  obtain ⟨a', c', rfl, hi⟩ := his_of hO
  exact ⟨a', c', by rw [List.length_map], hb, his_hops hi⟩
theorem convB_hp {l : List Hp} {a : Option Addr} {c : Nat} {w : World} (hl : HopsAt w a l) (h12 : l.length ≤ 12) :
    Calls Tryz.prog 45 #[.slice a l.length c] w (fun e w' => ∃ a' c', e = .returned (.slice a' l.length c') ∧ Below w.heap.size w w' ∧ HopsAt w' a' l) := by
  have h := convB_any (l.map Hp.hi) a c w (hops_his hl) (by rw [List.length_map]; omega)
  rw [List.length_map] at h
  refine h.mono ?_
  rintro e w' ⟨v, rfl, hb, hO⟩
  obtain ⟨a', c', rfl, hi⟩ := his_of hO
  exact ⟨a', c', by rw [List.length_map], hb, his_hops hi⟩
theorem prove_hp {q : LV} {L : Land} {f t s : Nat} {u : Int} {l : List Hp} {a : Option Addr} {c : Nat} {w : World} (hL : LandAt w q L) (hs : Small L) (hl : HopsAt w a l) (h12 : l.length ≤ 12) {b : Bool} (hb : Land.prvR L f t s (l.map Hp.hi) u = b) :
    Calls Tryz.prog 38 #[landV q L, .int .i64 f, .int .i64 t, .int .i64 s, .slice a l.length c, .int .i64 u] w (Ret (.bool b) w) := by
  have h := ProveRoute_any q L f t s (l.map Hp.hi) a c u w hL hs (hops_his hl) (by rw [List.length_map]; omega)
  rw [List.length_map, hb] at h
  exact h
theorem stick_hp {q : LV} {L : Land} {f s : Nat} {l : List Hp} {a : Option Addr} {c : Nat} {w : World} {x : Int × Int × Int} (hL : LandAt w q L) (hs : Small L) (hl : HopsAt w a l) (h12 : l.length ≤ 12) (hx : Land.sticE L f s (l.map Hp.hi) = x) :
    Calls Tryz.prog 44 #[landV q L, .int .i64 f, .int .i64 s, .slice a l.length c] w (Ret (.tuple #[.int .i64 x.1, .int .i64 x.2.1, .int .i64 x.2.2]) w) := by
  have h := Stick_any q L f s (l.map Hp.hi) a c w hL hs (hops_his hl) (by rw [List.length_map]; omega)
  rw [List.length_map, hx] at h
  exact h
end Go.Proofs.YtfihdaoakfdlpaaGreat
