/- The plain mathematics of layer 3: the table of the earliest hours proves, and is the greatest that does. No program. -/
import Derived.Test.YtingfmdbihbamaaGreatRPlain7
namespace Go.Hill

def Land.own (L : Land) (f s k : Nat) : List Int := (List.range L.st.length).map fun x => L.hat f s k (-1) x
theorem own_tbl {L : Land} {f s k x : Nat} (hx : x < L.st.length) : tbl (L.own f s k) x = L.hat f s k (-1) x := by
  unfold tbl Land.own
  rw [List.getElem?_map, List.getElem?_range hx]; rfl
theorem own_proves {L : Land} {f s k : Nat} (hf : f < L.st.length) (hs : s ≤ L.sn.length) : L.prvB f s k (L.own f s k) = true := by
  have hl : (L.own f s k).length = L.st.length := by unfold Land.own; simp
  have hse : s ≤ (L.rel k (-1)).e := hs
  have hall : ((L.own f s k).all fun x => inB x 0 ((L.sn.length : Int) + 1)) = true := by
    refine List.all_eq_true.2 fun y hy => ?_
    obtain ⟨x, hx, rfl⟩ := List.mem_map.1 hy
    have h1 : (s : Int) ≤ L.hat f s k (-1) x ∧ L.hat f s k (-1) x ≤ (L.sn.length : Int) + 1 := Rel.hat_bd (r := L.rel k (-1)) (f := f) hse x
    simp only [inB, decide_eq_true_eq]
    omega
  have hcl : closB (fun a b h => L.can a b k h) L.st.length L.sn.length (tbl (L.own f s k)) = true := closB_iff.2 fun a ha h b h1 h2 h3 h4 => by
    rw [own_tbl ha] at h1
    rw [own_tbl h3]
    exact Rel.hat_closed (r := L.rel k (-1)) (f := f) hse a b h ha h3 (by show (a : Int) ≠ -1; omega) (by show (b : Int) ≠ -1; omega) h1 h2 h4
  rw [prv_end hl hall hcl, own_tbl hf]
  have : L.hat f s k (-1) f = s := Rel.hat_from
  rw [this]; simp
theorem other_le {L : Land} {f s k : Nat} {l : List Int} (hf : f < L.st.length) (hs : s ≤ L.sn.length) (h : L.prvB f s k l = true) : l.length = L.st.length ∧ ∀ x, x < L.st.length → tbl l x ≤ L.hat f s k (-1) x := by
  unfold Land.prvB at h
  simp only [Bool.and_eq_true, decide_eq_true_eq] at h
  obtain ⟨h1, h2, h3, h4⟩ := h
  refine ⟨h1, Rel.hat_le (r := L.rel k (-1)) (t := tbl l) hf (fun a b h ha hb _ _ h5 h6 h7 => closB_iff.1 h3 a ha h b h5 h6 hb h7) h4 (fun x hx => ?_) hs⟩
  exact (all_bd h2 (by rw [h1]; exact hx)).2
end Go.Hill
