/- The plain mathematics of layer 3: routes that come in; a dispatch that is at home. No program. -/
import Derived.Test.YtingfmdbihbamaaGreatRPlain9
import Derived.Test.YtingfmdbihbamaaGreatRPl
namespace Go.Hill

def Hi.hp (x : Hi) : Hp := ⟨x.fr.toNat, x.ta.toNat, x.hr.toNat⟩
theorem hp_hi (l : List Hp) : (l.map Hp.hi).map Hi.hp = l := by
  rw [List.map_map]
  exact List.map_id' l
/-- When a list arrives. -/
def arrF (s : Int) (l : List Hi) : Int := match l.getLast? with
  | none => s
  | some p => p.hr + 1
theorem arrF_nil {s : Int} : arrF s [] = s := rfl
theorem arrF_last {s : Int} {l : List Hi} {p : Hi} (h : l[l.length - 1]? = some p) : arrF s l = p.hr + 1 := by
  unfold arrF
  rw [List.getLast?_eq_getElem?, h]
theorem arrA_last {l : List Hp} : ∀ {s : Nat}, (arrA s l : Nat) = match l.getLast? with | none => s | some p => p.hr + 1 := by
  induction l with
  | nil => intro s; rfl
  | cons p l ih =>
    intro s
    show arrA (p.hr + 1) l = _
    rw [ih]
    cases l with
    | nil => rfl
    | cons q l => simp [List.getLast?_cons]
theorem arrF_hp {s : Nat} {l : List Hp} : arrF s (l.map Hp.hi) = (arrA s l : Nat) := by
  unfold arrF
  rw [arrA_last, List.getLast?_map]
  cases l.getLast? with
  | none => rfl
  | some p => show (p.hr : Int) + 1 = _; push_cast; rfl
theorem chain_arr {n e : Nat} : ∀ {l : List Hp} {a h : Nat}, h ≤ e → chain n e a h l → h ≤ arrA h l ∧ arrA h l ≤ e := by
  intro l
  induction l with
  | nil => intro a h he _; exact ⟨Nat.le_refl _, he⟩
  | cons p l ih =>
    intro a h he ⟨h1, h2, h3, h4, h5⟩
    have := ih (by omega) h5
    show h ≤ arrA (p.hr + 1) l ∧ _
    exact ⟨by omega, this.2⟩
theorem chain_end {n e : Nat} : ∀ {l : List Hp} {a h : Nat}, a < n → chain n e a h l → endR a l < n := by
  intro l
  induction l with
  | nil => intro a h he _; exact he
  | cons p l ih =>
    intro a h he ⟨h1, h2, h3, h4, h5⟩
    exact ih h4 h5

/-! ### At home -/
theorem sur_home {L : Land} {f s : Nat} (hc : 0 < L.cs.length) : L.sur f f s (-1) = ((s : Int), 0) := by
  have h : ∀ n, 0 < n → surF (fun k => L.hat f s k (-1) f) n = ((s : Int), 0) := by
    intro n
    induction n with
    | zero => intro h; omega
    | succ n ih =>
      intro _
      have hg : L.hat f s n (-1) f = s := Rel.hat_from
      unfold surF
      cases n with
      | zero =>
        rw [show surF (fun k => L.hat f s k (-1) f) 0 = (-1, 0) from rfl]
        rw [if_pos (by simp only [hg]; omega)]
        simp only [hg]
      | succ n =>
        rw [ih (by omega), if_neg (by simp only [hg]; omega)]
  exact h _ hc
theorem surx_home {L : Land} {f s : Nat} {i : Int} (hs : s ≤ L.sn.length) : (L.sur f f s i).1 ≤ (L.sn.length : Int) := by
  rcases surF_cases (fun k => L.hat f s k i f) L.cs.length with ⟨h1, _⟩ | ⟨_, h1, _⟩
  · unfold Land.sur; rw [h1]; simp only; omega
  · unfold Land.sur; rw [h1, show L.hat f s _ i f = s from Rel.hat_from]; omega
theorem vit_home {L : Land} {f s : Nat} (hs : s ≤ L.sn.length) : L.vit f f s = [] := by
  unfold Land.vit
  rw [sel_nil]
  intro k _
  have := surx_home (L := L) (f := f) (i := k) hs
  simp; omega
theorem lat_home {L : Land} {f u : Nat} (hc : 0 < L.cs.length) : L.lat f f u = u := by
  unfold Land.lat lastF
  rw [if_pos (by rw [sur_home hc]; simp)]
theorem route_home {L : Land} {f s : Nat} (hs : s ≤ L.sn.length) : L.route f f s = some ([], s) := by
  have hb : L.best f f s s = some [] := by
    unfold Land.best
    rw [Nat.sub_self]
    unfold bestF
    rw [if_pos rfl]
  rcases route_cases (L := L) (f := f) (t := f) hs with ⟨_, h⟩ | ⟨l, u, h1, h2, h3, h4, h5⟩
  · rw [h s (Nat.le_refl _) hs] at hb; cases hb
  · by_cases he : u = s
    · subst he; rw [h4] at hb; cases hb; exact h1
    · rw [h5 s (Nat.le_refl _) (by omega)] at hb; cases hb

/-! ### A route, and the table of its case -/
theorem chain_hat {L : Land} {f s k : Nat} (hs : s ≤ L.sn.length) : ∀ {l : List Hp} {a h : Nat}, a < L.st.length → L.hat f s k (-1) a ≤ h → chain L.st.length L.sn.length a h l → (∀ p ∈ l, L.can p.fr p.ta k p.hr = true) → L.hat f s k (-1) (endR a l) ≤ arrA h l := by
  intro l
  induction l with
  | nil => intro a h _ hh _ _; exact hh
  | cons p l ih =>
    intro a h ha hh ⟨h1, h2, h3, h4, h5⟩ hc
    subst h1
    have hcl := Rel.hat_closed (r := L.rel k (-1)) (f := f) (s := s) hs
    have h6 : L.hat f s k (-1) p.ta ≤ (p.hr : Int) + 1 := hcl p.fr p.ta p.hr ha h4 (by show (p.fr : Int) ≠ -1; omega) (by show (p.ta : Int) ≠ -1; omega) (by show L.hat f s k (-1) p.fr ≤ _; omega) h3 (hc p (by simp))
    exact ih h4 (by push_cast; exact h6) h5 fun q hq => hc q (by simp [hq])
theorem alws_stick {L : Land} {a b h : Nat} : L.alws a b h = true ↔ L.stick a b h = L.cs.length := by
  unfold Land.alws Land.stick
  rw [List.all_eq_true]
  rcases firstNot_cases (fun k => L.can a b k h) L.cs.length with ⟨g1, g2, g3⟩ | ⟨g1, g2⟩
  · constructor
    · intro h1
      have h2 := h1 _ (by simpa using g1)
      exact absurd (h2.symm.trans g2) (by decide)
    · intro h1; omega
  · exact ⟨fun _ => g1, fun _ k hk => g2 k (by simpa using hk)⟩
theorem chain_okP {L : Land} : ∀ {l : List Hp} {a h : Nat}, chain L.st.length L.sn.length a h l → (∀ p ∈ l, L.stick p.fr p.ta p.hr = L.cs.length) → okP L.alws L.st.length (endR a l) a h l := by
  intro l
  induction l with
  | nil => intro a h _ _; rfl
  | cons p l ih =>
    intro a h ⟨h1, h2, h3, h4, h5⟩ hc
    have := hc p (by simp)
    exact ⟨h1, h2, h4, by subst h1; exact alws_stick.2 this, ih h5 fun q hq => hc q (by simp [hq])⟩
theorem okP_chain {L : Land} {ta : Nat} : ∀ {l : List Hp} {a h : Nat}, okP L.alws L.st.length ta a h l → arrA h l ≤ L.sn.length → chain L.st.length L.sn.length a h l ∧ endR a l = ta ∧ ∀ p ∈ l, L.stick p.fr p.ta p.hr = L.cs.length := by
  intro l
  induction l with
  | nil => intro a h h1 _; exact ⟨trivial, h1, fun p hp => by cases hp⟩
  | cons p l ih =>
    intro a h ⟨h1, h2, h3, h4, h5⟩ hA
    have h6 := okP_len h5
    have hA' : arrA (p.hr + 1) l ≤ L.sn.length := hA
    obtain ⟨g1, g2, g3⟩ := ih h5 hA'
    refine ⟨⟨h1, h2, by omega, h3, g1⟩, g2, fun q hq => ?_⟩
    rcases List.mem_cons.1 hq with rfl | hq
    · subst h1; exact alws_stick.1 h4
    · exact g3 q hq
theorem stkF_iff {L : Land} : ∀ {l : List Hp} {i : Nat}, stkF L l i = none ↔ ∀ p ∈ l, L.stick p.fr p.ta p.hr = L.cs.length := by
  intro l
  induction l with
  | nil => intro i; simp [stkF]
  | cons p l ih =>
    intro i
    unfold stkF
    by_cases h : L.stick p.fr p.ta p.hr = L.cs.length
    · rw [if_pos h, ih]
      simp [h]
    · rw [if_neg h]
      simp [h]
theorem stkF_some {L : Land} {l : List Hp} {i k : Nat} (h : stkF L l 0 = some (i, k)) : ∃ p, l[i]? = some p ∧ k = L.stick p.fr p.ta p.hr ∧ k < L.cs.length ∧ L.can p.fr p.ta k p.hr = false ∧ (∀ x q, x < i → l[x]? = some q → L.stick q.fr q.ta q.hr = L.cs.length) ∧ ∀ x, x < k → L.can p.fr p.ta x p.hr = true := by
  have key : ∀ (l : List Hp) (j : Nat), stkF L l j = some (i, k) → ∃ x p, i = j + x ∧ l[x]? = some p ∧ k = L.stick p.fr p.ta p.hr ∧ L.stick p.fr p.ta p.hr ≠ L.cs.length ∧ ∀ y q, y < x → l[y]? = some q → L.stick q.fr q.ta q.hr = L.cs.length := by
    intro l
    induction l with
    | nil => intro j h; cases h
    | cons p l ih =>
      intro j h
      unfold stkF at h
      split at h
      · rename_i h1
        obtain ⟨x, q, h2, h3, h4, h5, h6⟩ := ih _ h
        refine ⟨x + 1, q, by omega, by simpa using h3, h4, h5, fun y r hy hr => ?_⟩
        cases y with
        | zero => simp at hr; subst hr; exact h1
        | succ y => exact h6 y r (by omega) (by simpa using hr)
      · rename_i h1
        injection h with h
        injection h with h2 h3
        exact ⟨0, p, by omega, rfl, h3.symm, h1, fun y q hy => by omega⟩
  obtain ⟨x, p, h1, h2, h3, h4, h5⟩ := key l 0 h
  have : i = x := by omega
  subst this
  rcases firstNot_cases (fun k => L.can p.fr p.ta k p.hr) L.cs.length with ⟨g1, g2, g3⟩ | ⟨g1, _⟩
  · exact ⟨p, h2, h3, by rw [h3]; exact g1, by rw [h3]; exact g2, h5, by rw [h3]; exact g3⟩
  · exact absurd g1 h4
end Go.Hill
