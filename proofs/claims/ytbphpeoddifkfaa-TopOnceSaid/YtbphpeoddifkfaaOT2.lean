/- What the statement's walk wants: lists grown side by side; new lists; what calls are good for. -/
import Derived.Test.YtbphpeoddifkfaaOT1
open Go.RowKit Go.Shelf
namespace Go.Proofs.Ytbphpeoddifkfaa
open Go.Once

/-- As wpList_grow, and where the new row lies. -/
theorem wpList_grow2 {P : Program} {ops : Array Oper} {rest : List Oper} {o : Oper} {a : Act} {W : World} {Q : Exit → Act → World → Prop} (hgd : o.guard = none) (s x : Operand) (t : TypeId)
    (ho : o.op = .call { callee := .builtin .append, args := #[s, x], argTypes := #[t, t] })
    {base : Nat} {E : TypeId} {size bytes : Nat} (he : Elem P t E size bytes) {v : Value} {xs : List (List Value)} (hs : a.eval s = v) (hown : Own W base E size v xs)
    {g c : Nat} {cells : Array Value} (hx : a.eval x = .slice (some ⟨g, 0, none⟩) 1 c) (hB : Box W g cells E) (hsz : cells.size = size) (h0 : 0 < size) (h1 : cells.toList.all (·.oneCell') = true)
    {n : Nat} (hnn : xs.length = n) (hn : n ≤ 1000) (hby : bytes ≤ 1000) (hbase : base ≤ W.heap.size)
    (h : ∀ a' c' W', Own W' base E size (.slice a' (n + 1) c') (xs ++ [cells.toList]) → Below base W W' → W.grownBy W' v.ownBlock → (∀ g, (Value.slice a' (n + 1) c').ownBlock = some g → v.ownBlock = some g ∨ W.heap.size ≤ g) →
      wpList P ops Q rest (a.put o.dst (.slice a' (n + 1) c')) W') : wpList P ops Q (o :: rest) a W := by
  subst hnn
  obtain ⟨i, z, hi, hz, i1, i2, i3⟩ := he.get
  refine wpList_append_lies W hgd s x t ho base E i z size bytes he.ht hi hz i1 i2 i3 h0 v xs.length xs.flatten hs hown.1 ⟨g, 0, none⟩ 1 c cells.toList hx (by simp [hsz]) (World.news_of_block hB) (fun u hu => List.all_eq_true.1 h1 u hu) (by omega) (by unfold maxLen; omega) ?_ hbase _ rfl ?_
  · have : (xs.length + 1) * bytes ≤ 1001 * 1000 := Nat.mul_le_mul (by omega) hby
    omega
  · intro g' cap w' h2 h3 h4 h5
    refine h _ _ _ ⟨?_, ?_⟩ (below_grown h3 hbase fun k hk => (hown.1.lt k hk).1) h3 (fun k hk => ?_)
    · simpa using h2
    · intro y hy
      rcases List.mem_append.1 hy with hy | hy
      · exact hown.2 y hy
      · simp at hy; subst hy; simpa using hsz
    · cases hk
      rcases h4 with h4 | h4
      · exact .inl h4
      · exact .inr (show W.heap.size ≤ g' by omega)

/-! ### Two lists that grow side by side -/
def Two (W : World) (base : Nat) (v1 : Value) (xs1 : List (List Value)) (v2 : Value) (xs2 : List (List Value)) : Prop :=
  Own W base 23 1 v1 xs1 ∧ Own W base 23 1 v2 xs2 ∧ ∀ g, v1.ownBlock = some g → v2.ownBlock ≠ some g
section
variable {W W' : World} {base : Nat} {v1 v2 : Value} {xs1 xs2 : List (List Value)}
theorem Two.nil (W : World) (base : Nat) : Two W base (.slice none 0 0) [] (.slice none 0 0) [] := ⟨Own.nil _ _ _ _, Own.nil _ _ _ _, fun g hg => by cases hg⟩
theorem Two.later (h : Two W base v1 xs1 v2 xs2) (hb : Below W.heap.size W W') : Two W' base v1 xs1 v2 xs2 := ⟨h.1.later hb, h.2.1.later hb, h.2.2⟩
theorem Two.swap (h : Two W base v1 xs1 v2 xs2) : Two W base v2 xs2 v1 xs1 := ⟨h.2.1, h.1, fun g h1 h2 => h.2.2 g h2 h1⟩
theorem Two.grow (h : Two W base v1 xs1 v2 xs2) {v' : Value} {xs' : List (List Value)} (ho : Own W' base 23 1 v' xs') (hg : W.grownBy W' v1.ownBlock) (hn : ∀ g, v'.ownBlock = some g → v1.ownBlock = some g ∨ W.heap.size ≤ g) :
    Two W' base v' xs' v2 xs2 := by
  refine ⟨ho, h.2.1.turn fun k hk => hg.block k (h.2.1.1.lt k hk).2 fun he => h.2.2 k he.symm hk, fun g h1 h2 => ?_⟩
  rcases hn g h1 with h3 | h3
  · exact h.2.2 g h3 h2
  · have := (h.2.1.1.lt g h2).2
    omega
end

def emptySpec (E : TypeId) : Fat.Spec := fun v lo hi w => v = .slice (some ⟨lo, 0, none⟩) 0 0 ∧ lo < hi ∧ Box w lo #[] E
theorem emptySpec_lasting (E : TypeId) : Fat.Lasting (emptySpec E) := fun _ _ _ _ _ hb _ h => ⟨h.1, h.2.1, h.2.2.later hb⟩
theorem emptySpec_new (E : TypeId) (w : World) : Below w.heap.size w (w.alloc (.cells #[] E)) ∧ emptySpec E (.slice (some ⟨w.heap.size, 0, none⟩) 0 0) w.heap.size (w.heap.size + 1) (w.alloc (.cells #[] E)) :=
  ⟨al (Below.refl _ _) _, rfl, by simp, Box.new w _ E⟩

/-! ### What the calls are good for -/
def bookSp (b : Bk) : Fat.Spec := fun v _ _ w => ∃ q : BV, v = bookV q b ∧ BookAt w q b
theorem bookSp_lasting (b : Bk) : Fat.Lasting (bookSp b) := fun _ _ _ _ _ hb _ ⟨q, h1, h2⟩ => ⟨q, h1, h2.later hb⟩
def postSp (p : Ps) : Fat.Spec := fun v _ _ w => ∃ q : PV, v = postV q p ∧ PostAt w q p
theorem postSp_lasting (p : Ps) : Fat.Lasting (postSp p) := fun _ _ _ _ _ hb _ ⟨q, h1, h2⟩ => ⟨q, h1, h2.later hb⟩
def truthSp (p : Ps) : Fat.Spec := fun v _ _ w => ∃ a c vs t, v = .slice a vs.length c ∧ TruthAt w a vs t ∧ Shaped p t
theorem truthSp_lasting (p : Ps) : Fat.Lasting (truthSp p) := fun _ _ _ _ _ hb _ ⟨a, c, vs, t, h1, h2, h3⟩ => ⟨a, c, vs, t, h1, h2.later hb, h3⟩
/-- A journal, and how it is told. -/
def jourSp (p : Ps) (f : Value → Value) : Fat.Spec := fun v _ _ w => ∃ a c t, v = f (.slice a (journal p t).length c) ∧ RowAt w a 3 ((journal p t).map Ent.vs) ∧ Shaped p t
theorem jourSp_lasting (p : Ps) (f : Value → Value) : Fat.Lasting (jourSp p f) := fun _ _ _ _ _ hb _ ⟨a, c, t, h1, h2, h3⟩ => ⟨a, c, t, h1, h2.later hb, h3⟩
def listSp (n0 : Nat) (l : List Int) (f : Value → Value) : Fat.Spec := fun v _ _ w => ∃ a c, v = f (.slice a l.length c) ∧ Own w n0 3 1 (.slice a l.length c) (ivs l)
theorem listSp_lasting (n0 : Nat) (l : List Int) (f : Value → Value) : Fat.Lasting (listSp n0 l f) := fun _ _ _ _ _ hb _ ⟨a, c, h1, h2⟩ => ⟨a, c, h1, h2.later hb⟩
def decSp (l : List Int) (f : Value → Value → Value) : Fat.Spec := fun v _ _ w => ∃ a c u, v = f (.slice a l.length c) u ∧ IntsAt w a l
theorem decSp_lasting (l : List Int) (f : Value → Value → Value) : Fat.Lasting (decSp l f) := fun _ _ _ _ _ hb _ ⟨a, c, u, h1, h2⟩ => ⟨a, c, u, h1, RowAt.later h2 hb⟩
theorem small_of {p : Ps} (ho : p.Ok) {vs : List TV} {t : List (List (List Int))} (h : vs.map TV.told = t) (hs : Shaped p t) : Small5 vs := by
  have h1 : ∀ x ∈ vs, OkRow p.routes x.told := fun x hx => hs.2 x.told (by rw [← h]; exact List.mem_map_of_mem hx)
  refine ⟨?_, fun x hx => ?_, fun x hx y hy => ?_⟩
  · have h2 := hs.1
    have h3 := ho.s4
    rw [← h] at h2; simp at h2; omega
  · have h2 := (h1 x hx).1
    have h3 := ho.r3
    simp [TV.told] at h2; omega
  · obtain ⟨k, hk⟩ := List.getElem?_of_mem hy
    have h2 := (h1 x hx).1
    simp [TV.told] at h2
    have hkl := (List.getElem?_eq_some_iff.1 hk).1
    obtain ⟨r, hr⟩ : ∃ r, p.routes[k]? = some r := ⟨p.routes[k]'(by omega), by simp⟩
    have h3 := (h1 x hx).2 k r y.xs hr (by simp [TV.told, hk])
    have h4 := (ho.routes r (List.mem_of_getElem? hr)).l3
    rcases h3 with ⟨_, h3⟩ | ⟨h3, _⟩
    · rw [h3]; simp
    · omega
end Go.Proofs.Ytbphpeoddifkfaa
