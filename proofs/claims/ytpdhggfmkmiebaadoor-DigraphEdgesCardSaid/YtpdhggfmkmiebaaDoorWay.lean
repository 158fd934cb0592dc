/- Ways in a graph, in plain Lean: what a search from a node finds; that going through by every node in turn finds the same. -/
import Derived.Test.YtpdhggfmkmiebaaDoorRch
namespace Go.Proofs.YtpdhggfmkmiebaaDoor

/-- there is a way from a to b, along one edge or more -/
inductive Way (ns : List (Nat × Nat)) : Nat → Nat → Prop
  | one {a b : Nat} (h : (a, b) ∈ ns) : Way ns a b
  | more {a b c : Nat} (h : Way ns a b) (e : (b, c) ∈ ns) : Way ns a c
theorem Way.trans {ns : List (Nat × Nat)} {a b c : Nat} (h : Way ns a b) (k : Way ns b c) : Way ns a c := by
  induction k with
  | one e => exact .more h e
  | more _ e ih => exact .more ih e
theorem Way.end_lt {ns : List (Nat × Nat)} {n a b : Nat} (hn : ∀ e ∈ ns, e.2 < n) (h : Way ns a b) : b < n := by
  cases h with
  | one e => exact hn _ e
  | more _ e => exact hn _ e
theorem Way.start_lt {ns : List (Nat × Nat)} {n a b : Nat} (hn : ∀ e ∈ ns, e.1 < n) (h : Way ns a b) : a < n := by
  induction h with
  | one e => exact hn _ e
  | more _ _ ih => exact ih
/-- a way begins with an edge -/
theorem Way.first {ns : List (Nat × Nat)} {a c : Nat} (h : Way ns a c) : (a, c) ∈ ns ∨ ∃ b, (a, b) ∈ ns ∧ Way ns b c := by
  induction h with
  | one e => exact .inl e
  | @more b c h e ih =>
    rcases ih with ih | ⟨d, hd, hw⟩
    · exact .inr ⟨b, ih, .one e⟩
    · exact .inr ⟨d, hd, .more hw e⟩

/-! ### Warshall -/
theorem aheadF_bit (ns : List (Nat × Nat)) (x y : Nat) : (aheadF ns y).testBit x = true ↔ (x, y) ∈ ns := by
  unfold aheadF
  suffices h : ∀ (l : List (Nat × Nat)) (s : Nat), (l.foldl (fun s e => if e.2 = y then s ||| 2 ^ e.1 else s) s).testBit x = true ↔ s.testBit x = true ∨ (x, y) ∈ l by
    rw [h]; simp
  intro l
  induction l with
  | nil => intro s; simp
  | cons e r ih =>
    intro s
    rw [List.foldl_cons, ih, List.mem_cons]
    obtain ⟨u, v⟩ := e
    by_cases hv : v = y
    · subst hv
      rw [if_pos rfl, Nat.testBit_or, Nat.testBit_two_pow]
      simp only [Bool.or_eq_true, decide_eq_true_eq, Prod.mk.injEq, and_true]
      constructor
      · rintro ((h | h) | h)
        · exact .inl h
        · exact .inr (.inl h.symm)
        · exact .inr (.inr h)
      · rintro (h | h | h)
        · exact .inl (.inl h)
        · exact .inl (.inr h.symm)
        · exact .inr h
    · rw [if_neg hv]
      simp only [Prod.mk.injEq]
      constructor
      · rintro (h | h)
        · exact .inl h
        · exact .inr (.inr h)
      · rintro (h | ⟨_, h⟩ | h)
        · exact .inl h
        · exact absurd h.symm hv
        · exact .inr h
theorem outF_bit (ns : List (Nat × Nat)) (x y : Nat) : (outF ns x).testBit y = true ↔ (x, y) ∈ ns := by
  unfold outF swapE
  rw [aheadF_bit]
  simp only [List.mem_map, Prod.mk.injEq]
  constructor
  · rintro ⟨⟨u, v⟩, h, rfl, rfl⟩; exact h
  · intro h; exact ⟨(x, y), h, rfl, rfl⟩

/-- a way whose inner nodes are all below k -/
inductive WayB (ns : List (Nat × Nat)) (k : Nat) : Nat → Nat → Prop
  | one {a b : Nat} (h : (a, b) ∈ ns) : WayB ns k a b
  | more {a b c : Nat} (h : WayB ns k a b) (hb : b < k) (e : WayB ns k b c) : WayB ns k a c
theorem WayB.mono {ns : List (Nat × Nat)} {k m a b : Nat} (h : WayB ns k a b) (hk : k ≤ m) : WayB ns m a b := by
  induction h with
  | one e => exact .one e
  | more _ hb _ ih1 ih2 => exact .more ih1 (by omega) ih2
theorem WayB.way {ns : List (Nat × Nat)} {k a b : Nat} (h : WayB ns k a b) : Way ns a b := by
  induction h with
  | one e => exact .one e
  | more _ _ _ ih1 ih2 => exact ih1.trans ih2
theorem WayB.of_way {ns : List (Nat × Nat)} {n a b : Nat} (hn : ∀ e ∈ ns, e.2 < n) (h : Way ns a b) : WayB ns n a b := by
  induction h with
  | one e => exact .one e
  | more h e ih => exact .more ih (h.end_lt hn) (.one e)
/-- a way by nodes below k + 1 either needs k not, or goes by k once -/
theorem WayB.split {ns : List (Nat × Nat)} {k a b : Nat} (h : WayB ns (k + 1) a b) : WayB ns k a b ∨ WayB ns k a k ∧ WayB ns k k b := by
  induction h with
  | one e => exact .inl (.one e)
  | @more a m c _ hm _ ih1 ih2 =>
    by_cases e : m = k
    · subst e
      refine .inr ⟨?_, ?_⟩
      · rcases ih1 with h | h
        · exact h
        · exact h.1
      · rcases ih2 with h | h
        · exact h
        · exact h.2
    · have hm' : m < k := by omega
      rcases ih1 with h1 | h1 <;> rcases ih2 with h2 | h2
      · exact .inl (.more h1 hm' h2)
      · exact .inr ⟨.more h1 hm' h2.1, h2.2⟩
      · exact .inr ⟨h1.1, .more h1.2 hm' h2⟩
      · exact .inr ⟨h1.1, h2.2⟩
theorem viaF_bit (ns : List (Nat × Nat)) : ∀ (k a b : Nat), (viaF ns k a).testBit b = true ↔ WayB ns k a b
  | 0, a, b => by
    rw [viaF, outF_bit]
    constructor
    · exact .one
    · intro h
      cases h with
      | one e => exact e
      | more _ hb _ => omega
  | k + 1, a, b => by
    unfold viaF stepK
    have ih := viaF_bit ns k
    by_cases hk : (viaF ns k a).testBit k = true
    · rw [if_pos hk, Nat.testBit_or, Bool.or_eq_true, ih, ih]
      rw [ih] at hk
      constructor
      · rintro (h | h)
        · exact h.mono (by omega)
        · exact .more (hk.mono (by omega)) (by omega) (h.mono (by omega))
      · intro h
        rcases h.split with h | h
        · exact .inl h
        · exact .inr h.2
    · rw [if_neg hk, ih]
      rw [ih] at hk
      constructor
      · intro h; exact h.mono (by omega)
      · intro h
        rcases h.split with h | h
        · exact h
        · exact absurd h.1 hk
/-- WHAT Reach WORKS OUT ARE THE WAYS -/
theorem viaF_way {n : Nat} {ns : List (Nat × Nat)} (hn : ∀ e ∈ ns, e.2 < n) (a b : Nat) : (viaF ns n a).testBit b = true ↔ Way ns a b := by
  rw [viaF_bit]
  exact ⟨WayB.way, WayB.of_way hn⟩

/-! ### a search from a node -/
/-- how many below n are not marked -/
def lack (f : Nat → Bool) : Nat → Nat
  | 0 => 0
  | k + 1 => lack f k + (if f k then 0 else 1)
def mark (f : Nat → Bool) (y j : Nat) : Bool := if j = y then true else f j
theorem lack_none (n : Nat) : lack (fun _ => false) n = n := by
  induction n with
  | zero => rfl
  | succ k ih => simp [lack, ih]
theorem lack_same {f : Nat → Bool} {y : Nat} : ∀ {n}, n ≤ y → lack (mark f y) n = lack f n
  | 0, _ => rfl
  | k + 1, h => by
    have hm : mark f y k = f k := if_neg (by omega)
    unfold lack
    rw [lack_same (by omega), hm]
theorem lack_mark {f : Nat → Bool} {y : Nat} (hf : f y = false) : ∀ {n}, y < n → lack (mark f y) n + 1 = lack f n
  | 0, h => absurd h (by omega)
  | k + 1, h => by
    unfold lack
    by_cases e : y = k
    · subst e
      rw [lack_same (Nat.le_refl _), hf]
      simp [mark]
    · have ih := lack_mark hf (n := k) (by omega)
      have hm : mark f y k = f k := if_neg (by omega)
      rw [hm]
      omega

/-- what holds between two rounds of the search: the marked ones are reached; whoever is not in the list has handed on -/
structure Found (ns : List (Nat × Nat)) (a : Nat) (f : Nat → Bool) (q : List Nat) (done : Nat → Prop) : Prop where
  way : ∀ j, f j = true → Way ns a j
  ask : ∀ x ∈ q, x = a ∨ Way ns a x
  on : ∀ z, (z = a ∨ f z = true) → z ∈ q ∨ done z ∨ ∀ y, (z, y) ∈ ns → f y = true
theorem Found.start (ns : List (Nat × Nat)) (a : Nat) : Found ns a (fun _ => false) [a] (fun _ => False) :=
  ⟨fun _ h => by simp at h, fun x h => .inl (by simpa using h), fun z h => .inl (by simpa using h)⟩
theorem Found.pop {ns : List (Nat × Nat)} {a x : Nat} {f : Nat → Bool} {q : List Nat} (h : Found ns a f (x :: q) (fun _ => False)) : Found ns a f q (fun z => z = x) := by
  refine ⟨h.way, fun y hy => h.ask y (by simp [hy]), fun z hz => ?_⟩
  rcases h.on z hz with h1 | h1 | h1
  · rw [List.mem_cons] at h1
    rcases h1 with h1 | h1
    · exact .inr (.inl h1)
    · exact .inl h1
  · exact h1.elim
  · exact .inr (.inr h1)
theorem Found.push {ns : List (Nat × Nat)} {a x y : Nat} {f : Nat → Bool} {q : List Nat} (h : Found ns a f q (fun z => z = x)) (hx : x = a ∨ Way ns a x) (he : (x, y) ∈ ns) :
    Found ns a (mark f y) (q ++ [y]) (fun z => z = x) := by
  have hy : Way ns a y := by
    rcases hx with rfl | hx
    · exact .one he
    · exact .more hx he
  refine ⟨fun j hj => ?_, fun z hz => ?_, fun z hz => ?_⟩
  · unfold mark at hj
    by_cases e : j = y
    · subst e; exact hy
    · rw [if_neg e] at hj; exact h.way j hj
  · rw [List.mem_append, List.mem_singleton] at hz
    rcases hz with hz | rfl
    · exact h.ask z hz
    · exact .inr hy
  · rw [List.mem_append, List.mem_singleton]
    by_cases e : z = y
    · exact .inl (.inr e)
    · have hz' : z = a ∨ f z = true := by
        rcases hz with hz | hz
        · exact .inl hz
        · unfold mark at hz; rw [if_neg e] at hz; exact .inr hz
      rcases h.on z hz' with h1 | h1 | h1
      · exact .inl (.inl h1)
      · exact .inr (.inl h1)
      · refine .inr (.inr fun u hu => ?_)
        unfold mark
        split
        · rfl
        · exact h1 u hu
theorem Found.round {ns : List (Nat × Nat)} {a x : Nat} {f : Nat → Bool} {q : List Nat} (h : Found ns a f q (fun z => z = x)) (hx : ∀ y, (x, y) ∈ ns → f y = true) :
    Found ns a f q (fun _ => False) := by
  refine ⟨h.way, h.ask, fun z hz => ?_⟩
  rcases h.on z hz with h1 | h1 | h1
  · exact .inl h1
  · subst h1; exact .inr (.inr hx)
  · exact .inr (.inr h1)
theorem Found.all {ns : List (Nat × Nat)} {a : Nat} {f : Nat → Bool} (h : Found ns a f [] (fun _ => False)) (j : Nat) : f j = true ↔ Way ns a j := by
  refine ⟨h.way j, fun hw => ?_⟩
  have key : ∀ z, (z = a ∨ f z = true) → ∀ y, (z, y) ∈ ns → f y = true := fun z hz => by
    rcases h.on z hz with h1 | h1 | h1
    · simp at h1
    · exact h1.elim
    · exact h1
  induction hw with
  | one e => exact key _ (.inl rfl) _ e
  | more _ e ih => exact key _ (.inr ih) _ e
end Go.Proofs.YtpdhggfmkmiebaaDoor
