/- Graphs without a circle, in plain Lean: the order goes through all nodes just if there is no circle; every beginning of it is closed. -/
import Derived.Test.YtpdhggfmkmiebaaDoorRor
namespace Go.Proofs.YtpdhggfmkmiebaaDoor

/-- no node reaches itself -/
def Acyclic (ns : List (Nat × Nat)) : Prop := ∀ a, ¬ Way ns a a

/-! ### how many nodes reach a node -/
def cntB (p : Nat → Bool) : Nat → Nat
  | 0 => 0
  | k + 1 => cntB p k + (if p k then 1 else 0)
theorem cntB_le {p q : Nat → Bool} : ∀ {n}, (∀ y, y < n → p y = true → q y = true) → cntB p n ≤ cntB q n
  | 0, _ => Nat.le_refl _
  | k + 1, h => by
    have ih := cntB_le (n := k) (fun y hy => h y (by omega))
    unfold cntB
    by_cases hp : p k = true
    · rw [if_pos hp, if_pos (h k (by omega) hp)]; omega
    · rw [if_neg hp]; omega
theorem cntB_lt {p q : Nat → Bool} {z : Nat} (hq : q z = true) (hp : p z = false) : ∀ {n}, (∀ y, y < n → p y = true → q y = true) → z < n → cntB p n < cntB q n
  | 0, _, hz => absurd hz (by omega)
  | k + 1, h, hz => by
    unfold cntB
    by_cases e : z = k
    · subst e
      have ih := cntB_le (n := z) (fun y hy => h y (by omega))
      rw [hq, hp]
      simp
      omega
    · have ih := cntB_lt hq hp (n := k) (fun y hy => h y (by omega)) (by omega)
      by_cases hp' : p k = true
      · rw [if_pos hp', if_pos (h k (by omega) hp')]; omega
      · rw [if_neg hp']; omega
/-- how many nodes reach x -/
def anc (n : Nat) (ns : List (Nat × Nat)) (x : Nat) : Nat := cntB (fun y => (viaF ns n y).testBit x) n
theorem anc_lt {n : Nat} {ns : List (Nat × Nat)} (hG : GOk n ns) (hA : Acyclic ns) {a b : Nat} (h : Way ns a b) : anc n ns a < anc n ns b := by
  have h2 : ∀ e ∈ ns, e.2 < n := fun e he => (hG.mem he).2
  refine cntB_lt (z := a) ((viaF_way h2 a b).2 h) ?_ (fun y _ hy => (viaF_way h2 y b).2 (((viaF_way h2 y a).1 hy).trans h)) (h.start_lt fun e he => (hG.mem he).1)
  rw [Bool.eq_false_iff]
  exact fun hh => hA a ((viaF_way h2 a a).1 hh)

/-! ### the order goes through all nodes just if there is no circle -/
/-- all that leads to a node of the set is in it -/
def Shut (ns : List (Nat × Nat)) (set : Nat) : Prop := ∀ x, set.testBit x = true → ∀ y, (y, x) ∈ ns → set.testBit y = true
theorem Shut.zero (ns : List (Nat × Nat)) : Shut ns 0 := fun x hx => by simp at hx
theorem Shut.add {n : Nat} {ns : List (Nat × Nat)} (hG : GOk n ns) {set i : Nat} (h64 : set < 2 ^ 64) (h : Shut ns set) (hr : readyB ns set i = true) : Shut ns (set ||| 2 ^ i) := fun x hx y hy => by
  rw [testBit_add] at hx ⊢
  rw [Bool.or_eq_true, decide_eq_true_eq] at hx
  rw [Bool.or_eq_true]
  rcases hx with hx | rfl
  · exact .inl (h x hx y hy)
  · exact .inl (((readyB_iff hG h64 i).1 hr).2 y hy)
theorem Shut.way {ns : List (Nat × Nat)} {set : Nat} (h : Shut ns set) {a b : Nat} (hw : Way ns a b) (hb : set.testBit b = true) : set.testBit a = true := by
  induction hw with
  | one e => exact h _ hb _ e
  | more _ e ih => exact ih (h _ hb _ e)
/-- no node of the set reaches itself -/
def Calm (ns : List (Nat × Nat)) (set : Nat) : Prop := ∀ x, set.testBit x = true → ¬ Way ns x x
theorem Calm.add {n : Nat} {ns : List (Nat × Nat)} (hG : GOk n ns) {set i : Nat} (h64 : set < 2 ^ 64) (hs : Shut ns set) (h : Calm ns set) (hr : readyB ns set i = true) : Calm ns (set ||| 2 ^ i) := fun x hx hw => by
  rw [testBit_add, Bool.or_eq_true, decide_eq_true_eq] at hx
  rcases hx with hx | rfl
  · exact h x hx hw
  · obtain ⟨h1, h2⟩ := (readyB_iff hG h64 i).1 hr
    have : set.testBit i = true := by
      cases hw with
      | one e => exact h2 _ e
      | more hw e => exact hs.way hw (h2 _ e)
    rw [h1] at this
    cases this
theorem order_calm {n : Nat} {ns : List (Nat × Nat)} (hG : GOk n ns) : ∀ (f set : Nat) (out : List Nat), set < 2 ^ n → Shut ns set → Calm ns set → (orderGo n ns f set out).length = out.length + free set n → Acyclic ns := by
  have last : ∀ (set : Nat) (out : List Nat), Calm ns set → out.length = out.length + free set n → Acyclic ns := fun set out hc hl a ha => by
    have h0 : free set n = 0 := by omega
    exact hc a (free_none h0 a (ha.end_lt fun e he => (hG.mem he).2)) ha
  intro f
  induction f with
  | zero => intro set out _ _ hc hl; exact last set out hc hl
  | succ f ih =>
    intro set out hlt hs hc hl
    unfold orderGo at hl
    split at hl
    · exact last set out hc hl
    · rename_i hr
      obtain ⟨h1, h2, _⟩ := nextF_spec hG.hn hr
      have h64 := lt64 hlt hG.hn
      refine ih _ (out ++ [nextF n ns set]) (Nat.or_lt_two_pow hlt (Nat.pow_lt_pow_right (by omega) h1)) (hs.add hG h64 h2) (hc.add hG h64 hs h2) ?_
      have := free_next hG.hn hr
      rw [hl, List.length_append, List.length_singleton]
      omega
theorem ready_some {n : Nat} {ns : List (Nat × Nat)} (hG : GOk n ns) (hA : Acyclic ns) {set : Nat} (h64 : set < 2 ^ 64) : ∀ (m x : Nat), anc n ns x ≤ m → x < n → set.testBit x = false → readyF n ns set ≠ 0 := by
  intro m
  induction m with
  | zero =>
    intro x hm hx hb h0
    have hr : readyB ns set x = true := (readyB_iff hG h64 x).2 ⟨hb, fun y hy => by
      have := anc_lt hG hA (.one hy)
      omega⟩
    have := readyF_bit n ns set x
    rw [h0, hr] at this
    simp at this
    omega
  | succ m ih =>
    intro x hm hx hb
    by_cases hall : ∀ y, (y, x) ∈ ns → set.testBit y = true
    · intro h0
      have hr : readyB ns set x = true := (readyB_iff hG h64 x).2 ⟨hb, hall⟩
      have := readyF_bit n ns set x
      rw [h0, hr] at this
      simp at this
      omega
    · obtain ⟨y, hy⟩ := Classical.not_forall.1 hall
      obtain ⟨hy1, hy2⟩ := Classical.not_imp.1 hy
      have := anc_lt hG hA (.one hy1)
      exact ih y (by omega) (hG.mem hy1).1 (by simpa using hy2)
theorem free_some {set : Nat} : ∀ {n}, free set n ≠ 0 → ∃ x, x < n ∧ set.testBit x = false
  | 0, h => absurd rfl h
  | k + 1, h => by
    unfold free at h
    cases hb : set.testBit k
    · exact ⟨k, by omega, hb⟩
    · rw [hb] at h
      obtain ⟨x, h1, h2⟩ := free_some (n := k) (by simpa using h)
      exact ⟨x, by omega, h2⟩
theorem order_full {n : Nat} {ns : List (Nat × Nat)} (hG : GOk n ns) (hA : Acyclic ns) : ∀ (f set : Nat) (out : List Nat), f = free set n → set < 2 ^ n → (orderGo n ns f set out).length = out.length + f := by
  intro f
  induction f with
  | zero => intro set out _ _; rfl
  | succ f ih =>
    intro set out hf hlt
    obtain ⟨x, hx, hb⟩ := free_some (set := set) (n := n) (by omega)
    have hr := ready_some hG hA (lt64 hlt hG.hn) _ x (Nat.le_refl _) hx hb
    obtain ⟨h1, h2, _⟩ := nextF_spec hG.hn hr
    unfold orderGo
    rw [if_neg hr, ih _ _ (by have := free_next hG.hn hr; omega) (Nat.or_lt_two_pow hlt (Nat.pow_lt_pow_right (by omega) h1)), List.length_append, List.length_singleton]
    omega
/-- THE ORDER HAS ALL NODES JUST IF THERE IS NO CIRCLE -/
theorem order_iff {n : Nat} {ns : List (Nat × Nat)} (hG : GOk n ns) : (orderV n ns).length = n ↔ Acyclic ns := by
  constructor
  · intro h
    exact order_calm hG n 0 [] (Nat.two_pow_pos _) (Shut.zero ns) (fun x hx => by simp at hx) (by rw [free_zero]; simpa [orderV] using h)
  · intro hA
    have := order_full hG hA n 0 [] (free_zero n).symm (Nat.two_pow_pos _)
    simpa [orderV] using this
theorem order_le (n : Nat) (ns : List (Nat × Nat)) : (orderV n ns).length ≤ n := by
  have key : ∀ (f set : Nat) (out : List Nat), (orderGo n ns f set out).length ≤ out.length + f := by
    intro f
    induction f with
    | zero => intro set out; exact Nat.le_refl _
    | succ f ih =>
      intro set out
      unfold orderGo
      split
      · omega
      · have := ih (set ||| 2 ^ nextF n ns set) (out ++ [nextF n ns set])
        rw [List.length_append, List.length_singleton] at this
        omega
  have := key n 0 []
  simpa [orderV] using this
theorem order_lt_iff {n : Nat} {ns : List (Nat × Nat)} (hG : GOk n ns) : (orderV n ns).length < n ↔ ∃ a, Way ns a a := by
  have h1 := order_le n ns
  have h2 := order_iff hG
  constructor
  · intro h
    refine Classical.byContradiction fun hn => ?_
    have := h2.2 (fun a ha => hn ⟨a, ha⟩)
    omega
  · rintro ⟨a, ha⟩
    rcases Nat.lt_or_ge (orderV n ns).length n with h | h
    · exact h
    · exact absurd ha (h2.1 (by omega) a)

/-! ### the beginnings of the order -/
/-- the set of a list's nodes -/
def setL (l : List Nat) : Nat := l.foldl (fun s i => s ||| 2 ^ i) 0
theorem setL_snoc (l : List Nat) (i : Nat) : setL (l ++ [i]) = setL l ||| 2 ^ i := by simp [setL, List.foldl_append]
/-- each node of the list is the one that comes next behind those before it -/
def Steps (n : Nat) (ns : List (Nat × Nat)) (l : List Nat) : Prop := ∀ p, p < l.length → readyF n ns (setL (l.take p)) ≠ 0 ∧ l.getD p 0 = nextF n ns (setL (l.take p))
theorem Steps.snoc {n : Nat} {ns : List (Nat × Nat)} {l : List Nat} (h : Steps n ns l) (hr : readyF n ns (setL l) ≠ 0) : Steps n ns (l ++ [nextF n ns (setL l)]) := fun p hp => by
  rw [List.length_append, List.length_singleton] at hp
  by_cases e : p = l.length
  · subst e
    rw [List.take_left]
    refine ⟨hr, ?_⟩
    simp [List.getD]
  · have hp' : p < l.length := by omega
    rw [List.take_append_of_le_length (by omega)]
    have := h p hp'
    refine ⟨this.1, ?_⟩
    rw [← this.2]
    simp only [List.getD]
    rw [List.getElem?_append_left hp']
theorem order_steps {n : Nat} {ns : List (Nat × Nat)} : ∀ (f : Nat) (out : List Nat), Steps n ns out → Steps n ns (orderGo n ns f (setL out) out) := by
  intro f
  induction f with
  | zero => intro out h; exact h
  | succ f ih =>
    intro out h
    unfold orderGo
    split
    · exact h
    · rename_i hr
      rw [← setL_snoc]
      exact ih _ (h.snoc hr)
theorem orderV_steps (n : Nat) (ns : List (Nat × Nat)) : Steps n ns (orderV n ns) := order_steps n [] (fun p hp => by simp at hp)
theorem steps_shut {n : Nat} {ns : List (Nat × Nat)} (hG : GOk n ns) {l : List Nat} (h : Steps n ns l) : ∀ p, p ≤ l.length → Shut ns (setL (l.take p)) ∧ setL (l.take p) < 2 ^ n
  | 0, _ => ⟨Shut.zero ns, Nat.two_pow_pos _⟩
  | p + 1, hp => by
    obtain ⟨h1, h2⟩ := steps_shut hG h p (by omega)
    obtain ⟨h3, h4⟩ := h p (by omega)
    obtain ⟨h5, h6, _⟩ := nextF_spec hG.hn h3
    rw [take_snoc l 0 (by omega), h4, setL_snoc]
    exact ⟨h1.add hG (lt64 h2 hG.hn) h6, Nat.or_lt_two_pow h2 (Nat.pow_lt_pow_right (by omega) h5)⟩
end Go.Proofs.YtpdhggfmkmiebaaDoor
