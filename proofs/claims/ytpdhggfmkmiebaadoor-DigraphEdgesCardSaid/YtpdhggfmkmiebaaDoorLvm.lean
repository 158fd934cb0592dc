/- Levels and thinning, in plain Lean: the two ways of raising levels agree; the levels are the one function that rises by each edge and by some edge by just one; what is left of the edges reaches the same. -/
import Derived.Test.YtpdhggfmkmiebaaDoorAcy
import Derived.Test.YtpdhggfmkmiebaaDoorRlv
import Derived.Test.YtpdhggfmkmiebaaDoorRth
namespace Go.Proofs.YtpdhggfmkmiebaaDoor

/-- v is what node i is raised to: over all that lead to it, and over one of them by just one, or as before -/
structure Raised (ns : List (Nat × Nat)) (i : Nat) (f : Nat → Nat) (v : Nat) : Prop where
  old : f i ≤ v
  over : ∀ a, (a, i) ∈ ns → f a + 1 ≤ v
  by_one : v = f i ∨ ∃ a, (a, i) ∈ ns ∧ v = f a + 1
theorem Raised.eq {ns : List (Nat × Nat)} {i : Nat} {f : Nat → Nat} {v u : Nat} (h : Raised ns i f v) (k : Raised ns i f u) : v = u := by
  have h1 : v ≤ u := by
    rcases h.by_one with e | ⟨a, ha, e⟩
    · rw [e]; exact k.old
    · rw [e]; exact k.over a ha
  have h2 : u ≤ v := by
    rcases k.by_one with e | ⟨a, ha, e⟩
    · rw [e]; exact h.old
    · rw [e]; exact h.over a ha
  omega

/-! ### the program's way -/
theorem lvIn_other {ns : List (Nat × Nat)} {i : Nat} {f : Nat → Nat} {j : Nat} (h : j ≠ i) : ∀ k, lvIn ns i f k j = f j
  | 0 => rfl
  | k + 1 => by
    rw [lvIn, lvStep, if_neg (fun hh => h hh.1)]
    exact lvIn_other h k
theorem lvIn_mid {ns : List (Nat × Nat)} {i : Nat} {f : Nat → Nat} (hself : (i, i) ∉ ns) : ∀ k, f i ≤ lvIn ns i f k i ∧ (∀ a, a < k → (a, i) ∈ ns → f a + 1 ≤ lvIn ns i f k i) ∧ (lvIn ns i f k i = f i ∨ ∃ a, (a, i) ∈ ns ∧ lvIn ns i f k i = f a + 1)
  | 0 => ⟨Nat.le_refl _, fun a ha => by omega, .inl rfl⟩
  | k + 1 => by
    obtain ⟨h1, h2, h3⟩ := lvIn_mid (f := f) hself k
    by_cases hk : (aheadF ns i).testBit k = true
    · have hki := (aheadF_bit ns k i).1 hk
      have hne : k ≠ i := by rintro rfl; exact hself hki
      have e : lvIn ns i f (k + 1) i = max (lvIn ns i f k i) (f k + 1) := by
        rw [lvIn, lvStep, if_pos ⟨rfl, hk⟩, lvIn_other hne]
      rw [e]
      refine ⟨by omega, fun a ha hai => ?_, ?_⟩
      · by_cases e2 : a = k
        · subst e2; omega
        · have := h2 a (by omega) hai; omega
      · rcases Nat.le_total (lvIn ns i f k i) (f k + 1) with hle | hle
        · exact .inr ⟨k, hki, by omega⟩
        · rw [Nat.max_eq_left hle]; exact h3
    · have e : lvIn ns i f (k + 1) i = lvIn ns i f k i := by
        rw [lvIn, lvStep, if_neg (fun hh => hk hh.2)]
      rw [e]
      refine ⟨h1, fun a ha hai => ?_, h3⟩
      by_cases e2 : a = k
      · subst e2; exact absurd ((aheadF_bit ns a i).2 hai) hk
      · exact h2 a (by omega) hai
theorem lvIn_raised {n : Nat} {ns : List (Nat × Nat)} (hG : GOk n ns) {i : Nat} {f : Nat → Nat} (hself : (i, i) ∉ ns) : Raised ns i f (lvIn ns i f n i) := by
  obtain ⟨h1, h2, h3⟩ := lvIn_mid (f := f) hself n
  exact ⟨h1, fun a ha => h2 a (hG.mem ha).1 ha, h3⟩

/-! ### the document's way -/
theorem rlIn_other {i j : Nat} (h : j ≠ i) : ∀ (es : List (Nat × Nat)) (f : Nat → Nat), rlIn i f es j = f j
  | [], _ => rfl
  | e :: r, f => by
    have := rlIn_other h r (rlStep i e f)
    simp only [rlIn, List.foldl_cons] at this ⊢
    rw [this, rlStep, if_neg (fun hh => h hh.1)]
theorem rlIn_mid {i : Nat} : ∀ (es : List (Nat × Nat)) (f : Nat → Nat), (i, i) ∉ es → f i ≤ rlIn i f es i ∧ (∀ a, (a, i) ∈ es → f a + 1 ≤ rlIn i f es i) ∧ (rlIn i f es i = f i ∨ ∃ a, (a, i) ∈ es ∧ rlIn i f es i = f a + 1)
  | [], f, _ => ⟨Nat.le_refl _, fun a ha => by simp at ha, .inl rfl⟩
  | (x, y) :: r, f, hself => by
    have hself' : (i, i) ∉ r := fun h => hself (by simp [h])
    obtain ⟨h1, h2, h3⟩ := rlIn_mid r (rlStep i (x, y) f) hself'
    have e : rlIn i f ((x, y) :: r) i = rlIn i (rlStep i (x, y) f) r i := by simp [rlIn]
    rw [e]
    have hoth : ∀ a, a ≠ i → rlStep i (x, y) f a = f a := fun a ha => by rw [rlStep, if_neg (fun hh => ha hh.1)]
    by_cases hy : y = i
    · subst hy
      have hx : x ≠ y := by rintro rfl; exact hself (by simp)
      have hi : rlStep y (x, y) f y = max (f y) (f x + 1) := by
        unfold rlStep
        by_cases hlt : f y < f x + 1
        · rw [if_pos ⟨rfl, rfl, hlt⟩]; show f x + 1 = _; omega
        · rw [if_neg (fun hh => hlt hh.2.2)]; omega
      rw [hi] at h1 h3
      generalize rlIn y (rlStep y (x, y) f) r y = v at h1 h2 h3 ⊢
      refine ⟨by omega, fun a ha => ?_, ?_⟩
      · rw [List.mem_cons, Prod.mk.injEq] at ha
        rcases ha with ⟨rfl, _⟩ | ha
        · clear h2 h3; omega
        · have hne : a ≠ y := by rintro rfl; exact hself' ha
          have := h2 a ha
          rwa [hoth a hne] at this
      · rcases h3 with h3 | ⟨a, ha, h3⟩
        · rcases Nat.le_total (f y) (f x + 1) with hle | hle
          · exact .inr ⟨x, by simp, by omega⟩
          · exact .inl (by omega)
        · have hne : a ≠ y := by rintro rfl; exact hself' ha
          rw [hoth a hne] at h3
          exact .inr ⟨a, by simp [ha], h3⟩
    · have hi : rlStep i (x, y) f i = f i := by rw [rlStep, if_neg (fun hh => hy hh.2.1)]
      rw [hi] at h1 h3
      refine ⟨h1, fun a ha => ?_, ?_⟩
      · rw [List.mem_cons, Prod.mk.injEq] at ha
        rcases ha with ⟨_, rfl⟩ | ha
        · exact absurd rfl hy
        · have hne : a ≠ i := by rintro rfl; exact hself' ha
          have := h2 a ha
          rwa [hoth a hne] at this
      · rcases h3 with h3 | ⟨a, ha, h3⟩
        · exact .inl h3
        · have hne : a ≠ i := by rintro rfl; exact hself' ha
          rw [hoth a hne] at h3
          exact .inr ⟨a, by simp [ha], h3⟩
theorem rlIn_raised {ns : List (Nat × Nat)} {i : Nat} {f : Nat → Nat} (hself : (i, i) ∉ ns) : Raised ns i f (rlIn i f ns i) := by
  obtain ⟨h1, h2, h3⟩ := rlIn_mid ns f hself
  exact ⟨h1, h2, h3⟩

/-- THE TWO WAYS AGREE -/
theorem lvIn_eq {n : Nat} {ns : List (Nat × Nat)} (hG : GOk n ns) (hA : Acyclic ns) (i : Nat) (f : Nat → Nat) : lvIn ns i f n = rlIn i f ns := by
  have hself : (i, i) ∉ ns := fun h => hA i (.one h)
  funext j
  by_cases e : j = i
  · subst e; exact (lvIn_raised hG hself).eq (rlIn_raised hself)
  · rw [lvIn_other e, rlIn_other e]
theorem lvAll_eq {n : Nat} {ns : List (Nat × Nat)} (hG : GOk n ns) (hA : Acyclic ns) (l : List Nat) : lvAll n ns l = rlAll ns l := by
  unfold lvAll rlAll
  congr 1
  funext f i
  exact lvIn_eq hG hA i f

/-! ### what the levels are -/
/-- the levels rise by each edge, and where they are above nought by some edge by just one -/
structure LevOk (ns : List (Nat × Nat)) (f : Nat → Nat) : Prop where
  rise : ∀ a b, (a, b) ∈ ns → f a + 1 ≤ f b
  one : ∀ x, f x = 0 ∨ ∃ a, (a, x) ∈ ns ∧ f x = f a + 1
theorem LevOk.le {ns ms : List (Nat × Nat)} {f g : Nat → Nat} (hf : ∀ x, f x = 0 ∨ ∃ a, (a, x) ∈ ns ∧ f x = f a + 1) (hg : ∀ a b, (a, b) ∈ ms → g a + 1 ≤ g b) (hs : ∀ e ∈ ns, e ∈ ms) : ∀ (m x : Nat), f x ≤ m → f x ≤ g x := by
  intro m
  induction m with
  | zero => intro x h; omega
  | succ m ih =>
    intro x h
    rcases hf x with h0 | ⟨a, ha, e⟩
    · omega
    · have := ih a (by omega)
      have := hg a x (hs _ ha)
      omega
theorem LevOk.unique {ns : List (Nat × Nat)} {f g : Nat → Nat} (hf : LevOk ns f) (hg : LevOk ns g) : f = g := by
  funext x
  have h1 := LevOk.le hf.one hg.rise (fun _ h => h) _ x (Nat.le_refl _)
  have h2 := LevOk.le hg.one hf.rise (fun _ h => h) _ x (Nat.le_refl _)
  omega
/-- along a way the levels rise -/
theorem LevOk.way {ns : List (Nat × Nat)} {f : Nat → Nat} (hf : ∀ a b, (a, b) ∈ ns → f a + 1 ≤ f b) {a b : Nat} (h : Way ns a b) : f a + 1 ≤ f b := by
  induction h with
  | one e => exact hf _ _ e
  | more _ e ih => have := hf _ _ e; omega
/-- the levels half-way through the order -/
structure LevMid (ns : List (Nat × Nat)) (set : Nat) (f : Nat → Nat) : Prop where
  rise : ∀ a b, (a, b) ∈ ns → set.testBit b = true → f a + 1 ≤ f b
  one : ∀ x, f x = 0 ∨ ∃ a, (a, x) ∈ ns ∧ f x = f a + 1
  out : ∀ x, set.testBit x = false → f x = 0
theorem LevMid.step {n : Nat} {ns : List (Nat × Nat)} (hG : GOk n ns) (hA : Acyclic ns) {set i : Nat} {f : Nat → Nat} (h : LevMid ns set f) (hs : Shut ns set) (h64 : set < 2 ^ 64) (hr : readyB ns set i = true) : LevMid ns (set ||| 2 ^ i) (lvIn ns i f n) := by
  have hself : (i, i) ∉ ns := fun h => hA i (.one h)
  have hR := lvIn_raised (f := f) hG hself
  obtain ⟨h1, h2⟩ := (readyB_iff hG h64 i).1 hr
  have hfi := h.out i h1
  have hoth : ∀ j, j ≠ i → lvIn ns i f n j = f j := fun j hj => lvIn_other hj n
  refine ⟨fun a b hab hb => ?_, fun x => ?_, fun x hx => ?_⟩
  · rw [testBit_add, Bool.or_eq_true, decide_eq_true_eq] at hb
    by_cases eb : b = i
    · subst eb
      have ha : a ≠ b := by rintro rfl; exact hself hab
      rw [hoth a ha]
      exact hR.over a hab
    · have hb' : set.testBit b = true := by
        rcases hb with hb | hb
        · exact hb
        · exact absurd hb.symm eb
      have ha : a ≠ i := by
        rintro rfl
        rw [hs b hb' a hab] at h1
        cases h1
      rw [hoth a ha, hoth b eb]
      exact h.rise a b hab hb'
  · by_cases e : x = i
    · subst e
      rcases hR.by_one with e1 | ⟨a, ha, e1⟩
      · exact .inl (by omega)
      · have hne : a ≠ x := by rintro rfl; exact hself ha
        exact .inr ⟨a, ha, by rw [hoth a hne]; exact e1⟩
    · rw [hoth x e]
      rcases h.one x with h0 | ⟨a, ha, e1⟩
      · exact .inl h0
      · have hx : set.testBit x = true := by
          rw [← Bool.not_eq_false]
          intro hx
          have := h.out x hx
          omega
        have hne : a ≠ i := by
          rintro rfl
          rw [hs x hx a ha] at h1
          cases h1
        exact .inr ⟨a, ha, by rw [hoth a hne]; exact e1⟩
  · rw [testBit_add, Bool.or_eq_false_iff, decide_eq_false_iff_not] at hx
    rw [hoth x (fun e => hx.2 e.symm)]
    exact h.out x hx.1
theorem levels_mid {n : Nat} {ns : List (Nat × Nat)} (hG : GOk n ns) (hA : Acyclic ns) {l : List Nat} (h : Steps n ns l) : ∀ p, p ≤ l.length → LevMid ns (setL (l.take p)) (lvAll n ns (l.take p))
  | 0, _ => ⟨fun a b _ hb => by simp [setL] at hb, fun x => .inl rfl, fun x _ => rfl⟩
  | p + 1, hp => by
    have ih := levels_mid hG hA h p (by omega)
    obtain ⟨h1, h2⟩ := steps_shut hG h p (by omega)
    obtain ⟨h3, h4⟩ := h p (by omega)
    obtain ⟨_, h6, _⟩ := nextF_spec hG.hn h3
    rw [take_snoc l 0 (by omega), h4, setL_snoc, lvAll_snoc]
    exact ih.step hG hA h1 (lt64 h2 hG.hn) h6
theorem setL_free {n : Nat} {ns : List (Nat × Nat)} (hG : GOk n ns) {l : List Nat} (h : Steps n ns l) : ∀ p, p ≤ l.length → p + free (setL (l.take p)) n = n
  | 0, _ => by simp [setL, free_zero]
  | p + 1, hp => by
    have ih := setL_free hG h p (by omega)
    obtain ⟨h3, h4⟩ := h p (by omega)
    have := free_next hG.hn h3
    rw [take_snoc l 0 (by omega), h4, setL_snoc]
    omega
/-- WHAT THE LEVELS ARE -/
theorem levels_ok' {n : Nat} {ns : List (Nat × Nat)} (hG : GOk n ns) (hA : Acyclic ns) : LevOk ns (lvAll n ns (orderV n ns)) := by
  have hl := (order_iff hG).2 hA
  have hs := orderV_steps n ns
  have hm := levels_mid hG hA hs _ (Nat.le_refl _)
  have hf := setL_free hG hs _ (Nat.le_refl _)
  rw [List.take_length] at hm hf
  exact ⟨fun a b hab => hm.rise a b hab (free_none (by omega) b (hG.mem hab).2), hm.one⟩

/-! ### an edge along what is reached already -/
section
variable {n i j : Nat} {ns : List (Nat × Nat)}
theorem way_more (h : Way ns i j) {a b : Nat} : Way (ns ++ [(i, j)]) a b ↔ Way ns a b := by
  constructor
  · intro hw
    induction hw with
    | one e =>
      rw [List.mem_append, List.mem_singleton, Prod.mk.injEq] at e
      rcases e with e | ⟨rfl, rfl⟩
      · exact .one e
      · exact h
    | more _ e ih =>
      rw [List.mem_append, List.mem_singleton, Prod.mk.injEq] at e
      rcases e with e | ⟨rfl, rfl⟩
      · exact .more ih e
      · exact ih.trans h
  · intro hw
    induction hw with
    | one e => exact .one (by simp [e])
    | more _ e ih => exact .more ih (by simp [e])
theorem gok_more (hG : GOk n ns) (hl : ns.length < 4096) (hi : i < n) (hj : j < n) : GOk n (ns ++ [(i, j)]) := by
  refine ⟨hG.hn, by rw [List.length_append, List.length_singleton]; omega, fun k hk => ?_⟩
  have hm := getD_mem (ns ++ [(i, j)]) (0, 0) hk
  rw [List.mem_append, List.mem_singleton] at hm
  rcases hm with hm | hm
  · exact hG.mem hm
  · rw [hm]; exact ⟨hi, hj⟩
theorem acyclic_more (hA : Acyclic ns) (h : Way ns i j) : Acyclic (ns ++ [(i, j)]) := fun a ha => hA a ((way_more h).1 ha)
theorem levels_more (h : Way ns i j) {f : Nat → Nat} (hf : LevOk (ns ++ [(i, j)]) f) : LevOk ns f := by
  have hrise : ∀ a b, (a, b) ∈ ns → f a + 1 ≤ f b := fun a b hab => hf.rise a b (by simp [hab])
  refine ⟨hrise, fun x => ?_⟩
  rcases hf.one x with h0 | ⟨a, ha, e⟩
  · exact .inl h0
  · rw [List.mem_append, List.mem_singleton, Prod.mk.injEq] at ha
    rcases ha with ha | ⟨rfl, rfl⟩
    · exact .inr ⟨a, ha, e⟩
    · rcases h.first with h1 | ⟨c, hc, hw⟩
      · exact .inr ⟨a, h1, e⟩
      · have h1 := hrise a c hc
        have h2 := LevOk.way hrise hw
        omega
theorem kept_more (hG : GOk n ns) (hG' : GOk n (ns ++ [(i, j)])) (h : Way ns i j) (a : Nat) : keptF n (ns ++ [(i, j)]) a = keptF n ns a := by
  apply Nat.eq_of_testBit_eq
  intro b
  rw [Bool.eq_iff_iff, keptF_bit hG', keptF_bit hG]
  simp only [way_more h, List.mem_append, List.mem_singleton, Prod.mk.injEq]
  constructor
  · rintro ⟨hab, hno⟩
    rcases hab with hab | ⟨rfl, rfl⟩
    · exact ⟨hab, fun ⟨c, hc, hw⟩ => hno ⟨c, .inl hc, hw⟩⟩
    · rcases h.first with h1 | ⟨c, hc, hw⟩
      · exact ⟨h1, fun ⟨c, hc, hw⟩ => hno ⟨c, .inl hc, hw⟩⟩
      · exact absurd ⟨c, .inl hc, hw⟩ hno
  · rintro ⟨hab, hno⟩
    refine ⟨.inl hab, fun ⟨c, hc, hw⟩ => ?_⟩
    rcases hc with hc | ⟨rfl, rfl⟩
    · exact hno ⟨c, hc, hw⟩
    · rcases h.first with h1 | ⟨d, hd, hw'⟩
      · exact hno ⟨c, h1, hw⟩
      · exact hno ⟨d, hd, hw'.trans hw⟩
theorem thin_more (hG : GOk n ns) (hG' : GOk n (ns ++ [(i, j)])) (h : Way ns i j) : ∀ k, thinL n (ns ++ [(i, j)]) k = thinL n ns k
  | 0 => rfl
  | k + 1 => by rw [thinL, thinL, thin_more hG hG' h k, kept_more hG hG' h]
theorem via_more (hG : GOk n ns) (hG' : GOk n (ns ++ [(i, j)])) (h : Way ns i j) (a : Nat) : viaF (ns ++ [(i, j)]) n a = viaF ns n a := by
  apply Nat.eq_of_testBit_eq
  intro b
  rw [Bool.eq_iff_iff, viaF_way (fun e he => (hG'.mem he).2), viaF_way (fun e he => (hG.mem he).2), way_more h]
end

/-! ### what is left reaches the same -/
theorem pairs_mem (i m : Nat) (x y : Nat) : ∀ k, (x, y) ∈ pairs i m k ↔ x = i ∧ y < k ∧ m.testBit y = true
  | 0 => by simp [pairs]
  | k + 1 => by
    have ih := pairs_mem i m x y k
    by_cases hk : m.testBit k = true
    · rw [pairs_yes hk, List.mem_append, ih, List.mem_singleton, Prod.mk.injEq]
      constructor
      · rintro (⟨h1, h2, h3⟩ | ⟨rfl, rfl⟩)
        · exact ⟨h1, by omega, h3⟩
        · exact ⟨rfl, by omega, hk⟩
      · rintro ⟨h1, h2, h3⟩
        by_cases e : y = k
        · exact .inr ⟨h1, e⟩
        · exact .inl ⟨h1, by omega, h3⟩
    · rw [pairs_no hk, ih]
      constructor
      · rintro ⟨h1, h2, h3⟩; exact ⟨h1, by omega, h3⟩
      · rintro ⟨h1, h2, h3⟩
        by_cases e : y = k
        · subst e; exact absurd h3 hk
        · exact ⟨h1, by omega, h3⟩
theorem thinL_mem {n : Nat} {ns : List (Nat × Nat)} (hG : GOk n ns) (x y : Nat) : ∀ i, (x, y) ∈ thinL n ns i ↔ x < i ∧ (x, y) ∈ ns ∧ ¬ ∃ c, (x, c) ∈ ns ∧ Way ns c y
  | 0 => by simp [thinL]
  | i + 1 => by
    rw [thinL, List.mem_append, thinL_mem hG x y i, pairs_mem, keptF_bit hG]
    constructor
    · rintro (⟨h1, h2⟩ | ⟨rfl, h2, h3⟩)
      · exact ⟨by omega, h2⟩
      · exact ⟨by omega, h3⟩
    · rintro ⟨h1, h2, h3⟩
      by_cases e : x = i
      · subst e; exact .inr ⟨rfl, (hG.mem h2).2, h2, h3⟩
      · exact .inl ⟨by omega, h2, h3⟩
theorem thin_way {n : Nat} {ns : List (Nat × Nat)} (hG : GOk n ns) (hA : Acyclic ns) {a b : Nat} : Way (thinL n ns n) a b ↔ Way ns a b := by
  constructor
  · intro h
    induction h with
    | one e => exact .one ((thinL_mem hG _ _ n).1 e).2.1
    | more _ e ih => exact .more ih ((thinL_mem hG _ _ n).1 e).2.1
  · intro h
    have key : ∀ (m a b : Nat), Way ns a b → anc n ns b ≤ anc n ns a + m → Way (thinL n ns n) a b := by
      intro m
      induction m with
      | zero =>
        intro a b h hm
        have := anc_lt hG hA h
        omega
      | succ m ih =>
        intro a b h hm
        have split : ∀ c, (a, c) ∈ ns → Way ns c b → Way (thinL n ns n) a b := fun c hc hw => by
          have h1 := anc_lt hG hA (.one hc)
          have h2 := anc_lt hG hA hw
          exact (ih a c (.one hc) (by omega)).trans (ih c b hw (by omega))
        rcases h.first with h1 | ⟨c, hc, hw⟩
        · by_cases hx : ∃ c, (a, c) ∈ ns ∧ Way ns c b
          · obtain ⟨c, hc, hw⟩ := hx
            exact split c hc hw
          · exact .one ((thinL_mem hG a b n).2 ⟨(hG.mem h1).1, h1, hx⟩)
        · exact split c hc hw
    exact key (anc n ns b) a b h (by omega)
theorem gok_thin {n : Nat} {ns : List (Nat × Nat)} (hG : GOk n ns) (hn : n ≤ 20) : GOk n (thinL n ns n) := by
  refine ⟨hG.hn, Nat.le_trans (thinL_le n ns n) (Nat.le_trans (Nat.mul_le_mul hn hn) (by omega)), fun k hk => ?_⟩
  have hm := getD_mem (thinL n ns n) (0, 0) hk
  generalize (thinL n ns n).getD k (0, 0) = e at hm ⊢
  obtain ⟨x, y⟩ := e
  exact hG.mem ((thinL_mem hG x y n).1 hm).2.1
theorem via_thin {n : Nat} {ns : List (Nat × Nat)} (hG : GOk n ns) (hn : n ≤ 20) (hA : Acyclic ns) (a : Nat) : viaF (thinL n ns n) n a = viaF ns n a := by
  apply Nat.eq_of_testBit_eq
  intro b
  rw [Bool.eq_iff_iff, viaF_way (fun e he => ((gok_thin hG hn).mem he).2), viaF_way (fun e he => (hG.mem he).2), thin_way hG hA]

/-! ### the edges turned round -/
theorem way_swap (ns : List (Nat × Nat)) {a b : Nat} (h : Way ns a b) : Way (swapE ns) b a := by
  induction h with
  | one e => exact .one (by simp only [swapE, List.mem_map]; exact ⟨_, e, rfl⟩)
  | more _ e ih => exact Way.trans (.one (by simp only [swapE, List.mem_map]; exact ⟨_, e, rfl⟩)) ih
theorem swap_swap (ns : List (Nat × Nat)) : swapE (swapE ns) = ns := by
  simp [swapE, List.map_map, Function.comp_def]
theorem way_swap_iff (ns : List (Nat × Nat)) {a b : Nat} : Way (swapE ns) b a ↔ Way ns a b := by
  refine ⟨fun h => ?_, way_swap ns⟩
  have := way_swap _ h
  rwa [swap_swap] at this
theorem gok_swap {n : Nat} {ns : List (Nat × Nat)} (hG : GOk n ns) : GOk n (swapE ns) := by
  refine ⟨hG.hn, by simp only [swapE, List.length_map]; exact hG.hl, fun k hk => ?_⟩
  have hm := getD_mem (swapE ns) (0, 0) hk
  generalize (swapE ns).getD k (0, 0) = e at hm ⊢
  simp only [swapE, List.mem_map] at hm
  obtain ⟨x, hx, rfl⟩ := hm
  have := hG.mem hx
  exact ⟨this.2, this.1⟩
theorem via_swap {n : Nat} {ns : List (Nat × Nat)} (hG : GOk n ns) (a b : Nat) : (viaF (swapE ns) n b).testBit a = (viaF ns n a).testBit b := by
  rw [Bool.eq_iff_iff, viaF_way (fun e he => ((gok_swap hG).mem he).2), viaF_way (fun e he => (hG.mem he).2), way_swap_iff]
end Go.Proofs.YtpdhggfmkmiebaaDoor
