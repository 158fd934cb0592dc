/- Plain laws of indices and digits: no program in sight. -/
import Derived.Test.YtjnakkdonkgcjaaKo
namespace Go.Proofs.Ytjnakkdonkgcjaa
open Go.RowKit

def dlist (f : Nat → Nat) (n : Nat) : List Nat := (List.range n).map f
theorem dlist_length (f : Nat → Nat) (n : Nat) : (dlist f n).length = n := by simp [dlist]
theorem dlist_getD (f : Nat → Nat) {n k : Nat} (hk : k < n) : (dlist f n).getD k 0 = f k := by
  simp [dlist, List.getD_eq_getElem?_getD, List.getElem?_map, List.getElem?_range hk]

/-! ### Horner from the front -/
def hor (ns : List Nat) (f : Nat → Nat) : Nat → Nat → Nat → Nat
  | 0, _, q => q
  | k + 1, p, q => hor ns f k (p + 1) (q * ns.getD p 0 + f p)
theorem hor_congr {ns : List Nat} {f g : Nat → Nat} : ∀ (k p q : Nat), (∀ j, p ≤ j → f j = g j) → hor ns f k p q = hor ns g k p q
  | 0, _, _, _ => rfl
  | k + 1, p, q, h => by
    unfold hor
    rw [h p (Nat.le_refl _)]
    exact hor_congr k (p + 1) _ (fun j hj => h j (by omega))
theorem hor_idx {ns ds : List Nat} {f : Nat → Nat} : ∀ (k p : Nat), (∀ j, j < p + k → ds.getD j 0 = f j) → hor ns f k p (idxN ns ds p) = idxN ns ds (p + k)
  | 0, _, _ => rfl
  | k + 1, p, h => by
    unfold hor
    rw [← h p (by omega), show idxN ns ds p * ns.getD p 0 + ds.getD p 0 = idxN ns ds (p + 1) from rfl, hor_idx k (p + 1) (fun j hj => h j (by omega))]
    congr 1
    omega

/-! ### the digits that Nth finds -/
theorem nth_inv {ns : List Nat} {len i : Nat} (hlen : len = ns.length) (hok : LOk ns) (hi : i < prodN ns) :
    ∀ k, k ≤ len → hor ns (nthSt ns len i (dn len k)).2 k (len - k) (nthSt ns len i (dn len k)).1 = i ∧ (nthSt ns len i (dn len k)).1 < prodN (ns.take (len - k)) ∧ ∀ j, len - k ≤ j → j < len → (nthSt ns len i (dn len k)).2 j < ns.getD j 0
  | 0, _ => by
    refine ⟨rfl, ?_, fun j h1 h2 => by omega⟩
    rw [Nat.sub_zero, hlen, List.take_length]
    exact hi
  | k + 1, hk => by
    obtain ⟨h1, h2, h3⟩ := nth_inv hlen hok hi k (by omega)
    obtain ⟨p, hp⟩ : ∃ p, p = len - (k + 1) := ⟨_, rfl⟩
    have hpl : p < ns.length := by omega
    have hdn := dn_succ (len := len) (p := p) (k := k) (by omega)
    rw [hdn, nthSt_snoc, ← hp]
    rw [show len - k = p + 1 by omega] at h1 h2 h3
    have hn : ns[p]?.getD 0 = ns.getD p 0 := by rw [List.getD_eq_getElem?_getD]
    simp only [hn]
    have hd := hok.hk _ (getD_mem ns 0 hpl)
    rw [take_snoc ns 0 hpl, prodN_snoc] at h2
    obtain ⟨q, hq⟩ : ∃ q, (nthSt ns len i (dn len k)).1 = q := ⟨_, rfl⟩
    obtain ⟨f, hf⟩ : ∃ f, (nthSt ns len i (dn len k)).2 = f := ⟨_, rfl⟩
    rw [hq, hf] at h1
    rw [hq] at h2
    rw [hf] at h3
    rw [hq, hf]
    refine ⟨?_, ?_, fun j hj1 hj2 => ?_⟩
    · unfold hor
      rw [if_pos rfl, Nat.mul_comm, Nat.div_add_mod]
      rw [hor_congr k (p + 1) q (g := f) (fun j hj => by rw [if_neg (by omega)])]
      exact h1
    · exact (Nat.div_lt_iff_lt_mul hd.1).2 h2
    · by_cases h : j = p
      · rw [if_pos h, h]; exact Nat.mod_lt _ hd.1
      · rw [if_neg h]; exact h3 j (by omega) hj2
theorem nth_lt {ns : List Nat} {len i : Nat} (hlen : len = ns.length) (hok : LOk ns) (hi : i < prodN ns) {j : Nat} (hj : j < len) : nthF ns len i j < ns.getD j 0 :=
  (nth_inv hlen hok hi len (Nat.le_refl _)).2.2 j (by omega) hj
theorem nth_idx {ns : List Nat} {len i : Nat} (hlen : len = ns.length) (hok : LOk ns) (hi : i < prodN ns) : idxN ns (dlist (nthF ns len i) len) ns.length = i := by
  obtain ⟨h1, h2, _⟩ := nth_inv hlen hok hi len (Nat.le_refl _)
  rw [Nat.sub_self] at h1 h2
  have h0 : (nthSt ns len i (dn len len)).1 = 0 := by simpa [prodN] using h2
  rw [h0] at h1
  have h4 := hor_idx (ns := ns) (ds := dlist (nthF ns len i) len) (f := nthF ns len i) len 0 (fun j hj => dlist_getD _ (by omega))
  rw [Nat.zero_add] at h4
  rw [← hlen, ← h4]
  exact h1

/-! ### digits are told by their index -/
theorem idx_inj {ns ds es : List Nat} (hd : ∀ k, k < ns.length → ds.getD k 0 < ns.getD k 0) (he : ∀ k, k < ns.length → es.getD k 0 < ns.getD k 0) :
    ∀ k, k ≤ ns.length → idxN ns ds k = idxN ns es k → ∀ j, j < k → ds.getD j 0 = es.getD j 0
  | 0, _, _, j, hj => by omega
  | k + 1, hk, h, j, hj => by
    have h1 := hd k (by omega)
    have h2 := he k (by omega)
    simp only [idxN] at h
    have h3 : ds.getD k 0 = es.getD k 0 := by
      have := congrArg (· % ns.getD k 0) h
      rw [Nat.mul_comm, Nat.mul_add_mod, Nat.mod_eq_of_lt h1, Nat.mul_comm, Nat.mul_add_mod, Nat.mod_eq_of_lt h2] at this
      exact this
    have h4 : idxN ns ds k = idxN ns es k := by
      rw [h3] at h
      have h5 : idxN ns ds k * ns.getD k 0 = idxN ns es k * ns.getD k 0 := by omega
      exact Nat.eq_of_mul_eq_mul_right (by omega) h5
    by_cases h6 : j = k
    · subst h6; exact h3
    · exact idx_inj hd he k (by omega) h4 j (by omega)
theorem list_ext {l m : List Nat} (hl : l.length = m.length) (h : ∀ j, j < l.length → l.getD j 0 = m.getD j 0) : l = m := by
  refine List.ext_getElem hl fun j h1 h2 => ?_
  have := h j h1
  rwa [getD_in l 0 h1, getD_in m 0 h2] at this

/-! ### the next one -/
theorem next_lt {ns ds : List Nat} {i : Nat} (h : NextAt ns ds i) (hd : ∀ k, k < ns.length → ds.getD k 0 < ns.getD k 0) {j : Nat} (hj : j < ns.length) : nextF ds i j < ns.getD j 0 := by
  unfold nextF
  have := hd j hj
  split
  · exact this
  · split
    · rename_i h2; subst h2; exact h.2.1
    · omega
theorem next_same {ns ds : List Nat} {i : Nat} (_h : NextAt ns ds i) : ∀ k, k ≤ i → k ≤ ns.length → idxN ns (dlist (nextF ds i) ns.length) k = idxN ns ds k
  | 0, _, _ => rfl
  | k + 1, hk, hn => by
    simp only [idxN]
    rw [next_same _h k (by omega) (by omega), dlist_getD _ (by omega)]
    unfold nextF
    rw [if_pos (by omega)]
theorem next_after {ns ds : List Nat} {i : Nat} (h : NextAt ns ds i) : ∀ m, i + 1 + m ≤ ns.length → idxN ns (dlist (nextF ds i) ns.length) (i + 1 + m) = idxN ns ds (i + 1 + m) + 1
  | 0, hm => by
    simp only [idxN]
    rw [next_same h i (Nat.le_refl _) (by omega), dlist_getD _ (by omega)]
    unfold nextF
    rw [if_neg (by omega), if_pos rfl]
    omega
  | m + 1, hm => by
    have ih := next_after h m (by omega)
    rw [show i + 1 + (m + 1) = (i + 1 + m) + 1 by omega]
    simp only [idxN]
    rw [ih, dlist_getD _ (by omega)]
    have hl := h.2.2 (i + 1 + m) (by omega) (by omega)
    unfold nextF
    rw [if_neg (by omega), if_neg (by omega), ← hl, Nat.add_mul]
    omega
theorem next_idx {ns ds : List Nat} {i : Nat} (h : NextAt ns ds i) : idxN ns (dlist (nextF ds i) ns.length) ns.length = idxN ns ds ns.length + 1 := by
  have h1 := h.1
  have := next_after h (ns.length - (i + 1)) (by omega)
  rwa [show i + 1 + (ns.length - (i + 1)) = ns.length by omega] at this
theorem last_idx {ns ds : List Nat} (h : ∀ j, j < ns.length → ds.getD j 0 + 1 = ns.getD j 0) : ∀ k, k ≤ ns.length → idxN ns ds k + 1 = prodN (ns.take k)
  | 0, _ => by simp [idxN, prodN]
  | k + 1, hk => by
    rw [take_snoc ns 0 (by omega), prodN_snoc, ← last_idx h k (by omega)]
    simp only [idxN]
    have := h k (by omega)
    rw [← this, Nat.add_mul]
    omega

/-! ### the order of lists -/
theorem cmpL_lt : ∀ {i : Nat} {a b : List Int}, i < a.length → i < b.length → (∀ j, j < i → a.getD j 0 = b.getD j 0) → a.getD i 0 < b.getD i 0 → cmpL a b = -1
  | _, [], _, h, _, _, _ => by simp at h
  | _, _ :: _, [], _, h, _, _ => by simp at h
  | 0, x :: xs, y :: ys, _, _, _, h => by
    simp only [List.getD_cons_zero] at h
    simp [cmpL, cmpV, h]
  | i + 1, x :: xs, y :: ys, h1, h2, h3, h4 => by
    have h0 : x = y := by simpa using h3 0 (by omega)
    subst h0
    have := cmpL_lt (i := i) (a := xs) (b := ys) (by simpa using h1) (by simpa using h2) (fun j hj => by simpa using h3 (j + 1) (by omega)) (by simpa using h4)
    simp [cmpL, cmpV, this]
theorem cmpL_self : ∀ a : List Int, cmpL a a = 0
  | [] => rfl
  | x :: xs => by simp [cmpL, cmpV, cmpL_self xs]
theorem cmpV_neg (a b : Int) : cmpV b a = - cmpV a b := by
  unfold cmpV
  split <;> split <;> first | rfl | omega
theorem cmpL_neg : ∀ a b : List Int, cmpL b a = - cmpL a b
  | [], [] => rfl
  | [], _ :: _ => rfl
  | _ :: _, [] => rfl
  | x :: xs, y :: ys => by
    have h1 := cmpV_neg x y
    have h2 := cmpL_neg xs ys
    simp only [cmpL]
    rw [h1]
    by_cases h : cmpV x y = 0
    · rw [if_pos h, if_pos (by rw [h]; rfl)]; exact h2
    · rw [if_neg h, if_neg (by omega)]
end Go.Proofs.Ytjnakkdonkgcjaa
