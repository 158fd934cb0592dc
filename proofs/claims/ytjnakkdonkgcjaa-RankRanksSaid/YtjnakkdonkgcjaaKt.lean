/- The statement RankRanks, walked. -/
import Derived.Test.YtjnakkdonkgcjaaKp
namespace Go.Proofs.Ytjnakkdonkgcjaa
open Go.RowKit

def neB (l : List Int) (v : Int) : Nat → Bool
  | 0 => true
  | m + 1 => neB l v m && decide (v ≠ l.getD m 0)
theorem pos_ne (l : List Int) {v : Int} (hv : 0 ≤ v) : ∀ k, decide (posF l k v.toNat < 0) = neB l v k
  | 0 => rfl
  | k + 1 => by
    have ih := pos_ne l hv k
    have h1 : ((v.toNat : Nat) : Int) = v := by omega
    unfold posF neB
    rw [← ih, h1]
    generalize l.getD k 0 = x
    by_cases h : x = v
    · rw [if_pos h, decide_eq_false (show ¬ (k : Int) < 0 by omega), decide_eq_false (show ¬ v ≠ x from fun e => e h.symm), Bool.and_false]
    · rw [if_neg h, decide_eq_true (show v ≠ x from fun e => h e.symm), Bool.and_true]
theorem ranksOk_succ (l : List Int) (k : Nat) : ranksOk l (k + 1) = ((ranksOk l k && decide (0 ≤ l.getD k 0) && decide (l.getD k 0 < (l.length : Int))) && neB l (l.getD k 0) k) := by
  rw [ranksOk]
  have hp := @pos_ne l (l.getD k 0)
  generalize l.getD k 0 = x at hp ⊢
  by_cases h : 0 ≤ x
  · rw [hp h k]
    generalize neB l x k = y
    generalize ranksOk l k = z
    cases y <;> cases z <;> simp
  · rw [decide_eq_false h]
    simp

/-! ### an order and its ranks -/
theorem posF_neg (l : List Int) (j : Nat) : ∀ k, posF l k j < 0 ↔ ∀ i, i < k → l.getD i 0 ≠ (j : Int)
  | 0 => by simp [posF]
  | k + 1 => by
    have ih := posF_neg l j k
    unfold posF
    by_cases h : l.getD k 0 = (j : Int)
    · rw [if_pos h]
      exact ⟨fun h1 => by omega, fun h1 => absurd h (h1 k (by omega))⟩
    · rw [if_neg h, ih]
      refine ⟨fun h1 i hi => ?_, fun h1 i hi => h1 i (by omega)⟩
      by_cases h2 : i = k
      · subst h2; exact h
      · exact h1 i (by omega)
theorem posF_at (l : List Int) (j : Nat) : ∀ k, 0 ≤ posF l k j → ∃ i : Nat, i < k ∧ posF l k j = i ∧ l.getD i 0 = (j : Int)
  | 0, h => by simp [posF] at h
  | k + 1, h => by
    unfold posF at h ⊢
    by_cases h1 : l.getD k 0 = (j : Int)
    · rw [if_pos h1]; exact ⟨k, by omega, rfl, h1⟩
    · rw [if_neg h1] at h ⊢
      obtain ⟨i, h2, h3, h4⟩ := posF_at l j k h
      exact ⟨i, by omega, h3, h4⟩
/-- an order: numbers below the length, no two the same -/
structure Ord (l : List Int) : Prop where
  rng : ∀ i, i < l.length → 0 ≤ l.getD i 0 ∧ l.getD i 0 < (l.length : Int)
  ne : ∀ i j, i < j → j < l.length → l.getD i 0 ≠ l.getD j 0
theorem neB_iff (l : List Int) (v : Int) : ∀ k, neB l v k = true ↔ ∀ i, i < k → v ≠ l.getD i 0
  | 0 => by simp [neB]
  | k + 1 => by
    rw [neB, Bool.and_eq_true, neB_iff l v k, decide_eq_true_eq]
    refine ⟨fun h i hi => ?_, fun h => ⟨fun i hi => h i (by omega), h k (by omega)⟩⟩
    by_cases h2 : i = k
    · subst h2; exact h.2
    · exact h.1 i (by omega)
theorem ranksOk_iff (l : List Int) : ∀ k, ranksOk l k = true ↔ ∀ i, i < k → (0 ≤ l.getD i 0 ∧ l.getD i 0 < (l.length : Int)) ∧ ∀ j, j < i → l.getD i 0 ≠ l.getD j 0
  | 0 => by simp [ranksOk]
  | k + 1 => by
    rw [ranksOk_succ, Bool.and_eq_true, Bool.and_eq_true, Bool.and_eq_true, ranksOk_iff l k, decide_eq_true_eq, decide_eq_true_eq, neB_iff]
    refine ⟨fun h i hi => ?_, fun h => ⟨⟨⟨fun i hi => h i (by omega), (h k (by omega)).1.1⟩, (h k (by omega)).1.2⟩, (h k (by omega)).2⟩⟩
    by_cases h2 : i = k
    · subst h2; exact ⟨⟨h.1.1.2, h.1.2⟩, h.2⟩
    · exact h.1.1.1 i (by omega)
theorem ord_iff (l : List Int) : ranksOk l l.length = true ↔ Ord l := by
  rw [ranksOk_iff]
  exact ⟨fun h => ⟨fun i hi => (h i hi).1, fun i j hij hj => ((h j hj).2 i hij).symm⟩, fun h i hi => ⟨h.rng i hi, fun j hj => (h.ne j i hj hi).symm⟩⟩
theorem pig : ∀ (n : Nat) (l : List Nat), l.Nodup → (∀ x ∈ l, x < n) → l.length ≤ n
  | 0, l, _, h => by
    cases l with
    | nil => exact Nat.le_refl _
    | cons x xs => exact absurd (h x (by simp)) (by omega)
  | n + 1, l, nd, h => by
    have h1 := pig n (l.erase n) (nd.erase n) (fun x hx => by
      have h2 := (List.Nodup.mem_erase_iff nd).1 hx
      have := h x h2.2
      omega)
    rw [List.length_erase] at h1
    split at h1 <;> omega
theorem Ord.surj {l : List Int} (h : Ord l) {j : Nat} (hj : j < l.length) : ∃ i, i < l.length ∧ l.getD i 0 = (j : Int) := by
  by_cases hx : ∃ i, i < l.length ∧ l.getD i 0 = (j : Int)
  · exact hx
  · exfalso
    have hnd : (j :: l.map Int.toNat).Nodup := by
      rw [List.nodup_cons]
      refine ⟨fun hm => ?_, ?_⟩
      · obtain ⟨x, hx1, hx2⟩ := List.mem_map.1 hm
        obtain ⟨i, hi, rfl⟩ := List.mem_iff_getElem.1 hx1
        refine hx ⟨i, hi, ?_⟩
        have := h.rng i hi
        rw [getD_in l 0 hi] at this ⊢
        omega
      · rw [List.Nodup, List.pairwise_iff_getElem]
        intro i k hi hk hik
        rw [List.length_map] at hi hk
        rw [List.getElem_map, List.getElem_map]
        have h1 := h.ne i k hik hk
        have h2 := h.rng i hi
        have h3 := h.rng k hk
        rw [getD_in l 0 hi] at h1 h2
        rw [getD_in l 0 hk] at h1 h3
        omega
    have := pig l.length _ hnd (fun x hx => by
      rcases List.mem_cons.1 hx with rfl | hx
      · exact hj
      · obtain ⟨y, hy1, hy2⟩ := List.mem_map.1 hx
        obtain ⟨i, hi, rfl⟩ := List.mem_iff_getElem.1 hy1
        have := h.rng i hi
        rw [getD_in l 0 hi] at this
        omega)
    simp at this
    omega
def rankL (l : List Int) : List Int := (List.range l.length).map (posF l l.length)
theorem rankL_length (l : List Int) : (rankL l).length = l.length := by simp [rankL]
theorem rankL_getD {l : List Int} {j : Nat} (hj : j < l.length) : (rankL l).getD j 0 = posF l l.length j := by
  simp [rankL, List.getD_eq_getElem?_getD, List.getElem?_map, List.getElem?_range hj]
theorem Ord.pos {l : List Int} (h : Ord l) {j : Nat} (hj : j < l.length) : ∃ i : Nat, i < l.length ∧ posF l l.length j = i ∧ l.getD i 0 = (j : Int) := by
  refine posF_at l j l.length ?_
  obtain ⟨i, hi, he⟩ := h.surj hj
  have h1 := mt (posF_neg l j l.length).1 (fun h2 => h2 i hi he)
  omega
theorem Ord.inj {l : List Int} (h : Ord l) {i j : Nat} (hi : i < l.length) (hj : j < l.length) (e : l.getD i 0 = l.getD j 0) : i = j := by
  rcases Nat.lt_trichotomy i j with h1 | h1 | h1
  · exact absurd e (h.ne i j h1 hj)
  · exact h1
  · exact absurd e.symm (h.ne j i h1 hi)
/-- an order's ranks tell where each number stands -/
theorem Ord.rank_at {l : List Int} (h : Ord l) {i : Nat} (hi : i < l.length) : posF l l.length (l.getD i 0).toNat = i := by
  have h1 := h.rng i hi
  obtain ⟨k, hk, he, hl⟩ := h.pos (j := (l.getD i 0).toNat) (by omega)
  rw [he, h.inj hk hi (by omega)]
theorem Ord.ranks {l : List Int} (h : Ord l) : Ord (rankL l) := by
  refine ⟨fun i hi => ?_, fun i j hij hj => ?_⟩
  · rw [rankL_length] at hi
    obtain ⟨k, hk, he, _⟩ := h.pos hi
    rw [rankL_getD hi, rankL_length, he]
    omega
  · rw [rankL_length] at hj
    obtain ⟨k, hk, he, hl⟩ := h.pos (j := i) (by omega)
    obtain ⟨k', hk', he', hl'⟩ := h.pos hj
    rw [rankL_getD (by omega), rankL_getD hj, he, he']
    intro e
    have : k = k' := by omega
    subst this
    omega
/-- ranks of ranks are the order again -/
theorem Ord.back {l : List Int} (h : Ord l) {i : Nat} (hi : i < l.length) : posF (rankL l) (rankL l).length i = l.getD i 0 := by
  obtain ⟨k, hk, he, hl⟩ := h.ranks.pos (j := i) (by rw [rankL_length]; exact hi)
  rw [rankL_length] at hk
  rw [he]
  rw [rankL_getD hk] at hl
  obtain ⟨m, hm, he2, hl2⟩ := h.pos hk
  rw [← hl2]
  congr 1
  omega
theorem Ord.back_list {l : List Int} (h : Ord l) : rankL (rankL l) = l := by
  refine List.ext_getElem (by rw [rankL_length, rankL_length]) fun i h1 h2 => ?_
  rw [← getD_in _ 0 h1, ← getD_in _ 0 h2, rankL_getD (by rw [rankL_length]; exact h2), h.back h2]

set_option maxRecDepth 100000 in
set_option maxHeartbeats 1000000 in
theorem ranksLaw_any (A : Option Addr) (len cap : Nat) (l : List Int) (hlen : Hid (len = l.length)) (hcap : len ≤ cap) (w : World) (hE : SRow w A l) :
    Calls Try.prog 5 #[.slice A len cap] w (Ret (.bool true) w) := by
  have HE := Lib.hid hE
  clear hE
  by_cases h200 : len ≤ 200
  · go_enter Try.func5, Try.ntmps5
    go_wp2_with fail
    refine (anchor_any _).mono ?_
    rintro e w1 ⟨rfl, hb1⟩
    have HE1 := Lib.hid (HE.out.below hb1)
    have HW := Lib.hid hb1
    clear hb1 HE
    go_wp2_with fail
    obtain ⟨wo, rfl⟩ : ∃ wo : World, wo = w1 := ⟨_, rfl⟩
    go_loopg [3, 21] len (fun g s3 s wr => wr = wo ∧ ∃ k : Nat, k ≤ len ∧ g = len - k ∧ s = .int .i64 k ∧ s3 = .bool (ranksOk l k))
    case atStart => exact ⟨rfl, 0, by omega, rfl, rfl, rfl⟩
    case round =>
      obtain ⟨rfl, k, hk, rfl, rfl, rfl⟩ := hrel
      by_cases hlt : k < len
      · have hkl : k < l.length := by rw [← hlen.out]; exact hlt
        obtain ⟨b, o, rfl, d1⟩ := HE1.out k hkl
        have HS := Lib.hid (ranksOk_succ l k)
        rw [← hlen.out] at HS
        obtain ⟨v, hv⟩ : ∃ v, l.getD k 0 = v := ⟨_, rfl⟩
        obtain ⟨r, hr⟩ : ∃ r, ranksOk l k = r := ⟨_, rfl⟩
        rw [hv] at d1 HS
        rw [hr] at HS ⊢
        obtain ⟨y, hy⟩ : ∃ y, (r && decide (0 ≤ v) && decide (v < (len : Int))) = y := ⟨_, rfl⟩
        have HY := Lib.hid hy
        rw [hy] at HS
        clear hv hr hy
        have h3 : (r = false ∧ y = false) ∨ (r = true ∧ v < 0 ∧ y = false) ∨ (r = true ∧ 0 ≤ v ∧ y = decide (v < (len : Int))) := by
          have := HY.out
          cases r
          · exact .inl ⟨rfl, by rw [← this]; rfl⟩
          · by_cases h : 0 ≤ v
            · exact .inr (.inr ⟨rfl, h, by rw [← this, decide_eq_true h]; rfl⟩)
            · exact .inr (.inl ⟨rfl, by omega, by rw [← this, decide_eq_false h]; rfl⟩)
        clear HY
        rcases h3 with ⟨rfl, hy⟩ | ⟨rfl, hv0, hy⟩ | ⟨rfl, hv0, hy⟩
        all_goals
          have HYY := Lib.hid hy
          clear hy
          go_wp2_with fail
          go_loopg [3, 41] k (fun g s3 s wr2 => wr2 = wr ∧ ∃ (m : Nat) (q : Bool), m ≤ k ∧ g = k - m ∧ s = .int .i64 m ∧ s3 = .bool q ∧ Hid (q = (y && neB l v m)))
          case atStart => exact ⟨rfl, 0, _, by omega, rfl, rfl, rfl, Lib.hid (by rw [HYY.out]; simp [neB])⟩
          case round =>
            obtain ⟨rfl, m, q, hm, rfl, rfl, rfl, hq⟩ := hrel
            by_cases hlt2 : m < k
            · have hml : m < l.length := by omega
              obtain ⟨b', o', he, d2⟩ := HE1.out m hml
              simp at he
              obtain ⟨rfl, rfl⟩ := he
              have HN : Hid (neB l v (m + 1) = (neB l v m && decide (v ≠ l.getD m 0))) := Lib.hid rfl
              obtain ⟨x, hx⟩ : ∃ x, l.getD m 0 = x := ⟨_, rfl⟩
              rw [hx] at d2 HN
              clear hx
              cases q
              · go_wp2_with fail
                go_roundg (k - (m + 1))
                case measure => omega
                case rel => exact ⟨rfl, m + 1, false, by omega, rfl, by go_num, rfl, Lib.hid (by rw [HN.out, ← Bool.and_assoc, ← hq.out]; rfl)⟩
              · by_cases hvx : v = x
                · have hb1 : (v != x) = false := by simp [hvx]
                  go_wp2_with fail
                  go_roundg (k - (m + 1))
                  case measure => omega
                  case rel => exact ⟨rfl, m + 1, false, by omega, rfl, by go_num, rfl, Lib.hid (by rw [HN.out, ← Bool.and_assoc, ← hq.out]; simp [hvx])⟩
                · have hb1 : (v != x) = true := by simp [hvx]
                  go_wp2_with fail
                  go_roundg (k - (m + 1))
                  case measure => omega
                  case rel => exact ⟨rfl, m + 1, true, by omega, rfl, by go_num, rfl, Lib.hid (by rw [HN.out, ← Bool.and_assoc, ← hq.out]; simp [hvx])⟩
            · go_wp2_with fail
              go_roundg (len - (k + 1))
              case measure => omega
              case rel =>
                have hmk : m = k := by omega
                subst hmk
                exact ⟨rfl, m + 1, by omega, rfl, by go_num, by rw [HS.out, ← hq.out]⟩
      · obtain rfl : k = len := by omega
        have HK : Hid (k = l.length) := hlen
        rw [show ranksOk l k = ranksOk l l.length by rw [← HK.out]]
        obtain ⟨r, hr⟩ : ∃ r, ranksOk l l.length = r := ⟨_, rfl⟩
        rw [hr]
        have HR := Lib.hid hr
        clear hr
        cases r
        · go_wp2_with fail
          refine (ranks_any A k cap l HK (by omega) _ HE1.out).mono ?_
          rintro e w2 ⟨hb2, ⟨h0, rfl⟩ | ⟨h0, _⟩⟩
          · have HB := Lib.hid (below_then HW.out HW.out.size hb2)
            clear hb2
            go_wp2_with fail
            go_ret
            exact ⟨rfl, HB.out⟩
          · rw [HR.out] at h0; cases h0
        · have HO : Hid (Ord l) := Lib.hid ((ord_iff l).1 HR.out)
          go_wp2_with fail
          refine (ranks_any A k cap l HK (by omega) _ HE1.out).mono ?_
          rintro e w2 ⟨hb2, ⟨h0, rfl⟩ | ⟨h0, b2, rfl, hrow⟩⟩
          · rw [HR.out] at h0; cases h0
          · rw [← HK.out] at hrow ⊢
            have HROW := Lib.hid hrow
            have HB := Lib.hid (below_then HW.out HW.out.size hb2)
            have HE2 := Lib.hid (HE1.out.below hb2)
            have HS2 : Hid (SRow w2 (some ⟨b2, 0, none⟩) (rankL l)) := Lib.hid (row_srow hrow (by rw [rankL_length]; exact HK.out.symm) (fun j hj => by rw [rankL_getD (by rw [← HK.out]; exact hj), HK.out]))
            clear hrow h0 hb2 HE1 HW
            go_wp2_with fail
            obtain ⟨w2o, rfl⟩ : ∃ w2o : World, w2o = w2 := ⟨_, rfl⟩
            go_loopg [78] k (fun g s wr2 => wr2 = w2o ∧ ∃ i : Nat, i ≤ k ∧ g = k - i ∧ s = .int .i64 i)
            case atStart => exact ⟨rfl, 0, by omega, rfl, rfl⟩
            case round =>
              obtain ⟨rfl, i, hi, rfl, rfl⟩ := hrel
              by_cases hlt2 : i < k
              · have hil : i < l.length := by rw [← HK.out]; exact hlt2
                obtain ⟨b, o, rfl, d1⟩ := HE2.out i hil
                have hrng := HO.out.rng i hil
                have hat := HO.out.rank_at hil
                rw [← HK.out] at hrng hat
                obtain ⟨v, hv⟩ : ∃ v, l.getD i 0 = v := ⟨_, rfl⟩
                rw [hv] at d1 hrng hat
                obtain ⟨x, rfl⟩ : ∃ x : Nat, v = x := ⟨v.toNat, by omega⟩
                rw [Int.toNat_natCast] at hat
                have hx : x < k := by omega
                have d2 : wr.cell? ⟨b2, x, none⟩ = some (.int .i64 i) := by rw [HROW.out.cell hx, hat]
                clear hv hat hrng
                go_wp2_with fail
                go_roundg (k - (i + 1))
                case measure => omega
                case rel => exact ⟨rfl, i + 1, by omega, rfl, by go_num⟩
              · obtain rfl : i = k := by omega
                go_wp2_with fail
                refine (ranks_any (some ⟨b2, 0, none⟩) i i (rankL l) (Lib.hid (by rw [rankL_length]; exact HK.out)) (by omega) _ HS2.out).mono ?_
                rintro e w3 ⟨hb3, ⟨h0, rfl⟩ | ⟨h0, b3, rfl, hrow3⟩⟩
                · rw [(ord_iff _).2 HO.out.ranks] at h0; cases h0
                · have e3 : (rankL l).length = i := by rw [rankL_length]; exact HK.out.symm
                  rw [e3] at hrow3 ⊢
                  have HB3 := Lib.hid (below_then HB.out HB.out.size hb3)
                  have HE3 := Lib.hid (HE2.out.below hb3)
                  have HS3 : Hid (SRow w3 (some ⟨b3, 0, none⟩) l) := Lib.hid (row_srow hrow3 HK.out.symm (fun j hj => by
                    have := HO.out.back (i := j) (by rw [← HK.out]; exact hj)
                    rw [e3] at this
                    exact this.symm))
                  clear hrow3 h0 hb3 e3
                  go_wp2_with fail
                  refine (same_any (some ⟨b3, 0, none⟩) A i i i cap l l HK HK _ HS3.out HE3.out (by omega)).mono ?_
                  rintro e w4 ⟨rfl, rfl⟩
                  rw [decide_eq_true (show l = l from rfl)]
                  go_wp2_with fail
                  go_ret
                  exact ⟨rfl, HB3.out⟩
  · go_enter Try.func5, Try.ntmps5
    go_wp2_with fail
    refine (anchor_any _).mono ?_
    rintro e w1 ⟨rfl, hb1⟩
    have HW := Lib.hid hb1
    clear hb1
    go_wp2_with fail
    go_ret
    exact ⟨rfl, HW.out⟩
end Go.Proofs.Ytjnakkdonkgcjaa
