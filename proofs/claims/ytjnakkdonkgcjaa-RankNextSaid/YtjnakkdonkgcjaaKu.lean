/- The statement RankNth, walked. -/
import Derived.Test.YtjnakkdonkgcjaaKp
namespace Go.Proofs.Ytjnakkdonkgcjaa
open Go.RowKit

/-! ### choices as natural numbers -/
theorem inB_true : ∀ (l c : List Int), (∀ k, k < l.length → k < c.length → 0 ≤ c.getD k 0 ∧ c.getD k 0 < l.getD k 0) → inB l c = true
  | [], _, _ => by simp [inB]
  | _ :: _, [], _ => by simp [inB]
  | x :: xs, y :: ys, h => by
    have h0 := h 0 (by simp) (by simp)
    simp only [List.getD_cons_zero] at h0
    rw [inB, decide_eq_true h0.1, decide_eq_true h0.2, inB_true xs ys (fun k h1 h2 => by simpa using h (k + 1) (by simpa using h1) (by simpa using h2))]
    rfl
theorem inB_at : ∀ (l c : List Int), inB l c = true → ∀ k, k < l.length → k < c.length → 0 ≤ c.getD k 0 ∧ c.getD k 0 < l.getD k 0
  | [], _, _, k, h, _ => by simp at h
  | _ :: _, [], _, k, _, h => by simp at h
  | x :: xs, y :: ys, h, k, h1, h2 => by
    simp only [inB, Bool.and_eq_true, decide_eq_true_eq] at h
    cases k with
    | zero => simpa using h.1
    | succ k => simpa using inB_at xs ys h.2 k (by simpa using h1) (by simpa using h2)
theorem choice_true {ns ds : List Nat} (h : LOk ns) (hl : ds.length = ns.length) (hd : ∀ k, k < ns.length → ds.getD k 0 < ns.getD k 0) : choiceB (castL ns) (castL ds) = true := by
  unfold choiceB
  rw [right_of h, castL_length, castL_length, decide_eq_true hl, inB_true]
  · rfl
  · intro k h1 _
    rw [castL_length] at h1
    rw [castL_getD, castL_getD]
    have := hd k h1
    omega
theorem choice_nat {l c : List Int} (h : choiceB l c = true) : ∃ ns ds, l = castL ns ∧ c = castL ds ∧ LOk ns ∧ ds.length = ns.length ∧ ∀ k, k < ns.length → ds.getD k 0 < ns.getD k 0 := by
  simp only [choiceB, Bool.and_eq_true, decide_eq_true_eq] at h
  obtain ⟨⟨h1, h2⟩, h3⟩ := h
  obtain ⟨ns, rfl, hok⟩ := right_nat h1
  rw [castL_length] at h2
  have h4 := inB_at _ _ h3
  have h5 : c = castL (c.map Int.toNat) := by
    unfold castL
    rw [List.map_map]
    conv => lhs; rw [← List.map_id c]
    refine List.map_congr_left fun a ha => ?_
    obtain ⟨i, hi, rfl⟩ := List.mem_iff_getElem.1 ha
    have := h4 i (by rw [castL_length]; omega) hi
    rw [getD_in c 0 hi] at this
    simp; omega
  refine ⟨ns, c.map Int.toNat, rfl, h5, hok, by simpa using h2, fun k hk => ?_⟩
  have := h4 k (by rw [castL_length]; exact hk) (by omega)
  rw [castL_getD] at this
  have h6 : c.getD k 0 = (((c.map Int.toNat).getD k 0 : Nat) : Int) := by rw [← castL_getD, ← h5]
  omega

set_option maxRecDepth 100000 in
theorem nthLaw_wrong (A : Option Addr) (len cap : Nat) (l : List Int) (hlen : Hid (len = l.length)) (hbig : len ≤ 9223372036854775807) (w : World) (hE : SRow w A l) (i : Int) (hr : Hid (rightL l = false)) :
    Calls Try.prog 7 #[.slice A len cap, .int .i64 i] w (Ret (.bool true) w) := by
  have HE := Lib.hid hE
  clear hE
  go_enter Try.func7, Try.ntmps7
  go_wp2_with fail
  refine (anchor_any _).mono ?_
  rintro e w1 ⟨rfl, hb1⟩
  have HE1 := Lib.hid (HE.out.below hb1)
  have HW := Lib.hid hb1
  clear hb1 HE
  go_wp2_with fail
  refine (count_wrong A len cap l hlen hr _ HE1.out).mono ?_
  rintro e w1 ⟨rfl, rfl⟩
  go_wp2_with fail
  refine (nth_wrong A len cap l hlen hr _ HE1.out i).mono ?_
  rintro e w2 ⟨rfl, hb2⟩
  have HE2 := Lib.hid (HE1.out.below hb2)
  have HB := Lib.hid (below_then HW.out HW.out.size hb2)
  clear hb2
  go_wp2_with fail
  refine (limited_any A len cap l hlen hbig _ HE2.out).mono ?_
  rintro e w3 ⟨rfl, rfl⟩
  rw [hr.out]
  go_wp2_with fail
  go_ret
  exact ⟨rfl, HB.out⟩

set_option maxRecDepth 100000 in
set_option maxHeartbeats 1000000 in
theorem nthLaw_out (A : Option Addr) (len cap : Nat) (ns : List Nat) (hlen : Hid (len = ns.length)) (w : World) (hE : SRow w A (castL ns)) (i : Int) (hr : Hid (LOk ns)) (hi : i < 0 ∨ (0 ≤ i ∧ (prodN ns : Int) ≤ i)) :
    Calls Try.prog 7 #[.slice A len cap, .int .i64 i] w (Ret (.bool true) w) := by
  have HE := Lib.hid hE
  have hl12 : len ≤ 12 := by rw [hlen.out]; exact hr.out.hl
  have HI := Lib.hid hi
  obtain ⟨P, hP⟩ : ∃ P, prodN ns = P := ⟨_, rfl⟩
  rw [hP] at hi
  have HP := Lib.hid hP
  clear hE hP
  go_enter Try.func7, Try.ntmps7
  go_wp2_with fail
  refine (anchor_any _).mono ?_
  rintro e w1 ⟨rfl, hb1⟩
  have HE1 := Lib.hid (HE.out.below hb1)
  have HW := Lib.hid hb1
  clear hb1 HE
  go_wp2_with fail
  refine (count_ok A len cap ns hlen hr _ HE1.out).mono ?_
  rintro e w1 ⟨rfl, rfl⟩
  rw [HP.out]
  go_wp2_with fail
  refine (nth_out A len cap ns hlen hr _ HE1.out i HI.out).mono ?_
  rintro e w2 ⟨rfl, hb2⟩
  have HE2 := Lib.hid (HE1.out.below hb2)
  have HB := Lib.hid (below_then HW.out HW.out.size hb2)
  clear hb2
  go_wp2_with fail
  refine (limited_any A len cap (castL ns) (Lib.hid (by rw [castL_length]; exact hlen.out)) (by omega) _ HE2.out).mono ?_
  rintro e w3 ⟨rfl, rfl⟩
  rw [right_of hr.out]
  go_wp2_with fail
  obtain ⟨wo, rfl⟩ : ∃ wo : World, wo = w3 := ⟨_, rfl⟩
  go_loopg [9, 49] len (fun g s4 s wr => wr = wo ∧ ∃ k : Nat, k ≤ len ∧ g = len - k ∧ s = .int .i64 k ∧ s4 = .int .i64 (prodN (ns.take k) : Nat))
  case atStart => exact ⟨rfl, 0, by omega, rfl, rfl, rfl⟩
  case round =>
    obtain ⟨rfl, k, hk, rfl, rfl, rfl⟩ := hrel
    by_cases hlt : k < len
    · have hlt' : k < ns.length := by rw [← hlen.out]; exact hlt
      obtain ⟨b, o, rfl, d1⟩ := HE2.out k (by rw [castL_length]; exact hlt')
      rw [castL_getD] at d1
      have hb := prodN_le hr.out.hk (k + 1) (by omega)
      have hp : 12 ^ (k + 1) ≤ 12 ^ 12 := Nat.pow_le_pow_right (by omega) (by omega)
      rw [take_snoc ns 0 hlt', prodN_snoc] at hb
      have HT := Lib.hid (take_snoc ns 0 hlt')
      obtain ⟨v, hv⟩ : ∃ v, ns.getD k 0 = v := ⟨_, rfl⟩
      obtain ⟨p, hpp⟩ : ∃ p, prodN (ns.take k) = p := ⟨_, rfl⟩
      rw [hv, hpp] at hb
      rw [hv] at d1 HT
      rw [hpp]
      have HPP := Lib.hid hpp
      have hb2 : p * v ≤ 9000000000000 := Nat.le_trans hb.2 (Nat.le_trans hp (by decide))
      have hb3 : (p : Int) * (v : Int) = ((p * v : Nat) : Int) := by simp
      have hw : IntKind.i64.wrap ((p : Int) * (v : Int)) = ((p * v : Nat) : Int) := by rw [hb3]; exact wrap64_of _ hb2
      clear hb hp hv hpp hb3
      go_wp2_with fail
      go_roundg (len - (k + 1))
      case measure => omega
      case rel => exact ⟨rfl, k + 1, by omega, rfl, by go_num, by rw [HT.out, prodN_snoc, HPP.out]; simp⟩
    · obtain rfl : k = len := by omega
      have HT : Hid (prodN (ns.take k) = P) := Lib.hid (by rw [hlen.out, List.take_length]; exact HP.out)
      rw [HT.out]
      rcases hi with hi | ⟨hi1, hi2⟩
      all_goals
        go_wp2_with fail
        go_ret
        exact ⟨rfl, HB.out⟩

set_option maxRecDepth 100000 in
set_option maxHeartbeats 1000000 in
theorem nthLaw_ok (A : Option Addr) (len cap : Nat) (ns : List Nat) (hlen : Hid (len = ns.length)) (w : World) (hE : SRow w A (castL ns)) (i : Nat) (hr : Hid (LOk ns)) (hi : Hid (i < prodN ns)) :
    Calls Try.prog 7 #[.slice A len cap, .int .i64 i] w (Ret (.bool true) w) := by
  have HE := Lib.hid hE
  have hl12 : len ≤ 12 := by rw [hlen.out]; exact hr.out.hl
  obtain ⟨P, hP⟩ : ∃ P, prodN ns = P := ⟨_, rfl⟩
  have hiP : i < P := by rw [← hP]; exact hi.out
  have hi0 : ¬ (i : Int) < 0 := by omega
  have hi1 : ¬ (P : Int) ≤ (i : Int) := by omega
  have HP := Lib.hid hP
  clear hE hP
  go_enter Try.func7, Try.ntmps7
  go_wp2_with fail
  refine (anchor_any _).mono ?_
  rintro e w1 ⟨rfl, hb1⟩
  have HE1 := Lib.hid (HE.out.below hb1)
  have HW := Lib.hid hb1
  clear hb1 HE
  go_wp2_with fail
  refine (count_ok A len cap ns hlen hr _ HE1.out).mono ?_
  rintro e w1 ⟨rfl, rfl⟩
  rw [HP.out]
  go_wp2_with fail
  refine (nth_ok A len cap ns hlen hr _ HE1.out i hi.out).mono ?_
  rintro e w2 ⟨b2, rfl, hrow, hb2⟩
  have HR := Lib.hid hrow
  have HS : Hid (SRow w2 (some ⟨b2, 0, none⟩) (castL (dlist (nthF ns len i) len))) := Lib.hid (row_srow hrow (by rw [castL_length, dlist_length]) (fun j hj => by rw [castL_getD, dlist_getD _ hj]))
  have HE2 := Lib.hid (HE1.out.below hb2)
  have HB := Lib.hid (below_then HW.out HW.out.size hb2)
  clear hb2 hrow
  go_wp2_with fail
  refine (limited_any A len cap (castL ns) (Lib.hid (by rw [castL_length]; exact hlen.out)) (by omega) _ HE2.out).mono ?_
  rintro e w3 ⟨rfl, rfl⟩
  rw [right_of hr.out]
  go_wp2_with fail
  obtain ⟨wo, rfl⟩ : ∃ wo : World, wo = w3 := ⟨_, rfl⟩
  go_loopg [9, 49] len (fun g s4 s wr => wr = wo ∧ ∃ k : Nat, k ≤ len ∧ g = len - k ∧ s = .int .i64 k ∧ s4 = .int .i64 (prodN (ns.take k) : Nat))
  case atStart => exact ⟨rfl, 0, by omega, rfl, rfl, rfl⟩
  case round =>
    obtain ⟨rfl, k, hk, rfl, rfl, rfl⟩ := hrel
    by_cases hlt : k < len
    · have hlt' : k < ns.length := by rw [← hlen.out]; exact hlt
      obtain ⟨b, o, rfl, d1⟩ := HE2.out k (by rw [castL_length]; exact hlt')
      rw [castL_getD] at d1
      have hb := prodN_le hr.out.hk (k + 1) (by omega)
      have hp : 12 ^ (k + 1) ≤ 12 ^ 12 := Nat.pow_le_pow_right (by omega) (by omega)
      rw [take_snoc ns 0 hlt', prodN_snoc] at hb
      have HT := Lib.hid (take_snoc ns 0 hlt')
      obtain ⟨v, hv⟩ : ∃ v, ns.getD k 0 = v := ⟨_, rfl⟩
      obtain ⟨p, hpp⟩ : ∃ p, prodN (ns.take k) = p := ⟨_, rfl⟩
      rw [hv, hpp] at hb
      rw [hv] at d1 HT
      rw [hpp]
      have HPP := Lib.hid hpp
      have hb2 : p * v ≤ 9000000000000 := Nat.le_trans hb.2 (Nat.le_trans hp (by decide))
      have hb3 : (p : Int) * (v : Int) = ((p * v : Nat) : Int) := by simp
      have hw : IntKind.i64.wrap ((p : Int) * (v : Int)) = ((p * v : Nat) : Int) := by rw [hb3]; exact wrap64_of _ hb2
      clear hb hp hv hpp hb3
      go_wp2_with fail
      go_roundg (len - (k + 1))
      case measure => omega
      case rel => exact ⟨rfl, k + 1, by omega, rfl, by go_num, by rw [HT.out, prodN_snoc, HPP.out]; simp⟩
    · obtain rfl : k = len := by omega
      have HT : Hid (prodN (ns.take k) = P) := Lib.hid (by rw [hlen.out, List.take_length]; exact HP.out)
      rw [HT.out]
      go_wp2_with fail
      generalize decide (P ≤ i) = dead1
      go_loopg [89] k (fun g s wr2 => wr2 = wr ∧ ∃ m : Nat, m ≤ k ∧ g = k - m ∧ s = .int .i64 m)
      case atStart => exact ⟨rfl, 0, by omega, rfl, rfl⟩
      case round =>
        obtain ⟨rfl, m, hm, rfl, rfl⟩ := hrel
        by_cases hlt2 : m < k
        · have d2 := HR.out.cell hlt2
          obtain ⟨b, o, rfl, d1⟩ := HE2.out m (by rw [castL_length, ← hlen.out]; exact hlt2)
          rw [castL_getD] at d1
          have hdl := nth_lt hlen.out hr.out hi.out hlt2
          obtain ⟨u, hu⟩ : ∃ u, ns.getD m 0 = u := ⟨_, rfl⟩
          obtain ⟨v, hv⟩ : ∃ v, nthF ns k i m = v := ⟨_, rfl⟩
          rw [hu] at d1 hdl
          rw [hv] at d2 hdl
          have f1 : ¬ (v : Int) < 0 := by omega
          have f2 : ¬ (u : Int) ≤ (v : Int) := by omega
          clear hu hv
          go_wp2_with fail
          go_roundg (k - (m + 1))
          case measure => omega
          case rel => exact ⟨rfl, m + 1, by omega, rfl, by go_num⟩
        · obtain rfl : m = k := by omega
          go_wp2_with fail
          refine (index_ok A (some ⟨b2, 0, none⟩) m m cap m ns (dlist (nthF ns m i) m) hlen (Lib.hid (by rw [dlist_length])) hr (Lib.hid (by rw [dlist_length]; exact hlen.out)) (Lib.hid (fun j hj => by rw [dlist_getD _ (by rw [hlen.out]; exact hj)]; exact nth_lt hlen.out hr.out hi.out (by rw [hlen.out]; exact hj))) (Lib.hid (choice_true hr.out (by rw [dlist_length]; exact hlen.out) (fun j hj => by rw [dlist_getD _ (by rw [hlen.out]; exact hj)]; exact nth_lt hlen.out hr.out hi.out (by rw [hlen.out]; exact hj)))) _ HE2.out HS.out).mono ?_
          rintro e w4 ⟨rfl, rfl⟩
          rw [nth_idx hlen.out hr.out hi.out]
          go_wp2_with fail
          go_ret
          exact ⟨rfl, HB.out⟩

theorem nthLaw_any (A : Option Addr) (len cap : Nat) (l : List Int) (hlen : Hid (len = l.length)) (hbig : len ≤ 9223372036854775807) (w : World) (hE : SRow w A l) (i : Int) (_hi : -9223372036854775808 ≤ i ∧ i ≤ 9223372036854775807) :
    Calls Try.prog 7 #[.slice A len cap, .int .i64 i] w (Ret (.bool true) w) := by
  cases hr : rightL l
  · exact nthLaw_wrong A len cap l hlen hbig w hE i (Lib.hid hr)
  · obtain ⟨ns, rfl, hok⟩ := right_nat hr
    have hl : Hid (len = ns.length) := Lib.hid (by rw [← castL_length]; exact hlen.out)
    by_cases h : i < 0 ∨ (0 ≤ i ∧ (prodN ns : Int) ≤ i)
    · exact nthLaw_out A len cap ns hl w hE i (Lib.hid hok) h
    · obtain ⟨j, rfl⟩ : ∃ j : Nat, i = j := ⟨i.toNat, by omega⟩
      exact nthLaw_ok A len cap ns hl w hE j (Lib.hid hok) (Lib.hid (by omega))
end Go.Proofs.Ytjnakkdonkgcjaa
