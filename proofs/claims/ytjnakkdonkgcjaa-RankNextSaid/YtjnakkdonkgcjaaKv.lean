/- The statement RankIndex, walked. -/
import Derived.Test.YtjnakkdonkgcjaaKu
namespace Go.Proofs.Ytjnakkdonkgcjaa
open Go.RowKit

set_option maxRecDepth 100000 in
theorem indexLaw_great (A B : Option Addr) (la lb ca cb : Nat) (w : World) (h : 50 < la ∨ 50 < lb) :
    Calls Try.prog 8 #[.slice A la ca, .slice B lb cb] w (Ret (.bool true) w) := by
  rcases h with h | h
  · go_enter Try.func8, Try.ntmps8
    go_wp2_with fail
    refine (anchor_any _).mono ?_
    rintro e w1 ⟨rfl, hb1⟩
    have HW := Lib.hid hb1
    clear hb1
    go_wp2_with fail
    go_ret
    exact ⟨rfl, HW.out⟩
  · by_cases h2 : 50 < la
    · go_enter Try.func8, Try.ntmps8
      go_wp2_with fail
      refine (anchor_any _).mono ?_
      rintro e w1 ⟨rfl, hb1⟩
      have HW := Lib.hid hb1
      clear hb1
      go_wp2_with fail
      go_ret
      exact ⟨rfl, HW.out⟩
    · go_enter Try.func8, Try.ntmps8
      go_wp2_with fail
      refine (anchor_any _).mono ?_
      rintro e w1 ⟨rfl, hb1⟩
      have HW := Lib.hid hb1
      clear hb1
      go_wp2_with fail
      go_ret
      exact ⟨rfl, HW.out⟩

set_option maxRecDepth 100000 in
set_option maxHeartbeats 1000000 in
/-- limits that are not right, or of another length -/
theorem indexLaw_w1 (A B : Option Addr) (la lb ca cb : Nat) (l c : List Int) (ha : Hid (la = l.length)) (hb : Hid (lb = c.length)) (h1 : ¬ 50 < la) (h2 : ¬ 50 < lb) (w : World) (hA : SRow w A l) (hB : SRow w B c)
    (hr : Hid (choiceB l c = false)) (h : Hid (rightL l = false) ∨ (Hid (rightL l = true) ∧ la ≠ lb)) :
    Calls Try.prog 8 #[.slice A la ca, .slice B lb cb] w (Ret (.bool true) w) := by
  have HA := Lib.hid hA
  have HB := Lib.hid hB
  clear hA hB
  go_enter Try.func8, Try.ntmps8
  go_wp2_with fail
  refine (anchor_any _).mono ?_
  rintro e w1 ⟨rfl, hb1⟩
  have HA1 := Lib.hid (HA.out.below hb1)
  have HB1 := Lib.hid (HB.out.below hb1)
  have HW := Lib.hid hb1
  clear hb1 HA HB
  go_wp2_with fail
  refine (index_wrong A B la lb ca cb l c ha hb hr _ HA1.out HB1.out).mono ?_
  rintro e w1 ⟨rfl, rfl⟩
  go_wp2_with fail
  refine (limited_any A la ca l ha (by omega) _ HA1.out).mono ?_
  rintro e w1 ⟨rfl, rfl⟩
  obtain ⟨wo, rfl⟩ : ∃ wo : World, wo = w1 := ⟨_, rfl⟩
  rcases h with h | ⟨h, hne⟩
  all_goals
    rw [h.out]
    (try have hnb : ((la : Int) == (lb : Int)) = false := by simp; omega)
    go_wp2_with fail
    go_loopg [7, 8, 42] 0 (fun _ s7 s8 s wr => wr = wo ∧ s = .int .i64 0 ∧ s7 = .bool false ∧ s8 = .int .i64 0)
    case atStart => exact ⟨rfl, rfl, rfl, rfl⟩
    case round =>
      obtain ⟨rfl, rfl, rfl, rfl⟩ := hrel
      by_cases h0 : 0 < lb
      · obtain ⟨b, o, rfl, d1⟩ := HB1.out 0 (by rw [← hb.out]; exact h0)
        rw [Nat.add_zero] at d1
        obtain ⟨v, hv⟩ : ∃ v, c.getD 0 0 = v := ⟨_, rfl⟩
        rw [hv] at d1
        clear hv
        go_wp2_with fail
        refine (next_wrong A (some ⟨b, o, none⟩) la lb ca cb l c ha hb hr _ HA1.out HB1.out).mono ?_
        rintro e w2 ⟨rfl, rfl⟩
        go_wp2_with fail
        go_ret
        exact ⟨rfl, HW.out⟩
      · go_wp2_with fail
        refine (next_wrong A B la lb ca cb l c ha hb hr _ HA1.out HB1.out).mono ?_
        rintro e w2 ⟨rfl, rfl⟩
        go_wp2_with fail
        go_ret
        exact ⟨rfl, HW.out⟩

theorem inB_step {l c : List Int} {k : Nat} (h1 : k < l.length) (h2 : k < c.length) : inB (l.drop k) (c.drop k) = (decide (0 ≤ c.getD k 0) && decide (c.getD k 0 < l.getD k 0) && inB (l.drop (k + 1)) (c.drop (k + 1))) := by
  rw [drop_cons h1, drop_cons h2, inB]
set_option maxRecDepth 100000 in
set_option maxHeartbeats 1000000 in
/-- right limits, a list of that length that is no choice -/
theorem indexLaw_w2 (A B : Option Addr) (la ca cb : Nat) (l c : List Int) (ha : Hid (la = l.length)) (hb : Hid (la = c.length)) (h1 : ¬ 50 < la) (w : World) (hA : SRow w A l) (hB : SRow w B c)
    (hr : Hid (choiceB l c = false)) (h : Hid (rightL l = true)) (hin : Hid (inB l c = false)) :
    Calls Try.prog 8 #[.slice A la ca, .slice B la cb] w (Ret (.bool true) w) := by
  have HA := Lib.hid hA
  have HB := Lib.hid hB
  clear hA hB
  go_enter Try.func8, Try.ntmps8
  go_wp2_with fail
  refine (anchor_any _).mono ?_
  rintro e w1 ⟨rfl, hb1⟩
  have HA1 := Lib.hid (HA.out.below hb1)
  have HB1 := Lib.hid (HB.out.below hb1)
  have HW := Lib.hid hb1
  clear hb1 HA HB
  go_wp2_with fail
  refine (index_wrong A B la la ca cb l c ha hb hr _ HA1.out HB1.out).mono ?_
  rintro e w1 ⟨rfl, rfl⟩
  go_wp2_with fail
  refine (limited_any A la ca l ha (by omega) _ HA1.out).mono ?_
  rintro e w1 ⟨rfl, rfl⟩
  obtain ⟨wo, rfl⟩ : ∃ wo : World, wo = w1 := ⟨_, rfl⟩
  rw [h.out]
  go_wp2_with fail
  go_loopg [7, 8, 42] la (fun g s7 s8 s wr => wr = wo ∧ ∃ (k : Nat) (z : Int), k ≤ la ∧ g = la - k ∧ s = .int .i64 k ∧ s7 = .bool true ∧ s8 = .int .i64 z ∧ Hid (inB (l.drop k) (c.drop k) = false))
  case atStart => exact ⟨rfl, 0, 0, by omega, rfl, rfl, rfl, rfl, hin⟩
  case round =>
    obtain ⟨rfl, k, z, hk, rfl, rfl, rfl, rfl, hc⟩ := hrel
    by_cases hlt : k < la
    · have hka : k < l.length := by rw [← ha.out]; exact hlt
      have hkb : k < c.length := by rw [← hb.out]; exact hlt
      obtain ⟨b, o, rfl, d1⟩ := HA1.out k hka
      obtain ⟨b', o', rfl, d2⟩ := HB1.out k hkb
      have hst := hc.out
      rw [inB_step hka hkb] at hst
      obtain ⟨u, hu⟩ : ∃ u, l.getD k 0 = u := ⟨_, rfl⟩
      obtain ⟨v, hv⟩ : ∃ v, c.getD k 0 = v := ⟨_, rfl⟩
      rw [hu, hv] at hst
      rw [hu] at d1
      rw [hv] at d2
      have HST := Lib.hid hst
      clear hu hv hc hst
      by_cases f1 : v < 0
      · go_wp2_with fail
        refine (next_wrong (some ⟨b, o, none⟩) (some ⟨b', o', none⟩) la la ca cb l c ha hb hr _ HA1.out HB1.out).mono ?_
        rintro e w2 ⟨rfl, rfl⟩
        go_wp2_with fail
        go_ret
        exact ⟨rfl, HW.out⟩
      · by_cases f2 : u ≤ v
        · go_wp2_with fail
          refine (next_wrong (some ⟨b, o, none⟩) (some ⟨b', o', none⟩) la la ca cb l c ha hb hr _ HA1.out HB1.out).mono ?_
          rintro e w2 ⟨rfl, rfl⟩
          go_wp2_with fail
          go_ret
          exact ⟨rfl, HW.out⟩
        · have HN : Hid (inB (l.drop (k + 1)) (c.drop (k + 1)) = false) := Lib.hid (by
            have := HST.out
            rw [decide_eq_true (show 0 ≤ v by omega), decide_eq_true (show v < u by omega)] at this
            simpa using this)
          clear HST
          go_wp2_with fail
          go_roundg (la - (k + 1))
          case measure => omega
          case rel => exact ⟨rfl, k + 1, _, by omega, rfl, by go_num, rfl, rfl, HN⟩
    · exfalso
      have := hc.out
      rw [List.drop_eq_nil_of_le (by rw [← ha.out]; omega), inB] at this
      · cases this
      · intro _ _ _ _ h; cases h

/-- the digits of a choice's index are the choice -/
theorem digits_back {ns ds : List Nat} {len : Nat} (hlen : len = ns.length) (hok : LOk ns) (hl : ds.length = ns.length) (hd : ∀ k, k < ns.length → ds.getD k 0 < ns.getD k 0) : dlist (nthF ns len (idxN ns ds ns.length)) len = ds := by
  have hi : idxN ns ds ns.length < prodN ns := by
    have := idxN_lt hd ns.length (Nat.le_refl _)
    rwa [List.take_length] at this
  refine list_ext (by rw [dlist_length]; omega) fun j hj => ?_
  rw [dlist_length] at hj
  exact idx_inj (ns := ns) (fun k hk => by rw [dlist_getD _ (by omega)]; exact nth_lt hlen hok hi (by omega)) hd ns.length (Nat.le_refl _) (nth_idx hlen hok hi) j (by omega)

set_option maxRecDepth 100000 in
set_option maxHeartbeats 1000000 in
theorem indexLaw_ok (A B : Option Addr) (la ca cb : Nat) (ns ds : List Nat) (ha : Hid (la = ns.length)) (hb : Hid (la = ds.length)) (w : World) (hA : SRow w A (castL ns)) (hB : SRow w B (castL ds))
    (hr : Hid (LOk ns)) (hd : Hid (∀ k, k < ns.length → ds.getD k 0 < ns.getD k 0)) :
    Calls Try.prog 8 #[.slice A la ca, .slice B la cb] w (Ret (.bool true) w) := by
  have HA := Lib.hid hA
  have HB := Lib.hid hB
  have hl12 : la ≤ 12 := by rw [ha.out]; exact hr.out.hl
  have hl : Hid (ds.length = ns.length) := Lib.hid (by rw [← ha.out, ← hb.out])
  have hcl : Hid (la = (castL ns).length) := Lib.hid (by rw [castL_length]; exact ha.out)
  have hcl2 : Hid (la = (castL ds).length) := Lib.hid (by rw [castL_length]; exact hb.out)
  clear hA hB
  obtain ⟨I, hI⟩ : ∃ I, idxN ns ds ns.length = I := ⟨_, rfl⟩
  have HI := Lib.hid hI
  clear hI
  have HIP : Hid (I < prodN ns) := Lib.hid (by
    have := idxN_lt hd.out ns.length (Nat.le_refl _)
    rw [List.take_length] at this
    rw [← HI.out]; exact this)
  go_enter Try.func8, Try.ntmps8
  go_wp2_with fail
  refine (anchor_any _).mono ?_
  rintro e w1 ⟨rfl, hb1⟩
  have HA1 := Lib.hid (HA.out.below hb1)
  have HB1 := Lib.hid (HB.out.below hb1)
  have HW := Lib.hid hb1
  clear hb1 HA HB
  go_wp2_with fail
  refine (index_ok A B la la ca cb ns ds ha hb hr hl hd (Lib.hid (choice_true hr.out hl.out hd.out)) _ HA1.out HB1.out).mono ?_
  rintro e w1 ⟨rfl, rfl⟩
  rw [HI.out]
  go_wp2_with fail
  refine (limited_any A la ca (castL ns) hcl (by omega) _ HA1.out).mono ?_
  rintro e w1 ⟨rfl, rfl⟩
  obtain ⟨wo, rfl⟩ : ∃ wo : World, wo = w1 := ⟨_, rfl⟩
  rw [right_of hr.out]
  go_wp2_with fail
  go_loopg [7, 8, 42] la (fun g s7 s8 s wr => wr = wo ∧ ∃ (k : Nat), k ≤ la ∧ g = la - k ∧ s = .int .i64 k ∧ s7 = .bool true ∧ s8 = .int .i64 (idxN ns ds k : Nat))
  case atStart => exact ⟨rfl, 0, by omega, rfl, rfl, rfl, rfl⟩
  case round =>
    obtain ⟨rfl, k, hk, rfl, rfl, rfl, rfl⟩ := hrel
    by_cases hlt : k < la
    · have hka : k < ns.length := by rw [← ha.out]; exact hlt
      have hkb : k < ds.length := by rw [← hb.out]; exact hlt
      obtain ⟨x, o, rfl, d1⟩ := HA1.out k (by rw [castL_length]; exact hka)
      obtain ⟨y, o', rfl, d2⟩ := HB1.out k (by rw [castL_length]; exact hkb)
      rw [castL_getD] at d1 d2
      have h0 := hd.out k hka
      have h1 := idxN_lt hd.out (k + 1) (by omega)
      have h2 := (prodN_le hr.out.hk (k + 1) (by omega)).2
      have h3 : 12 ^ (k + 1) ≤ 12 ^ 12 := Nat.pow_le_pow_right (by omega) (by omega)
      have h4 : (12 : Nat) ^ 12 ≤ 9000000000000 := by decide
      rw [idxN] at h1
      have HN : Hid (idxN ns ds (k + 1) = idxN ns ds k * ns.getD k 0 + ds.getD k 0) := Lib.hid rfl
      obtain ⟨u, hu⟩ : ∃ u, ns.getD k 0 = u := ⟨_, rfl⟩
      obtain ⟨v, hv⟩ : ∃ v, ds.getD k 0 = v := ⟨_, rfl⟩
      obtain ⟨q, hq⟩ : ∃ q, idxN ns ds k = q := ⟨_, rfl⟩
      rw [hu, hv, hq] at h1 HN
      rw [hu] at d1
      rw [hv] at d2
      rw [hu, hv] at h0
      rw [hq]
      have h5 : q * u + v ≤ 9000000000000 := by omega
      have h6 : q * u ≤ 9000000000000 := by omega
      have e1 : IntKind.i64.wrap ((q : Int) * (u : Int)) = ((q * u : Nat) : Int) := by rw [show (q : Int) * (u : Int) = ((q * u : Nat) : Int) by simp]; exact wrap64_of _ h6
      have e2 : IntKind.i64.wrap ((q : Int) * (u : Int) + (v : Int)) = ((q * u + v : Nat) : Int) := by rw [show (q : Int) * (u : Int) + (v : Int) = ((q * u + v : Nat) : Int) by simp]; exact wrap64_of _ h5
      have f1 : ¬ (v : Int) < 0 := by omega
      have f2 : ¬ (u : Int) ≤ (v : Int) := by omega
      clear h1 h2 h3 h4 hu hv hq h0
      go_wp2_with fail
      go_roundg (la - (k + 1))
      case measure => omega
      case rel => exact ⟨rfl, k + 1, by omega, rfl, by go_num, rfl, by rw [HN.out]; simp⟩
    · obtain rfl : k = la := by omega
      have HK : Hid (idxN ns ds k = I) := Lib.hid (by rw [← HI.out, ← ha.out])
      rw [HK.out]
      go_wp2_with fail
      refine (nth_ok A k ca ns ha hr _ HA1.out I HIP.out).mono ?_
      rintro e w2 ⟨b2, rfl, hrow, hb2⟩
      have HS : Hid (SRow w2 (some ⟨b2, 0, none⟩) (castL ds)) := Lib.hid (row_srow hrow (by rw [castL_length]; exact hb.out.symm) (fun j hj => by
        have := digits_back ha.out hr.out hl.out hd.out
        rw [HI.out] at this
        rw [castL_getD, ← dlist_getD (nthF ns k I) hj, this]))
      have HB2 := Lib.hid (HB1.out.below hb2)
      have HW2 := Lib.hid (below_then HW.out HW.out.size hb2)
      clear hb2 hrow
      go_wp2_with fail
      refine (same_any (some ⟨b2, 0, none⟩) B k k k cb (castL ds) (castL ds) hcl2 hcl2 _ HS.out HB2.out (by omega)).mono ?_
      rintro e w3 ⟨rfl, rfl⟩
      rw [decide_eq_true (show castL ds = castL ds from rfl)]
      go_wp2_with fail
      go_ret
      exact ⟨rfl, HW2.out⟩

theorem indexLaw_any (A B : Option Addr) (la lb ca cb : Nat) (l c : List Int) (ha : Hid (la = l.length)) (hb : Hid (lb = c.length)) (_h1 : la ≤ 9223372036854775807) (_h2 : lb ≤ 9223372036854775807) (w : World) (hA : SRow w A l) (hB : SRow w B c) :
    Calls Try.prog 8 #[.slice A la ca, .slice B lb cb] w (Ret (.bool true) w) := by
  by_cases hg : 50 < la ∨ 50 < lb
  · exact indexLaw_great A B la lb ca cb w hg
  · cases hch : choiceB l c
    · cases hr : rightL l
      · exact indexLaw_w1 A B la lb ca cb l c ha hb (by omega) (by omega) w hA hB (Lib.hid hch) (.inl (Lib.hid hr))
      · by_cases hl : la = lb
        · subst hl
          refine indexLaw_w2 A B la ca cb l c ha hb (by omega) w hA hB (Lib.hid hch) (Lib.hid hr) (Lib.hid ?_)
          have h3 : c.length = l.length := by rw [← ha.out, ← hb.out]
          simpa [choiceB, hr, h3] using hch
        · exact indexLaw_w1 A B la lb ca cb l c ha hb (by omega) (by omega) w hA hB (Lib.hid hch) (.inr ⟨Lib.hid hr, hl⟩)
    · obtain ⟨ns, ds, rfl, rfl, hok, hl, hd⟩ := choice_nat hch
      have e1 : la = ns.length := by rw [← castL_length]; exact ha.out
      have e2 : lb = ds.length := by rw [← castL_length]; exact hb.out
      obtain rfl : lb = la := by omega
      exact indexLaw_ok A B lb ca cb ns ds (Lib.hid e1) (Lib.hid e2) w hA hB (Lib.hid hok) (Lib.hid hd)
end Go.Proofs.Ytjnakkdonkgcjaa
