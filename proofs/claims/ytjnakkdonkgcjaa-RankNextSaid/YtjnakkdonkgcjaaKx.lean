/- The statement RankNext, walked. -/
import Derived.Test.YtjnakkdonkgcjaaKv
namespace Go.Proofs.Ytjnakkdonkgcjaa
open Go.Shelf Go.RowKit Go.Lib

set_option maxRecDepth 100000 in
theorem nextLaw_wrong (A : Option Addr) (len cap : Nat) (l : List Int) (hlen : Hid (len = l.length)) (w : World) (hE : SRow w A l) (i : Int) (hr : Hid (rightL l = false)) :
    Calls Try.prog 10 #[.slice A len cap, .int .i64 i] w (Ret (.bool true) w) := by
  have HE := Lib.hid hE
  clear hE
  go_enter Try.func10, Try.ntmps10
  go_wp2_with fail
  refine (anchor_any _).mono ?_
  rintro e w1 ⟨rfl, hb1⟩
  have HE1 := Lib.hid (HE.out.below hb1)
  have HW := Lib.hid hb1
  clear hb1 HE
  go_wp2_with fail
  refine (nth_wrong A len cap l hlen hr _ HE1.out i).mono ?_
  rintro e w2 ⟨rfl, hb2⟩
  have HB := Lib.hid (below_then HW.out HW.out.size hb2)
  clear hb2
  go_wp2_with fail
  go_ret
  exact ⟨rfl, HB.out⟩
set_option maxRecDepth 100000 in
theorem nextLaw_out (A : Option Addr) (len cap : Nat) (ns : List Nat) (hlen : Hid (len = ns.length)) (w : World) (hE : SRow w A (castL ns)) (i : Int) (hr : Hid (LOk ns)) (hi : Hid (i < 0 ∨ (0 ≤ i ∧ (prodN ns : Int) ≤ i))) :
    Calls Try.prog 10 #[.slice A len cap, .int .i64 i] w (Ret (.bool true) w) := by
  have HE := Lib.hid hE
  clear hE
  go_enter Try.func10, Try.ntmps10
  go_wp2_with fail
  refine (anchor_any _).mono ?_
  rintro e w1 ⟨rfl, hb1⟩
  have HE1 := Lib.hid (HE.out.below hb1)
  have HW := Lib.hid hb1
  clear hb1 HE
  go_wp2_with fail
  refine (nth_out A len cap ns hlen hr _ HE1.out i hi.out).mono ?_
  rintro e w2 ⟨rfl, hb2⟩
  have HB := Lib.hid (below_then HW.out HW.out.size hb2)
  clear hb2
  go_wp2_with fail
  go_ret
  exact ⟨rfl, HB.out⟩

set_option maxRecDepth 100000 in
set_option maxHeartbeats 4000000 in
theorem nextLaw_ok (A : Option Addr) (len cap : Nat) (ns : List Nat) (hlen : Hid (len = ns.length)) (w : World) (hE : SRow w A (castL ns)) (i : Nat) (hr : Hid (LOk ns)) (hi : Hid (i < prodN ns)) :
    Calls Try.prog 10 #[.slice A len cap, .int .i64 i] w (Ret (.bool true) w) := by
  obtain ⟨i0, hi0, hz0, hz1, hz2⟩ := info_parts info3
  have mixed : Try.prog.follows .mixedOrders = true := by kernel_rfl
  have HE := Lib.hid hE
  have hl12 : len ≤ 12 := by rw [hlen.out]; exact hr.out.hl
  obtain ⟨P, hP⟩ : ∃ P, prodN ns = P := ⟨_, rfl⟩
  have hiP : i < P := by rw [← hP]; exact hi.out
  have hP9 : P ≤ 9000000000000 := by
    have h1 := (prodN_le hr.out.hk ns.length (Nat.le_refl _)).2
    rw [List.take_length, hP] at h1
    have h2 : 12 ^ ns.length ≤ 12 ^ 12 := Nat.pow_le_pow_right (by omega) hr.out.hl
    have h3 : (12 : Nat) ^ 12 ≤ 9000000000000 := by decide
    omega
  have HP := Lib.hid hP
  clear hE hP
  go_enter Try.func10, Try.ntmps10
  go_wp2_with fail
  refine (anchor_any _).mono ?_
  rintro e w1 ⟨rfl, hb1⟩
  have HE1 := Lib.hid (HE.out.below hb1)
  have HW := Lib.hid hb1
  clear hb1 HE
  go_wp2_with fail
  refine (nth_ok A len cap ns hlen hr _ HE1.out i hi.out).mono ?_
  rintro e w2 ⟨b2, rfl, hrow, hb2⟩
  have hd : ∀ k, k < ns.length → (dlist (nthF ns len i) len).getD k 0 < ns.getD k 0 := fun k hk => by
    rw [dlist_getD _ (by rw [hlen.out]; exact hk)]; exact nth_lt hlen.out hr.out hi.out (by rw [hlen.out]; exact hk)
  have hidx := nth_idx hlen.out hr.out hi.out
  have hs2 : SRow w2 (some ⟨b2, 0, none⟩) (castL (dlist (nthF ns len i) len)) := row_srow hrow (by rw [castL_length, dlist_length]) (fun j hj => by rw [castL_getD, dlist_getD _ hj])
  have hdl : (dlist (nthF ns len i) len).length = len := dlist_length _ _
  obtain ⟨ds, hds⟩ : ∃ ds, dlist (nthF ns len i) len = ds := ⟨_, rfl⟩
  rw [hds] at hd hidx hs2 hdl
  have HD := Lib.hid hd
  have HIX := Lib.hid hidx
  have HS2 := Lib.hid hs2
  have HDL := Lib.hid hdl
  have HE2 := Lib.hid (HE1.out.below hb2)
  have HB := Lib.hid (below_then HW.out HW.out.size hb2)
  clear hb2 hrow hd hidx hs2 hdl hds
  go_wp2_with fail
  refine (count_ok A len cap ns hlen hr _ HE2.out).mono ?_
  rintro e w3 ⟨rfl, rfl⟩
  rw [HP.out]
  go_wp2_with (at_builtin; refine wpList_append_own _ rfl _ _ 23 rfl w3.heap.size 3 i0 (.int .i64 0) 1 8 Try.underlying23 hi0 hz0 hz1 hz2 rfl (by decide) _ _ _ rfl (World.ownsRow_made w3 #[] 0 (Nat.le_refl _) (Nat.zero_le _) rfl) ⟨b2, 0, none⟩ len len ((castL ds).map (Value.int .i64)) rfl ?qc1 ?qc2 ?qc3 ?qc4 ?qc5 ?qc6 ?_)
  case qc1 => have := HDL.out; simp [castL_length]; omega
  case qc2 =>
    intro j u hj
    have hjl : j < (castL ds).length := by
      have := (List.getElem?_eq_some_iff.1 hj).1
      simpa using this
    obtain ⟨b, o, he, d⟩ := HS2.out j hjl
    simp only [Option.some.injEq, Addr.mk.injEq, and_true] at he
    obtain ⟨rfl, rfl⟩ := he
    rw [Addr.add_lit]
    refine Lib.cell?_alloc_some _ ?_
    rw [d]
    rw [List.getElem?_map, List.getElem?_eq_getElem hjl, ← getD_in (castL ds) 0 hjl] at hj
    exact hj
  case qc3 => intro u hu; obtain ⟨x, _, rfl⟩ := List.mem_map.1 hu; rfl
  case qc4 => unfold maxLen; omega
  case qc5 => omega
  case qc6 => simp
  intro v' w4 hown hgrow hnil
  have hown' : w4.ownsRow w3.heap.size 3 1 v' len ((castL ds).map (Value.int .i64)) := by simpa using hown
  obtain ⟨g, gc, rfl, hg2, hg3, hnr⟩ := nrow_of hown' (by first | exact hnil | exact fun e => absurd (hnil.1 e).1 (by simp))
  have hb4 : Below w3.heap.size w3 w4 := ((Below.refl _ w3).alloc (Nat.le_refl _) _).grown hgrow (by simp) (by intro k hk; simp [Value.ownBlock] at hk; omega)
  have HG4 : Hid (SRow w4 (some ⟨g, 0, none⟩) (castL ds)) := Lib.hid (hnr.srow (by rw [castL_length]; exact HDL.out) (fun _ _ => rfl))
  have HS4 := Lib.hid (HS2.out.below hb4)
  have HE4 := Lib.hid (HE2.out.below hb4)
  have HB4 := Lib.hid (below_then HB.out HB.out.size hb4)
  clear hown hown' hgrow hnil hnr hb4 HE1 HE2 HS2 HW HB
  go_wp2_with fail
  refine (next_ok A ⟨g, 0, none⟩ len len cap gc ns ds hlen (Lib.hid HDL.out.symm) hr (Lib.hid (by rw [HDL.out]; exact hlen.out)) HD (Lib.hid (choice_true hr.out (by rw [HDL.out]; exact hlen.out) HD.out)) _ HE4.out HG4.out).mono ?_
  rintro e w5 ⟨hb5, ⟨hall, rfl⟩ | ⟨p, hat, g2, c2, rfl, hn2⟩⟩
  · have HG5 := Lib.hid (HG4.out.below hb5)
    have HS5 := Lib.hid (HS4.out.below hb5)
    have HB5 := Lib.hid (below_then HB4.out HB4.out.size hb5)
    have hlast : i + 1 = P := by
      have := last_idx hall ns.length (Nat.le_refl _)
      rw [List.take_length, HIX.out, HP.out] at this
      exact this
    have hlt : ¬ (i : Int) + 1 < (P : Int) := by omega
    clear hall hb5 HG4 HS4 HB4 hlast
    go_wp2_with fail
    refine (same_any (some ⟨g, 0, none⟩) (some ⟨b2, 0, none⟩) len len gc len (castL ds) (castL ds) (Lib.hid (by rw [castL_length]; exact HDL.out.symm)) (Lib.hid (by rw [castL_length]; exact HDL.out.symm)) _ HG5.out HS5.out (by omega)).mono ?_
    rintro e w6 ⟨rfl, rfl⟩
    rw [decide_eq_true (show castL ds = castL ds from rfl)]
    go_wp2_with fail
    go_ret
    exact ⟨rfl, HB5.out⟩
  · rw [← hlen.out] at hn2 ⊢
    have HG5 := Lib.hid (HG4.out.below hb5)
    have HS5 := Lib.hid (HS4.out.below hb5)
    have HE5 := Lib.hid (HE4.out.below hb5)
    have HB5 := Lib.hid (below_then HB4.out HB4.out.size hb5)
    have hes : SRow w5 (some ⟨g2, 0, none⟩) (castL (dlist (nextF ds p) ns.length)) := hn2.srow (by rw [castL_length, dlist_length]; exact hlen.out.symm) (fun j hj => by rw [castL_getD, dlist_getD _ (by rw [← hlen.out]; exact hj)])
    have hes1 : (dlist (nextF ds p) ns.length).length = len := by rw [dlist_length]; exact hlen.out.symm
    have hes2 : ∀ k, k < ns.length → (dlist (nextF ds p) ns.length).getD k 0 < ns.getD k 0 := fun k hk => by rw [dlist_getD _ hk]; exact next_lt hat HD.out hk
    have hes3 := next_idx hat
    rw [HIX.out] at hes3
    have hcmp : cmpL (castL ds) (castL (dlist (nextF ds p) ns.length)) = -1 := by
      have hp := hat.1
      refine cmpL_lt (i := p) (by rw [castL_length, HDL.out, hlen.out]; exact hp) (by rw [castL_length, dlist_length]; exact hp) (fun j hj => ?_) ?_
      · rw [castL_getD, castL_getD, dlist_getD _ (by omega)]
        simp [nextF, hj]
      · rw [castL_getD, castL_getD, dlist_getD _ hp]
        simp [nextF]
        omega
    have hlt0 : idxN ns (dlist (nextF ds p) ns.length) ns.length < prodN ns := by
      have := idxN_lt hes2 ns.length (Nat.le_refl _)
      rwa [List.take_length] at this
    rw [hes3, HP.out] at hlt0
    obtain ⟨es, hees⟩ : ∃ es, dlist (nextF ds p) ns.length = es := ⟨_, rfl⟩
    rw [hees] at hes hes1 hes2 hes3 hcmp
    have HS := Lib.hid hes
    have HSL := Lib.hid hes1
    have HSD := Lib.hid hes2
    have HSI := Lib.hid hes3
    have HC := Lib.hid hcmp
    have hlt : (i : Int) + 1 < (P : Int) := by omega
    clear hat hb5 HG4 HS4 HE4 HB4 hn2 hes hes1 hes2 hes3 hcmp hees hlt0
    go_wp2_with fail
    refine (same_any (some ⟨g, 0, none⟩) (some ⟨b2, 0, none⟩) len len gc len (castL ds) (castL ds) (Lib.hid (by rw [castL_length]; exact HDL.out.symm)) (Lib.hid (by rw [castL_length]; exact HDL.out.symm)) _ HG5.out HS5.out (by omega)).mono ?_
    rintro e w6 ⟨rfl, rfl⟩
    rw [decide_eq_true (show castL ds = castL ds from rfl)]
    go_wp2_with fail
    refine (index_ok A (some ⟨g2, 0, none⟩) len len cap c2 ns es hlen (Lib.hid HSL.out.symm) hr (Lib.hid (by rw [HSL.out]; exact hlen.out)) HSD (Lib.hid (choice_true hr.out (by rw [HSL.out]; exact hlen.out) HSD.out)) _ HE5.out HS.out).mono ?_
    rintro e w7 ⟨rfl, rfl⟩
    rw [HSI.out]
    go_wp2_with fail
    refine (compare_any (some ⟨b2, 0, none⟩) (some ⟨g2, 0, none⟩) len len len c2 (castL ds) (castL es) (Lib.hid (by rw [castL_length]; exact HDL.out.symm)) (Lib.hid (by rw [castL_length]; exact HSL.out.symm)) _ HS5.out HS.out (by omega) (by omega)).mono ?_
    rintro e w8 ⟨rfl, rfl⟩
    rw [HC.out]
    go_wp2_with fail
    go_ret
    exact ⟨rfl, HB5.out⟩

theorem nextLaw_any (A : Option Addr) (len cap : Nat) (l : List Int) (hlen : Hid (len = l.length)) (_hbig : len ≤ 9223372036854775807) (w : World) (hE : SRow w A l) (i : Int) (_hi : -9223372036854775808 ≤ i ∧ i ≤ 9223372036854775807) :
    Calls Try.prog 10 #[.slice A len cap, .int .i64 i] w (Ret (.bool true) w) := by
  cases hr : rightL l
  · exact nextLaw_wrong A len cap l hlen w hE i (Lib.hid hr)
  · obtain ⟨ns, rfl, hok⟩ := right_nat hr
    have hl : Hid (len = ns.length) := Lib.hid (by rw [← castL_length]; exact hlen.out)
    by_cases h : i < 0 ∨ (0 ≤ i ∧ (prodN ns : Int) ≤ i)
    · exact nextLaw_out A len cap ns hl w hE i (Lib.hid hok) (Lib.hid h)
    · obtain ⟨j, rfl⟩ : ∃ j : Nat, i = j := ⟨i.toNat, by omega⟩
      exact nextLaw_ok A len cap ns hl w hE j (Lib.hid hok) (Lib.hid (by omega))
end Go.Proofs.Ytjnakkdonkgcjaa
