/- The statement RankAll, walked. -/
import Derived.Test.YtjnakkdonkgcjaaKv
namespace Go.Proofs.Ytjnakkdonkgcjaa
open Go.RowKit

theorem zeros_ok {ns : List Nat} (hok : LOk ns) : ∀ k, k < ns.length → (dlist (fun _ => 0) ns.length).getD k 0 < ns.getD k 0 := fun k hk => by
  rw [dlist_getD _ hk]
  exact (hok.hk _ (getD_mem ns 0 hk)).1
theorem zeros_idx (ns : List Nat) (n : Nat) : ∀ k, k ≤ n → idxN ns (dlist (fun _ => 0) n) k = 0
  | 0, _ => rfl
  | k + 1, hk => by
    simp only [idxN]
    rw [zeros_idx ns n k (by omega), dlist_getD _ (by omega)]
    omega

set_option maxRecDepth 100000 in
theorem allLaw_wrong (A : Option Addr) (len cap : Nat) (l : List Int) (hlen : Hid (len = l.length)) (hbig : len ≤ 9223372036854775807) (w : World) (hE : SRow w A l) (hr : Hid (rightL l = false)) :
    Calls Try.prog 9 #[.slice A len cap] w (Ret (.bool true) w) := by
  have HE := Lib.hid hE
  clear hE
  go_enter Try.func9, Try.ntmps9
  go_wp2_with fail
  refine (anchor_any _).mono ?_
  rintro e w1 ⟨rfl, hb1⟩
  have HE1 := Lib.hid (HE.out.below hb1)
  have HW := Lib.hid hb1
  clear hb1 HE
  go_wp2_with fail
  refine (limited_any A len cap l hlen hbig _ HE1.out).mono ?_
  rintro e w3 ⟨rfl, rfl⟩
  rw [hr.out]
  go_wp2_with fail
  go_ret
  exact ⟨rfl, HW.out⟩

set_option maxRecDepth 100000 in
set_option maxHeartbeats 1000000 in
theorem allLaw_ok (A : Option Addr) (len cap : Nat) (ns : List Nat) (hlen : Hid (len = ns.length)) (w : World) (hE : SRow w A (castL ns)) (hr : Hid (LOk ns)) :
    Calls Try.prog 9 #[.slice A len cap] w (Ret (.bool true) w) := by
  have HE := Lib.hid hE
  have hl12 : len ≤ 12 := by rw [hlen.out]; exact hr.out.hl
  obtain ⟨P, hP⟩ : ∃ P, prodN ns = P := ⟨_, rfl⟩
  have hmk := run_make_row' (P := Try.prog) 23 3 (.int .i64 0) 8 Try.underlying23 info3 rfl .i64 .i64 len (by omega) (by omega)
  have hP1 : 1 ≤ P := by
    have h1 := (prodN_le hr.out.hk ns.length (Nat.le_refl _)).1
    rwa [List.take_length, hP] at h1
  have HP := Lib.hid hP
  clear hE hP
  by_cases h500 : 500 < P
  · clear hmk
    go_enter Try.func9, Try.ntmps9
    go_wp2_with fail
    refine (anchor_any _).mono ?_
    rintro e w1 ⟨rfl, hb1⟩
    have HE1 := Lib.hid (HE.out.below hb1)
    have HW := Lib.hid hb1
    clear hb1 HE
    go_wp2_with fail
    refine (limited_any A len cap (castL ns) (Lib.hid (by rw [castL_length]; exact hlen.out)) (by omega) _ HE1.out).mono ?_
    rintro e w3 ⟨rfl, rfl⟩
    rw [right_of hr.out]
    go_wp2_with fail
    refine (count_ok A len cap ns hlen hr _ HE1.out).mono ?_
    rintro e w3 ⟨rfl, rfl⟩
    rw [HP.out]
    go_wp2_with fail
    go_ret
    exact ⟨rfl, HW.out⟩
  · go_enter Try.func9, Try.ntmps9
    go_wp2_with fail
    refine (anchor_any _).mono ?_
    rintro e w1 ⟨rfl, hb1⟩
    have HE1 := Lib.hid (HE.out.below hb1)
    have HW := Lib.hid hb1
    clear hb1 HE
    go_wp2_with fail
    refine (limited_any A len cap (castL ns) (Lib.hid (by rw [castL_length]; exact hlen.out)) (by omega) _ HE1.out).mono ?_
    rintro e w3 ⟨rfl, rfl⟩
    rw [right_of hr.out]
    go_wp2_with fail
    refine (count_ok A len cap ns hlen hr _ HE1.out).mono ?_
    rintro e w3 ⟨rfl, rfl⟩
    rw [HP.out]
    go_wp2_with fail
    clear hmk
    obtain ⟨wo, rfl⟩ : ∃ wo : World, wo = w3 := ⟨_, rfl⟩
    go_loopg [5, 6] P (fun g s5 s6 wr => SRow wr A (castL ns) ∧ Below w.heap.size w wr ∧ ∃ k : Nat, k ≤ P ∧ g = P - k ∧ s6 = .int .i64 k ∧
      (k < P → ∃ (B : Addr) (cc : Nat) (ds : List Nat), s5 = .slice (some B) len cc ∧ SRow wr (some B) (castL ds) ∧ ds.length = len ∧ (∀ j, j < ns.length → ds.getD j 0 < ns.getD j 0) ∧ idxN ns ds ns.length = k))
    case atStart =>
      refine ⟨HE1.out.below (below_alloc (Below.refl _ _) _), below_alloc HW.out _, 0, by omega, rfl, rfl, fun _ => ⟨⟨wo.heap.size, 0, none⟩, len, dlist (fun _ => 0) ns.length, rfl, row_srow (World.rowIs_made wo (.int .i64 0) len 3) (by rw [castL_length, dlist_length]; exact hlen.out.symm) (fun j hj => ?_), by rw [dlist_length]; exact hlen.out.symm, zeros_ok hr.out, zeros_idx ns _ _ (Nat.le_refl _)⟩⟩
      rw [castL_getD, dlist_getD _ (by rw [← hlen.out]; exact hj)]
      rfl
    case round =>
      obtain ⟨hA, hB, k, hk, rfl, rfl, hnx⟩ := hrel
      by_cases hlt : k < P
      · obtain ⟨B, cc, ds, rfl, hS, hdl, hdd, hdi⟩ := hnx hlt
        have HA := Lib.hid hA
        have HB := Lib.hid hB
        have HS := Lib.hid hS
        have HDL := Lib.hid hdl
        have HD := Lib.hid hdd
        have HI := Lib.hid hdi
        clear hA hB hS hdl hdd hdi hnx
        go_wp2_with fail
        refine (index_ok A (some B) len len cap cc ns ds hlen (Lib.hid HDL.out.symm) hr (Lib.hid (by rw [HDL.out]; exact hlen.out)) HD (Lib.hid (choice_true hr.out (by rw [HDL.out]; exact hlen.out) HD.out)) _ HA.out HS.out).mono ?_
        rintro e w4 ⟨rfl, rfl⟩
        rw [HI.out]
        go_wp2_with fail
        refine (next_ok A B len len cap cc ns ds hlen (Lib.hid HDL.out.symm) hr (Lib.hid (by rw [HDL.out]; exact hlen.out)) HD (Lib.hid (choice_true hr.out (by rw [HDL.out]; exact hlen.out) HD.out)) _ HA.out HS.out).mono ?_
        rintro e w5 ⟨hb5, ⟨hall, rfl⟩ | ⟨p, hat, g2, c2, rfl, hn2⟩⟩
        · have HA5 := Lib.hid (HA.out.below hb5)
          have HB5 := Lib.hid (below_then HB.out HB.out.size hb5)
          have hlast : k + 1 = P := by
            have := last_idx hall ns.length (Nat.le_refl _)
            rw [List.take_length, HI.out, HP.out] at this
            exact this
          have HLAST := Lib.hid hlast
          have hnlt : ¬ (k : Int) + 1 < (P : Int) := by omega
          clear hall hb5 hlast
          go_wp2_with fail
          go_roundg (P - (k + 1))
          case measure => omega
          case rel => exact ⟨HA5.out, HB5.out, k + 1, by omega, rfl, by go_num, fun h => by have := HLAST.out; omega⟩
        · rw [← hlen.out] at hn2 ⊢
          have HA5 := Lib.hid (HA.out.below hb5)
          have HB5 := Lib.hid (below_then HB.out HB.out.size hb5)
          have HES : Hid (SRow w5 (some ⟨g2, 0, none⟩) (castL (dlist (nextF ds p) ns.length))) := Lib.hid (hn2.srow (by rw [castL_length, dlist_length]; exact hlen.out.symm) (fun j hj => by rw [castL_getD, dlist_getD _ (by rw [← hlen.out]; exact hj)]))
          have HESD : Hid (∀ k, k < ns.length → (dlist (nextF ds p) ns.length).getD k 0 < ns.getD k 0) := Lib.hid (fun k hk => by rw [dlist_getD _ hk]; exact next_lt hat HD.out hk)
          have HESI : Hid (idxN ns (dlist (nextF ds p) ns.length) ns.length = k + 1) := Lib.hid (by rw [next_idx hat, HI.out])
          have hlt0 : idxN ns (dlist (nextF ds p) ns.length) ns.length < prodN ns := by
            have := idxN_lt HESD.out ns.length (Nat.le_refl _)
            rwa [List.take_length] at this
          rw [HESI.out, HP.out] at hlt0
          have hlt2 : (k : Int) + 1 < (P : Int) := by omega
          clear hat hb5 hn2 hlt0
          go_wp2_with fail
          go_roundg (P - (k + 1))
          case measure => omega
          case rel => exact ⟨HA5.out, HB5.out, k + 1, by omega, rfl, by go_num, fun _ => ⟨_, _, _, rfl, HES.out, by rw [dlist_length]; exact hlen.out.symm, HESD.out, HESI.out⟩⟩
      · have HB := Lib.hid hB
        clear hA hB hnx
        go_wp2_with fail
        go_ret
        exact ⟨rfl, HB.out⟩

theorem allLaw_any (A : Option Addr) (len cap : Nat) (l : List Int) (hlen : Hid (len = l.length)) (hbig : len ≤ 9223372036854775807) (w : World) (hE : SRow w A l) :
    Calls Try.prog 9 #[.slice A len cap] w (Ret (.bool true) w) := by
  cases hr : rightL l
  · exact allLaw_wrong A len cap l hlen hbig w hE (Lib.hid hr)
  · obtain ⟨ns, rfl, hok⟩ := right_nat hr
    exact allLaw_ok A len cap ns (Lib.hid (by rw [← castL_length]; exact hlen.out)) w hE (Lib.hid hok)
end Go.Proofs.Ytjnakkdonkgcjaa
