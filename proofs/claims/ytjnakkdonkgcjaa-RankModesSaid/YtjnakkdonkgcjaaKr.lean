/- The statement RankOrders, walked. -/
import Derived.Test.YtjnakkdonkgcjaaKp
namespace Go.Proofs.Ytjnakkdonkgcjaa
open Go.RowKit

def pairsOk (p : Int → Int → Bool) : List Int → Bool
  | [] => true
  | x :: xs => xs.all (p x) && pairsOk p xs
theorem pairsOk_at {p : Int → Int → Bool} : ∀ {l : List Int}, pairsOk p l = true → ∀ i j, i < j → j < l.length → p (l.getD i 0) (l.getD j 0) = true
  | [], _, i, j, _, hj => by simp at hj
  | x :: xs, h, i, j, hij, hj => by
    simp only [pairsOk, Bool.and_eq_true, List.all_eq_true] at h
    obtain ⟨j, rfl⟩ : ∃ m, j = m + 1 := ⟨j - 1, by omega⟩
    have hj' : j < xs.length := by simpa using hj
    cases i with
    | zero => simpa using h.1 (xs.getD j 0) (getD_mem xs 0 hj')
    | succ i => simpa using pairsOk_at h.2 i j (by omega) hj'
def ordOk (mode n c : Nat) : Bool :=
  (orderL mode n c).all (fun v => decide (0 ≤ v) && decide (v < (n : Int))) && pairsOk (fun v w => decide (v ≠ w) && betterB mode c v w) (orderL mode n c)
set_option maxRecDepth 100000 in
theorem ordOk_all : ∀ mode, mode < 4 → ∀ n, n < 13 → ∀ c, c < n → ordOk mode n c = true := by decide +kernel

theorem order_any (mode n c : Nat) (hm : mode < 4) (h2 : n ≤ 12) (h3 : c < n) (w : World) : Calls Try.prog 12 #[.int .i64 mode, .int .i64 n, .int .i64 c] w fun e w' => ∃ b, e = .returned (.tuple #[.slice (some ⟨b, 0, none⟩) n n, .int .i64 0]) ∧ SRow w' (some ⟨b, 0, none⟩) (orderL mode n c) ∧ Below w.heap.size w w' := by
  rcases mode with _ | _ | _ | _ | m
  · exact order_ok0 n c h2 h3 w
  · exact order_ok1 n c h2 h3 w
  · exact order_ok2 n c h2 h3 w
  · exact order_ok3 n c h2 h3 w
  · omega

set_option maxRecDepth 100000 in
set_option maxHeartbeats 1000000 in
theorem orders_ok (mode n c : Nat) (hm : mode < 4) (h2 : n ≤ 12) (h3 : c < n) (w : World) : Calls Try.prog 3 #[.int .i64 mode, .int .i64 n, .int .i64 c] w (Ret (.bool true) w) := by
  have hok := ordOk_all mode hm n (by omega) c h3
  have hll := orderL_length mode n c
  obtain ⟨l, hl⟩ : ∃ l, orderL mode n c = l := ⟨_, rfl⟩
  simp only [ordOk, hl, Bool.and_eq_true, List.all_eq_true, decide_eq_true_eq] at hok
  rw [hl] at hll
  have HIN : Hid (∀ k, k < n → 0 ≤ l.getD k 0 ∧ l.getD k 0 < (n : Int)) := Lib.hid fun k hk => hok.1 _ (getD_mem l 0 (by omega))
  have HP : Hid (∀ i j, i < j → j < n → l.getD i 0 ≠ l.getD j 0 ∧ betterB mode c (l.getD i 0) (l.getD j 0) = true) := Lib.hid fun i j hi hj => by
    have := pairsOk_at hok.2 i j hi (by omega)
    simpa using this
  have ho : ∀ W, Calls Try.prog 12 #[.int .i64 mode, .int .i64 n, .int .i64 c] W fun e w' => ∃ b, e = .returned (.tuple #[.slice (some ⟨b, 0, none⟩) n n, .int .i64 0]) ∧ SRow w' (some ⟨b, 0, none⟩) l ∧ Below W.heap.size W w' := fun W => by
    have := order_any mode n c hm h2 h3 W
    rwa [hl] at this
  have HO := Lib.hid ho
  have HL := Lib.hid hll
  have hm0 : ¬ (mode : Int) < 0 := by omega
  have hm3 : ¬ (3 : Int) < (mode : Int) := by omega
  clear hok hl hll ho
  go_enter Try.func3, Try.ntmps3
  go_wp2_with fail
  refine (anchor_any _).mono ?_
  rintro e w1 ⟨rfl, hb1⟩
  have HW := Lib.hid hb1
  clear hb1
  go_wp2_with fail
  refine (HO.out _).mono ?_
  rintro e w2 ⟨b, rfl, hS, hb2⟩
  have HS := Lib.hid hS
  have HB := Lib.hid (below_then HW.out HW.out.size hb2)
  clear hS hb2 HW
  go_wp2_with fail
  obtain ⟨wo, rfl⟩ : ∃ wo : World, wo = w2 := ⟨_, rfl⟩
  generalize decide (n ≤ c) = dead1
  go_loopg [75] n (fun g s wr => wr = wo ∧ ∃ k : Nat, k ≤ n ∧ g = n - k ∧ s = .int .i64 k)
  case atStart => exact ⟨rfl, 0, by omega, rfl, rfl⟩
  case round =>
    obtain ⟨rfl, k, hk, rfl, rfl⟩ := hrel
    by_cases hlt : k < n
    · obtain ⟨b', o', he, d1⟩ := HS.out k (by rw [HL.out]; exact hlt)
      simp at he
      obtain ⟨rfl, rfl⟩ := he
      rw [Nat.zero_add] at d1
      obtain ⟨v0, v1⟩ := HIN.out k hlt
      have HJ : Hid (∀ j, k < j → j < n → l.getD k 0 ≠ l.getD j 0 ∧ betterB mode c (l.getD k 0) (l.getD j 0) = true) := Lib.hid fun j => HP.out k j
      obtain ⟨v, hv⟩ : ∃ v, l.getD k 0 = v := ⟨_, rfl⟩
      rw [hv] at d1 v0 v1 HJ
      clear hv
      by_cases hlast : n = k + 1
      · have HLAST := Lib.hid hlast
        have hlast' : (n = k + 1) = True := eq_true hlast
        have hz : ¬ 0 < n - (k + 1) := by omega
        clear hlast
        go_wp2_with fail
        go_loopg [92] 0 (fun _ s wr2 => wr2 = wr ∧ s = .int .i64 0)
        case atStart => exact ⟨rfl, rfl⟩
        case round =>
          obtain ⟨rfl, rfl⟩ := hrel
          go_wp2_with fail
          go_roundg 0
          case measure => omega
          case rel => exact ⟨rfl, k + 1, by omega, by have := HLAST.out; omega, by go_num⟩
      · have hmode0 : Hid (mode < 4) := Lib.hid hm
        go_wp2_with fail
        go_loopg [92] (n - (k + 1)) (fun g s wr2 => wr2 = wr ∧ ∃ m : Nat, m ≤ n - (k + 1) ∧ g = n - (k + 1) - m ∧ s = .int .i64 m)
        case atStart => exact ⟨rfl, 0, by omega, rfl, rfl⟩
        case round =>
          obtain ⟨rfl, m, hmm, rfl, rfl⟩ := hrel
          by_cases hlt2 : m < n - (k + 1)
          · obtain ⟨b', o', he, d2⟩ := HS.out (k + 1 + m) (by rw [HL.out]; omega)
            simp at he
            obtain ⟨rfl, rfl⟩ := he
            rw [Nat.zero_add] at d2
            obtain ⟨u0, u1⟩ := HIN.out (k + 1 + m) (by omega)
            obtain ⟨hne, hbt⟩ := HJ.out (k + 1 + m) (by omega) (by omega)
            obtain ⟨u, hu⟩ : ∃ u, l.getD (k + 1 + m) 0 = u := ⟨_, rfl⟩
            rw [hu] at d2 u0 u1 hne hbt
            have hbq : (v == u) = false := by simpa using hne
            have HBT := Lib.hid hbt
            clear hu hbt
            go_wp2_with fail
            refine (better_any mode hmode0.out c v u ⟨by omega, by omega⟩ ⟨by omega, by omega⟩ ⟨by omega, by omega⟩ _).mono ?_
            rintro e w3 ⟨rfl, rfl⟩
            rw [HBT.out]
            go_wp2_with fail
            go_roundg (n - (k + 1) - (m + 1))
            case measure => omega
            case rel => exact ⟨rfl, m + 1, by omega, rfl, by go_num⟩
          · go_wp2_with fail
            go_roundg (n - (k + 1))
            case measure => omega
            case rel => exact ⟨rfl, k + 1, by omega, rfl, by go_num⟩
    · obtain rfl : k = n := by omega
      go_wp2_with fail
      go_ret
      exact ⟨rfl, HB.out⟩

set_option maxRecDepth 100000 in
theorem orders_any (m n c : Int) (w : World) (_i0 : -9223372036854775808 ≤ m ∧ m ≤ 9223372036854775807) (_i1 : -9223372036854775808 ≤ n ∧ n ≤ 9223372036854775807) (_i2 : -9223372036854775808 ≤ c ∧ c ≤ 9223372036854775807) :
    Calls Try.prog 3 #[.int .i64 m, .int .i64 n, .int .i64 c] w (Ret (.bool true) w) := by
  clear _i0 _i1 _i2
  by_cases hm : m < 0 ∨ 3 < m
  · have H1 := Lib.hid hm
    go_enter Try.func3, Try.ntmps3
    go_wp2_with fail
    refine (anchor_any _).mono ?_
    rintro e w1 ⟨rfl, hb1⟩
    have HW := Lib.hid hb1
    clear hb1
    go_wp2_with fail
    refine (order_mode m n c H1.out _).mono ?_
    rintro e w2 ⟨rfl, hb2⟩
    have HB := Lib.hid (below_then HW.out HW.out.size hb2)
    clear hb2
    rcases hm with hm | hm
    all_goals
      go_wp2_with fail
      go_ret
      exact ⟨rfl, HB.out⟩
  · have m0 : 0 ≤ m := by omega
    have m3 : m ≤ 3 := by omega
    have m0' : ¬ m < 0 := by omega
    have m3' : ¬ 3 < m := by omega
    clear hm
    by_cases hn : n < 1 ∨ 12 < n
    · have H1 := Lib.hid hn
      go_enter Try.func3, Try.ntmps3
      go_wp2_with fail
      refine (anchor_any _).mono ?_
      rintro e w1 ⟨rfl, hb1⟩
      have HW := Lib.hid hb1
      clear hb1
      go_wp2_with fail
      refine (order_count m n c m0 m3 H1.out _).mono ?_
      rintro e w2 ⟨rfl, hb2⟩
      have HB := Lib.hid (below_then HW.out HW.out.size hb2)
      clear hb2
      rcases hn with hn | hn
      all_goals
        go_wp2_with fail
        go_ret
        exact ⟨rfl, HB.out⟩
    · have n1 : 1 ≤ n := by omega
      have n2 : n ≤ 12 := by omega
      have n1' : ¬ n < 1 := by omega
      have n2' : ¬ 12 < n := by omega
      clear hn
      by_cases hc : c < 0 ∨ n ≤ c
      · have H1 := Lib.hid hc
        go_enter Try.func3, Try.ntmps3
        go_wp2_with fail
        refine (anchor_any _).mono ?_
        rintro e w1 ⟨rfl, hb1⟩
        have HW := Lib.hid hb1
        clear hb1
        go_wp2_with fail
        refine (order_current m n c m0 m3 n1 n2 H1.out _).mono ?_
        rintro e w2 ⟨rfl, hb2⟩
        have HB := Lib.hid (below_then HW.out HW.out.size hb2)
        clear hb2
        rcases hc with hc | hc
        all_goals
          go_wp2_with fail
          go_ret
          exact ⟨rfl, HB.out⟩
      · obtain ⟨M, rfl⟩ : ∃ M : Nat, m = M := ⟨m.toNat, by omega⟩
        obtain ⟨N, rfl⟩ : ∃ N : Nat, n = N := ⟨n.toNat, by omega⟩
        obtain ⟨C, rfl⟩ : ∃ C : Nat, c = C := ⟨c.toNat, by omega⟩
        exact orders_ok M N C (by omega) (by omega) (by omega) w
end Go.Proofs.Ytjnakkdonkgcjaa
