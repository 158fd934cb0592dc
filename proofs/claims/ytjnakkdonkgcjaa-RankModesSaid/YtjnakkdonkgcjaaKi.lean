/- same, limited, better: the helpers of the statements. -/
import Derived.Test.YtjnakkdonkgcjaaKe
namespace Go.Proofs.Ytjnakkdonkgcjaa
open Go.RowKit

theorem eqL_step {a b : List Int} {k : Nat} (hl : a.length = b.length) (hk : k < a.length) (h : a.take k = b.take k) : (a.take (k + 1) = b.take (k + 1)) ↔ a.getD k 0 = b.getD k 0 := by
  rw [take_snoc a 0 hk, take_snoc b 0 (by omega), h]
  simp
set_option maxRecDepth 100000 in
theorem same_any (A B : Option Addr) (la lb ca cb : Nat) (a b : List Int) (ha : Hid (la = a.length)) (hb : Hid (lb = b.length)) (w : World) (hA : SRow w A a) (hB : SRow w B b) (hsm : la ≤ 1000000) :
    Calls Try.prog 14 #[.slice A la ca, .slice B lb cb] w fun e w' => e = .returned (.bool (decide (a = b))) ∧ w' = w := by
  by_cases hl : la = lb
  · have hab : a.length = b.length := by rw [← ha.out, ← hb.out]; exact hl
    subst hl
    go_enter Try.func14, Try.ntmps14
    go_wp2_with fail
    go_loopg [14] la (fun g s wr => wr = w ∧ ∃ k : Nat, k ≤ la ∧ g = la - k ∧ s = .int .i64 k ∧ a.take k = b.take k)
    case atStart => exact ⟨rfl, 0, by omega, rfl, rfl, rfl⟩
    case round =>
      obtain ⟨rfl, k, hk, rfl, rfl, htk⟩ := hrel
      by_cases hlt : k < la
      · have hka : k < a.length := by rw [← ha.out]; exact hlt
        obtain ⟨x, o, rfl, d1⟩ := hA k hka
        obtain ⟨y, o', rfl, d2⟩ := hB k (by rw [← hab]; exact hka)
        have hst := Lib.hid (eqL_step hab hka htk)
        obtain ⟨u, hu⟩ : ∃ u, a.getD k 0 = u := ⟨_, rfl⟩
        obtain ⟨v, hv⟩ : ∃ v, b.getD k 0 = v := ⟨_, rfl⟩
        rw [hu, hv] at hst
        rw [hu] at d1
        rw [hv] at d2
        have HU := Lib.hid hu
        have HV := Lib.hid hv
        clear htk hu hv
        by_cases huv : u = v
        · subst huv
          go_wp2_with fail
          go_roundg (la - (k + 1))
          case measure => omega
          case rel => exact ⟨rfl, k + 1, by omega, rfl, by go_num, hst.out.2 (by simp)⟩
        · have hb0 : (u == v) = false := by simpa using huv
          go_wp2_with fail
          go_ret
          have : a ≠ b := fun e => huv (by rw [← HU.out, ← HV.out, e])
          exact ⟨by rw [decide_eq_false this]; rfl, rfl⟩
      · obtain rfl : k = la := by omega
        rw [ha.out, List.take_length, hab, List.take_length] at htk
        go_wp2_with fail
        go_ret
        exact ⟨by rw [decide_eq_true htk]; rfl, rfl⟩
  · go_enter Try.func14, Try.ntmps14
    go_wp2_with fail
    go_ret
    have : a ≠ b := fun e => hl (by rw [ha.out, hb.out, e])
    exact ⟨by rw [decide_eq_false this]; rfl, rfl⟩

/-! ### limited -/
set_option maxRecDepth 100000 in
theorem limited_any (A : Option Addr) (len cap : Nat) (l : List Int) (hlen : Hid (len = l.length)) (hsm : len ≤ 9223372036854775807) (w : World) (hE : SRow w A l) :
    Calls Try.prog 19 #[.slice A len cap] w fun e w' => e = .returned (.bool (rightL l)) ∧ w' = w := by
  go_enter Try.func19, Try.ntmps19
  go_wp2_with fail
  go_loopg [7] len (fun g s wr => wr = w ∧ ∃ k : Nat, k ≤ len ∧ g = len - k ∧ s = .int .i64 k ∧ (l.take k).any badL = false)
  case atStart => exact ⟨rfl, 0, by omega, rfl, rfl, rfl⟩
  case round =>
    obtain ⟨rfl, k, hk, rfl, rfl, hall⟩ := hrel
    by_cases hlt : k < len
    · have hlt' : k < l.length := by rw [← hlen.out]; exact hlt
      obtain ⟨b, o, rfl, d1⟩ := hE k hlt'
      have htk := take_snoc l 0 hlt'
      have hmem := getD_mem l 0 hlt'
      obtain ⟨v, hv⟩ : ∃ v, l.getD k 0 = v := ⟨_, rfl⟩
      rw [hv] at d1 htk hmem
      have HT := Lib.hid htk
      have HA := Lib.hid hall
      have HM := Lib.hid hmem
      clear hv htk hall hmem
      have hbad : badL v = true → rightL l = false := fun h => by
        simp only [rightL, List.any_eq_true.2 ⟨v, HM.out, h⟩]; simp
      by_cases h1 : v < 1
      · have HB := Lib.hid (hbad (by simp [badL, h1]))
        clear hbad
        go_wp2_with fail
        go_ret
        exact ⟨by rw [HB.out]; rfl, rfl⟩
      · by_cases h2 : 12 < v
        · have HB := Lib.hid (hbad (by simp [badL, h2]))
          clear hbad
          go_wp2_with fail
          go_ret
          exact ⟨by rw [HB.out]; rfl, rfl⟩
        · have HB : Hid (badL v = false) := Lib.hid (by simp [badL, h1, h2])
          clear hbad
          go_wp2_with fail
          go_roundg (len - (k + 1))
          case measure => omega
          case rel => exact ⟨rfl, k + 1, by omega, rfl, by go_num, by rw [HT.out, List.any_append, HA.out]; simp [HB.out]⟩
    · obtain rfl : k = len := by omega
      rw [hlen.out, List.take_length] at hall
      have HL : Hid (rightL l = decide (k ≤ 12)) := Lib.hid (by simp [rightL, hall, ← hlen.out])
      clear hall
      by_cases h : k ≤ 12
      · go_wp2_with fail
        go_ret
        exact ⟨by rw [HL.out, decide_eq_true h]; simp; omega, rfl⟩
      · go_wp2_with fail
        go_ret
        exact ⟨by rw [HL.out, decide_eq_false h]; simp; omega, rfl⟩
end Go.Proofs.Ytjnakkdonkgcjaa
