/- The statement RankCompares, walked. -/
import Derived.Test.YtjnakkdonkgcjaaKp
namespace Go.Proofs.Ytjnakkdonkgcjaa
open Go.RowKit

theorem cmpL_cases : ∀ a b : List Int, cmpL a b = 0 ∨ cmpL a b = -1 ∨ cmpL a b = 1
  | [], [] => .inl rfl
  | [], _ :: _ => .inr (.inl rfl)
  | _ :: _, [] => .inr (.inr rfl)
  | x :: xs, y :: ys => by
    have h := cmpL_cases xs ys
    have hv : cmpV x y = 0 ∨ cmpV x y = -1 ∨ cmpV x y = 1 := by
      unfold cmpV
      split
      · exact .inr (.inl rfl)
      · split
        · exact .inr (.inr rfl)
        · exact .inl rfl
    simp only [cmpL]
    split
    · exact h
    · exact hv

set_option maxRecDepth 100000 in
set_option maxHeartbeats 1000000 in
theorem compares_any (A B : Option Addr) (la lb ca cb : Nat) (a b : List Int) (ha : Hid (la = a.length)) (hb : Hid (lb = b.length)) (hla : la ≤ 9223372036854775807) (hlb : lb ≤ 9223372036854775807) (w : World) (hA : SRow w A a) (hB : SRow w B b) :
    Calls Try.prog 6 #[.slice A la ca, .slice B lb cb] w (Ret (.bool true) w) := by
  have HA := Lib.hid hA
  have HB := Lib.hid hB
  clear hA hB
  by_cases h1 : la ≤ 200
  · by_cases h2 : lb ≤ 200
    · go_enter Try.func6, Try.ntmps6
      go_wp2_with fail
      refine (anchor_any _).mono ?_
      rintro e w1 ⟨rfl, hb1⟩
      have HA1 := Lib.hid (HA.out.below hb1)
      have HB1 := Lib.hid (HB.out.below hb1)
      have HW := Lib.hid hb1
      clear hb1
      obtain ⟨r, hr⟩ : ∃ r, cmpL a b = r := ⟨_, rfl⟩
      have hrc := cmpL_cases a b
      rw [hr] at hrc
      have HR := Lib.hid hr
      clear hr
      go_wp2_with fail
      go_loopg [5, 6] (la + 2) (fun g s5 s6 wr => SRow wr A a ∧ SRow wr B b ∧ Below w.heap.size w wr ∧ ((∃ k : Nat, k ≤ la ∧ k ≤ lb ∧ g = la - k + 2 ∧ s5 = .int .i64 0 ∧ s6 = .int .i64 k ∧ Hid (cmpL (a.drop k) (b.drop k) = r)) ∨ (g = 0 ∧ r ≠ 0 ∧ s5 = .int .i64 r ∧ ∃ k : Nat, k ≤ 1000 ∧ s6 = .int .i64 k)))
      case atStart => exact ⟨HA1.out, HB1.out, HW.out, .inl ⟨0, by omega, by omega, by omega, rfl, rfl, HR⟩⟩
      case round =>
        obtain ⟨hA2, hB2, hW2, ⟨k, hka, hkb, hg, rfl, rfl, hc⟩ | ⟨hg, hr0, rfl, k, hk, rfl⟩⟩ := hrel
        · have HA2 := Lib.hid hA2
          have HB2 := Lib.hid hB2
          have HW2 := Lib.hid hW2
          by_cases e1 : k = la
          · subst e1
            have hda : a.drop k = [] := List.drop_eq_nil_of_le (by rw [← ha.out]; exact Nat.le_refl _)
            have hc' := hc.out
            rw [hda] at hc'
            by_cases e2 : k = lb
            · subst e2
              have hdb : b.drop k = [] := List.drop_eq_nil_of_le (by rw [← hb.out]; exact Nat.le_refl _)
              rw [hdb, cmpL] at hc'
              subst hc'
              have HR2 : Hid (cmpL b a = 0) := Lib.hid (by rw [cmpL_neg a b, HR.out]; rfl)
              clear hda hdb hc hA2 hB2 hW2
              go_wp2_with fail
              refine (compare_any A B k k ca cb a b ha hb _ HA2.out HB2.out (by omega) (by omega)).mono ?_
              rintro e w3 ⟨rfl, rfl⟩
              rw [HR.out]
              go_wp2_with fail
              refine (compare_any B A k k cb ca b a hb ha _ HB2.out HA2.out (by omega) (by omega)).mono ?_
              rintro e w3 ⟨rfl, rfl⟩
              rw [HR2.out]
              go_wp2_with fail
              go_ret
              exact ⟨rfl, HW2.out⟩
            · have hdb : b.drop k = b.getD k 0 :: b.drop (k + 1) := drop_cons (by rw [← hb.out]; omega)
              rw [hdb, cmpL] at hc'
              subst hc'
              have hf : ((k : Int) == (lb : Int)) = false := by simp; omega
              clear hda hdb hc hA2 hB2 hW2
              go_wp2_with fail
              go_roundg 0
              case measure => omega
              case rel => exact ⟨HA2.out, HB2.out, HW2.out, .inr ⟨rfl, by omega, rfl, k + 1, by omega, by go_num⟩⟩
          · have hfa : ((k : Int) == (la : Int)) = false := by simp; omega
            have hka' : k < a.length := by rw [← ha.out]; omega
            by_cases e2 : k = lb
            · subst e2
              have hdb : b.drop k = [] := List.drop_eq_nil_of_le (by rw [← hb.out]; exact Nat.le_refl _)
              have hc' := hc.out
              rw [drop_cons hka', hdb, cmpL] at hc'
              subst hc'
              clear hdb hc hA2 hB2 hW2
              go_wp2_with fail
              go_roundg 0
              case measure => omega
              case rel => exact ⟨HA2.out, HB2.out, HW2.out, .inr ⟨rfl, by omega, rfl, k + 1, by omega, by go_num⟩⟩
            · have hfb : ((k : Int) == (lb : Int)) = false := by simp; omega
              have hkb' : k < b.length := by rw [← hb.out]; omega
              obtain ⟨x, o, rfl, d1⟩ := hA2 k hka'
              obtain ⟨y, o', rfl, d2⟩ := hB2 k hkb'
              have hc' := hc.out
              obtain ⟨u, hu⟩ : ∃ u, a.getD k 0 = u := ⟨_, rfl⟩
              obtain ⟨v, hv⟩ : ∃ v, b.getD k 0 = v := ⟨_, rfl⟩
              rw [drop_cons hka', drop_cons hkb', hu, hv, cmpL] at hc'
              rw [hu] at d1
              rw [hv] at d2
              have HC := Lib.hid hc'
              clear hu hv hc hc' hA2 hB2 hW2
              have hkl : k < la := by omega
              have hkl' : k < lb := by omega
              by_cases t1 : u < v
              · have H2 : Hid (r = -1) := Lib.hid (by have := HC.out; simp [cmpV, t1] at this; exact this.symm)
                clear HC
                go_wp2_with fail
                go_quiet (fail)
                go_wp2
                go_roundg 0
                case measure => omega
                case rel => exact ⟨HA2.out, HB2.out, below_drewN HW2.out _, .inr ⟨rfl, by rw [H2.out]; decide, by rw [H2.out], k + 1, by omega, by go_num⟩⟩
              · by_cases t2 : v < u
                · have H2 : Hid (r = 1) := Lib.hid (by have := HC.out; simp [cmpV, t1, t2] at this; exact this.symm)
                  clear HC
                  go_wp2_with fail
                  go_quiet (fail)
                  go_wp2
                  go_quiet (fail)
                  go_wp2
                  go_roundg 0
                  case measure => omega
                  case rel => exact ⟨HA2.out, HB2.out, below_drewN HW2.out _, .inr ⟨rfl, by rw [H2.out]; decide, by rw [H2.out], k + 1, by omega, by go_num⟩⟩
                · have H2 : Hid (cmpL (a.drop (k + 1)) (b.drop (k + 1)) = r) := Lib.hid (by have := HC.out; simp [cmpV, t1, t2] at this; exact this)
                  clear HC
                  go_wp2_with fail
                  go_quiet (fail)
                  go_wp2
                  go_quiet (fail)
                  go_wp2
                  go_roundg (la - (k + 1) + 2)
                  case measure => omega
                  case rel => exact ⟨HA2.out, HB2.out, below_drewN HW2.out _, .inl ⟨k + 1, by omega, by omega, rfl, rfl, by go_num, H2⟩⟩
        · have HA2 := Lib.hid hA2
          have HB2 := Lib.hid hB2
          have HW2 := Lib.hid hW2
          have HR2 : Hid (cmpL b a = -r) := Lib.hid (by rw [cmpL_neg a b, HR.out])
          clear hA2 hB2 hW2 HA1 HB1 HW
          rcases hrc with rfl | rfl | rfl
          · exact absurd rfl hr0
          all_goals
            go_wp2_with fail
            refine (compare_any A B la lb ca cb a b ha hb _ HA2.out HB2.out (by omega) (by omega)).mono ?_
            rintro e w3 ⟨rfl, rfl⟩
            rw [HR.out]
            go_wp2_with fail
            refine (compare_any B A lb la cb ca b a hb ha _ HB2.out HA2.out (by omega) (by omega)).mono ?_
            rintro e w3 ⟨rfl, rfl⟩
            rw [HR2.out]
            go_wp2_with fail
            go_ret
            exact ⟨rfl, HW2.out⟩
    · go_enter Try.func6, Try.ntmps6
      go_wp2_with fail
      refine (anchor_any _).mono ?_
      rintro e w1 ⟨rfl, hb1⟩
      have HW := Lib.hid hb1
      clear hb1
      go_wp2_with fail
      go_ret
      exact ⟨rfl, HW.out⟩
  · go_enter Try.func6, Try.ntmps6
    go_wp2_with fail
    refine (anchor_any _).mono ?_
    rintro e w1 ⟨rfl, hb1⟩
    have HW := Lib.hid hb1
    clear hb1
    go_wp2_with fail
    go_ret
    exact ⟨rfl, HW.out⟩
end Go.Proofs.Ytjnakkdonkgcjaa
