/- slices.Compare at int; rank.Compare. -/
import Derived.Test.YtjnakkdonkgcjaaKe
namespace Go.Proofs.Ytjnakkdonkgcjaa
open Go.RowKit

/-- which list comes first -/
def cmpL : List Int → List Int → Int
  | [], [] => 0
  | [], _ :: _ => -1
  | _ :: _, [] => 1
  | x :: xs, y :: ys => if cmpV x y = 0 then cmpL xs ys else cmpV x y
theorem drop_cons {l : List Int} {k : Nat} (hk : k < l.length) : l.drop k = l.getD k 0 :: l.drop (k + 1) := by
  rw [getD_in l 0 hk, List.drop_eq_getElem_cons hk]
set_option maxRecDepth 100000 in
theorem compare26 (A B : Option Addr) (la lb ca cb : Nat) (a b : List Int) (ha : Hid (la = a.length)) (hb : Hid (lb = b.length)) (w : World) (hA : SRow w A a) (hB : SRow w B b) (hsa : la ≤ 1000000) (hsb : lb ≤ 1000000) :
    Calls Try.prog 26 #[.slice A la ca, .slice B lb cb] w fun e w' => e = .returned (.int .i64 (cmpL a b)) ∧ w' = w := by
  obtain ⟨r, hr⟩ : ∃ r, cmpL a b = r := ⟨_, rfl⟩
  rw [hr]
  go_enter Try.func26, Try.ntmps26
  go_wp2_with fail
  go_loopg [11] la (fun g s wr => wr = w ∧ ∃ k : Nat, k ≤ la ∧ k ≤ lb ∧ g = la - k ∧ s = .int .i64 k ∧ Hid (cmpL (a.drop k) (b.drop k) = r))
  case atStart => exact ⟨rfl, 0, by omega, by omega, rfl, rfl, Lib.hid hr⟩
  case round =>
    obtain ⟨rfl, k, hk, hkb, rfl, rfl, hc⟩ := hrel
    by_cases hlt : k < la
    · have hka : k < a.length := by rw [← ha.out]; exact hlt
      obtain ⟨x, o, rfl, d1⟩ := hA k hka
      obtain ⟨u, hu⟩ : ∃ u, a.getD k 0 = u := ⟨_, rfl⟩
      have hc' := hc.out
      rw [drop_cons hka, hu] at hc'
      rw [hu] at d1
      clear hu hc
      by_cases hltb : k < lb
      · have hkb2 : k < b.length := by rw [← hb.out]; exact hltb
        obtain ⟨y, o', rfl, d2⟩ := hB k hkb2
        obtain ⟨v, hv⟩ : ∃ v, b.getD k 0 = v := ⟨_, rfl⟩
        rw [drop_cons hkb2, hv, cmpL] at hc'
        rw [hv] at d2
        have HC := Lib.hid hc'
        clear hv hc'
        go_wp2_with fail
        refine (cmp_any u v _).mono ?_
        rintro e w1 ⟨rfl, rfl⟩
        obtain ⟨c, hcc⟩ : ∃ c, cmpV u v = c := ⟨_, rfl⟩
        rw [hcc] at HC ⊢
        clear hcc
        by_cases h0 : c = 0
        · subst h0
          have H2 := Lib.hid HC.out
          clear HC
          go_wp2_with fail
          go_roundg (la - (k + 1))
          case measure => omega
          case rel => exact ⟨rfl, k + 1, by omega, by omega, rfl, by go_num, Lib.hid (by have := H2.out; simpa using this)⟩
        · have hb0 : (c != 0) = true := by simpa using h0
          have H2 := Lib.hid HC.out
          clear HC
          go_wp2_with fail
          go_ret
          exact ⟨by have := H2.out; rw [if_neg h0] at this; rw [← this]; rfl, rfl⟩
      · obtain rfl : k = lb := by omega
        have hdb : b.drop k = [] := List.drop_eq_nil_of_le (by rw [← hb.out]; exact Nat.le_refl _)
        rw [hdb, cmpL] at hc'
        clear hdb
        go_wp2_with fail
        go_ret
        exact ⟨by rw [← hc']; rfl, rfl⟩
    · obtain rfl : k = la := by omega
      have hda : a.drop k = [] := List.drop_eq_nil_of_le (by rw [← ha.out]; exact Nat.le_refl _)
      have hc' := hc.out
      rw [hda] at hc'
      by_cases hltb : k < lb
      · rw [drop_cons (by rw [← hb.out]; exact hltb), cmpL] at hc'
        clear hda hc
        go_wp2_with fail
        go_ret
        exact ⟨by rw [← hc']; rfl, rfl⟩
      · have hdb : b.drop k = [] := List.drop_eq_nil_of_le (by rw [← hb.out]; omega)
        rw [hdb, cmpL] at hc'
        clear hda hc hdb
        go_wp2_with fail
        go_ret
        exact ⟨by rw [← hc']; rfl, rfl⟩
set_option maxRecDepth 100000 in
theorem compare_any (A B : Option Addr) (la lb ca cb : Nat) (a b : List Int) (ha : Hid (la = a.length)) (hb : Hid (lb = b.length)) (w : World) (hA : SRow w A a) (hB : SRow w B b) (hsa : la ≤ 1000000) (hsb : lb ≤ 1000000) :
    Calls Try.prog 16 #[.slice A la ca, .slice B lb cb] w fun e w' => e = .returned (.int .i64 (cmpL a b)) ∧ w' = w := by
  go_enter Try.func16, Try.ntmps16
  go_wp2_with fail
  refine (compare26 A B la lb ca cb a b ha hb _ hA hB hsa hsb).mono ?_
  rintro e w1 ⟨rfl, rfl⟩
  go_wp2_with fail
  go_ret
  exact ⟨rfl, rfl⟩
end Go.Proofs.Ytjnakkdonkgcjaa
