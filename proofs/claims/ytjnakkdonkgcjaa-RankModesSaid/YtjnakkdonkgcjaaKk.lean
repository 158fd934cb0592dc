/- choice, Index. -/
import Derived.Test.YtjnakkdonkgcjaaKj
namespace Go.Proofs.Ytjnakkdonkgcjaa
open Go.RowKit

def inB : List Int → List Int → Bool
  | l :: ls, c :: cs => decide (0 ≤ c) && decide (c < l) && inB ls cs
  | _, _ => true
def choiceB (l c : List Int) : Bool := rightL l && decide (c.length = l.length) && inB l c

set_option maxRecDepth 100000 in
theorem choice_any (A B : Option Addr) (la lb ca cb : Nat) (l c : List Int) (ha : Hid (la = l.length)) (hb : Hid (lb = c.length)) (w : World) (hA : SRow w A l) (hB : SRow w B c) :
    Calls Try.prog 29 #[.slice A la ca, .slice B lb cb] w fun e w' => e = .returned (.bool (choiceB l c)) ∧ w' = w := by
  cases hr : rightL l
  · have hcf : choiceB l c = false := by simp [choiceB, hr]
    rw [hcf]
    have HR := Lib.hid hr
    clear hr hcf
    go_enter Try.func29, Try.ntmps29
    go_wp2_with fail
    refine (right_any A la ca l ha _ hA).mono ?_
    rintro e w1 ⟨rfl, rfl⟩
    rw [HR.out]
    go_wp2_with fail
    go_ret
    exact ⟨rfl, rfl⟩
  · have HR := Lib.hid hr
    have hla : la ≤ 12 := by
      have := hr
      simp only [rightL, Bool.and_eq_true, decide_eq_true_eq] at this
      rw [ha.out]; exact this.1
    by_cases hl : lb = la
    · have hcl : c.length = l.length := by rw [← ha.out, ← hb.out]; exact hl
      have hci : choiceB l c = inB l c := by simp [choiceB, hr, hcl]
      rw [hci]
      obtain ⟨r, hrr⟩ : ∃ r, inB l c = r := ⟨_, rfl⟩
      rw [hrr]
      subst hl
      clear hr hci
      go_enter Try.func29, Try.ntmps29
      go_wp2_with fail
      refine (right_any A lb ca l ha _ hA).mono ?_
      rintro e w1 ⟨rfl, rfl⟩
      rw [HR.out]
      go_wp2_with fail
      obtain ⟨wo, rfl⟩ : ∃ wo : World, wo = w1 := ⟨_, rfl⟩
      go_loopg [19] lb (fun g s wr => wr = wo ∧ ∃ k : Nat, k ≤ lb ∧ g = lb - k ∧ s = .int .i64 k ∧ Hid (inB (l.drop k) (c.drop k) = r))
      case atStart => exact ⟨rfl, 0, by omega, rfl, rfl, Lib.hid hrr⟩
      case round =>
        obtain ⟨rfl, k, hk, rfl, rfl, hc⟩ := hrel
        by_cases hlt : k < lb
        · have hka : k < l.length := by rw [← ha.out]; exact hlt
          have hkb : k < c.length := by rw [← hb.out]; exact hlt
          obtain ⟨x, o, rfl, d1⟩ := hA k hka
          obtain ⟨y, o', rfl, d2⟩ := hB k hkb
          have hc' := hc.out
          obtain ⟨u, hu⟩ : ∃ u, l.getD k 0 = u := ⟨_, rfl⟩
          obtain ⟨v, hv⟩ : ∃ v, c.getD k 0 = v := ⟨_, rfl⟩
          rw [drop_cons hka, hu, drop_cons hkb, hv, inB] at hc'
          rw [hu] at d1
          rw [hv] at d2
          clear hu hv hc hcl
          by_cases h1 : v < 0
          · have H2 : Hid (r = false) := Lib.hid (by rw [← hc', decide_eq_false (by omega)]; rfl)
            clear hc'
            go_wp2_with fail
            go_ret
            exact ⟨by rw [H2.out]; rfl, rfl⟩
          · by_cases h2 : u ≤ v
            · have H2 : Hid (r = false) := Lib.hid (by rw [← hc', decide_eq_false (show ¬ v < u by omega)]; simp)
              clear hc'
              go_wp2_with fail
              go_ret
              exact ⟨by rw [H2.out]; rfl, rfl⟩
            · have H2 : Hid (inB (l.drop (k + 1)) (c.drop (k + 1)) = r) := Lib.hid (by rw [← hc', decide_eq_true (show 0 ≤ v by omega), decide_eq_true (show v < u by omega)]; rfl)
              clear hc'
              go_wp2_with fail
              go_roundg (lb - (k + 1))
              case measure => omega
              case rel => exact ⟨rfl, k + 1, by omega, rfl, by go_num, H2⟩
        · obtain rfl : k = lb := by omega
          have hc' := hc.out
          rw [List.drop_eq_nil_of_le (by rw [← ha.out]; exact Nat.le_refl _), inB] at hc'
          · have H2 := Lib.hid hc'
            clear hc' hc
            go_wp2_with fail
            go_ret
            exact ⟨by rw [← H2.out]; rfl, rfl⟩
          · intro _ _ _ _ h; cases h
    · have hcf : choiceB l c = false := by
        have : ¬ c.length = l.length := by rw [← ha.out, ← hb.out]; exact hl
        simp [choiceB, this]
      rw [hcf]
      clear hr hcf
      go_enter Try.func29, Try.ntmps29
      go_wp2_with fail
      refine (right_any A la ca l ha _ hA).mono ?_
      rintro e w1 ⟨rfl, rfl⟩
      rw [HR.out]
      go_wp2_with fail
      go_ret
      exact ⟨rfl, rfl⟩

set_option maxRecDepth 100000 in
theorem index_wrong (A B : Option Addr) (la lb ca cb : Nat) (l c : List Int) (ha : Hid (la = l.length)) (hb : Hid (lb = c.length)) (hr : Hid (choiceB l c = false)) (w : World) (hA : SRow w A l) (hB : SRow w B c) :
    Calls Try.prog 20 #[.slice A la ca, .slice B lb cb] w fun e w' => e = .returned (.tuple #[.int .i64 0, .int .i64 12]) ∧ w' = w := by
  go_enter Try.func20, Try.ntmps20
  go_wp2_with fail
  refine (choice_any A B la lb ca cb l c ha hb _ hA hB).mono ?_
  rintro e w1 ⟨rfl, rfl⟩
  rw [hr.out]
  go_wp2_with fail
  go_ret2
  exact ⟨rfl, rfl⟩
/-- the index of the first k digits -/
def idxN (ns ds : List Nat) : Nat → Nat
  | 0 => 0
  | k + 1 => idxN ns ds k * ns.getD k 0 + ds.getD k 0
theorem idxN_lt {ns ds : List Nat} (h : ∀ k, k < ns.length → ds.getD k 0 < ns.getD k 0) : ∀ k, k ≤ ns.length → idxN ns ds k < prodN (ns.take k)
  | 0, _ => by simp [idxN, prodN]
  | k + 1, hk => by
    have h1 := idxN_lt h k (by omega)
    have h2 := h k (by omega)
    rw [take_snoc ns 0 (by omega), prodN_snoc, idxN]
    have h3 : (idxN ns ds k + 1) * ns.getD k 0 ≤ prodN (ns.take k) * ns.getD k 0 := Nat.mul_le_mul_right _ h1
    rw [Nat.add_mul, Nat.one_mul] at h3
    omega
set_option maxRecDepth 100000 in
theorem index_ok (A B : Option Addr) (la lb ca cb : Nat) (ns ds : List Nat) (ha : Hid (la = ns.length)) (hb : Hid (lb = ds.length)) (hr : Hid (LOk ns)) (hl : Hid (ds.length = ns.length)) (hd : Hid (∀ k, k < ns.length → ds.getD k 0 < ns.getD k 0))
    (hc : Hid (choiceB (castL ns) (castL ds) = true)) (w : World) (hA : SRow w A (castL ns)) (hB : SRow w B (castL ds)) :
    Calls Try.prog 20 #[.slice A la ca, .slice B lb cb] w fun e w' => e = .returned (.tuple #[.int .i64 (idxN ns ds ns.length : Nat), .int .i64 0]) ∧ w' = w := by
  have hla : la ≤ 12 := by rw [ha.out]; exact hr.out.hl
  have hlb : lb = la := by rw [ha.out, hb.out, hl.out]
  subst hlb
  go_enter Try.func20, Try.ntmps20
  go_wp2_with fail
  refine (choice_any A B lb lb ca cb (castL ns) (castL ds) (Lib.hid (by rw [castL_length]; exact ha.out)) (Lib.hid (by rw [castL_length]; exact hb.out)) _ hA hB).mono ?_
  rintro e w1 ⟨rfl, rfl⟩
  rw [hc.out]
  go_wp2_with fail
  obtain ⟨wo, rfl⟩ : ∃ wo : World, wo = w1 := ⟨_, rfl⟩
  go_loopg [6, 15] lb (fun g s6 s wr => wr = wo ∧ ∃ k : Nat, k ≤ lb ∧ g = lb - k ∧ s = .int .i64 k ∧ s6 = .int .i64 (idxN ns ds k : Nat))
  case atStart => exact ⟨rfl, 0, by omega, rfl, rfl, rfl⟩
  case round =>
    obtain ⟨rfl, k, hk, rfl, rfl, rfl⟩ := hrel
    by_cases hlt : k < lb
    · have hka : k < ns.length := by rw [← ha.out]; exact hlt
      have hkb : k < ds.length := by rw [← hb.out]; exact hlt
      obtain ⟨x, o, rfl, d1⟩ := hA k (by rw [castL_length]; exact hka)
      obtain ⟨y, o', rfl, d2⟩ := hB k (by rw [castL_length]; exact hkb)
      rw [castL_getD] at d1 d2
      have h1 := idxN_lt hd.out (k + 1) (by omega)
      have h2 := (prodN_le hr.out.hk (k + 1) (by omega)).2
      have h3 : 12 ^ (k + 1) ≤ 12 ^ 12 := Nat.pow_le_pow_right (by omega) (by omega)
      have h4 : (12 : Nat) ^ 12 ≤ 9000000000000 := by decide
      rw [idxN] at h1
      have HN : Hid (idxN ns ds (k + 1) = idxN ns ds k * ns.getD k 0 + ds.getD k 0) := Lib.hid rfl
      obtain ⟨u, hu⟩ : ∃ u, ns.getD k 0 = u := ⟨_, rfl⟩
      obtain ⟨v, hv⟩ : ∃ v, ds.getD k 0 = v := ⟨_, rfl⟩
      obtain ⟨q, hq⟩ : ∃ q, idxN ns ds k = q := ⟨_, rfl⟩
      rw [hu, hv, hq] at h1 HN
      rw [hu] at d1
      rw [hv] at d2
      rw [hq]
      have h5 : q * u + v ≤ 9000000000000 := by omega
      have h6 : q * u ≤ 9000000000000 := by omega
      have e1 : IntKind.i64.wrap ((q : Int) * (u : Int)) = ((q * u : Nat) : Int) := by rw [show (q : Int) * (u : Int) = ((q * u : Nat) : Int) by simp]; exact wrap64_of _ h6
      have e2 : IntKind.i64.wrap ((q : Int) * (u : Int) + (v : Int)) = ((q * u + v : Nat) : Int) := by rw [show (q : Int) * (u : Int) + (v : Int) = ((q * u + v : Nat) : Int) by simp]; exact wrap64_of _ h5
      clear h1 h2 h3 h4 hu hv hq
      go_wp2_with fail
      go_roundg (lb - (k + 1))
      case measure => omega
      case rel => exact ⟨rfl, k + 1, by omega, rfl, by go_num, by rw [HN.out]; simp⟩
    · obtain rfl : k = lb := by omega
      have HK : Hid (k = ns.length) := ha
      go_wp2_with fail
      go_ret2
      exact ⟨by rw [← HK.out]; rfl, rfl⟩
end Go.Proofs.Ytjnakkdonkgcjaa
