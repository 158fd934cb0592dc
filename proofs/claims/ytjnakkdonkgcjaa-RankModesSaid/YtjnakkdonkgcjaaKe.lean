/- right, Count: limits that are right; how many choices there are. -/
import Derived.Test.YtjnakkdonkgcjaaKd
namespace Go.Proofs.Ytjnakkdonkgcjaa
open Go.Shelf Go.RowKit Go.Lib

def badL (n : Int) : Bool := decide (n < 1) || decide (12 < n)
set_option maxRecDepth 100000 in
theorem bad_any (n : Int) (w : World) : Calls Try.prog 38 #[.int .i64 n] w fun e w' => e = .returned (.bool (badL n)) ∧ w' = w := by
  by_cases h1 : n < 1
  · go_enter Try.func38, Try.ntmps38
    go_wp2
    go_ret
    exact ⟨by simp [badL, h1], rfl⟩
  · by_cases h2 : 12 < n
    · go_enter Try.func38, Try.ntmps38
      go_wp2
      go_ret
      exact ⟨by simp [badL, h2], rfl⟩
    · go_enter Try.func38, Try.ntmps38
      go_wp2
      go_ret
      exact ⟨by simp [badL, h1, h2], rfl⟩

set_option maxRecDepth 100000 in
theorem index_any (A : Option Addr) (len cap : Nat) (l : List Int) (hlen : Hid (len = l.length)) (hsm : len ≤ 1000) (w : World) (hE : SRow w A l) :
    Calls Try.prog 42 #[.slice A len cap, .func (.func 38) #[] #[]] w fun e w' => ∃ r : Int, e = .returned (.int .i64 r) ∧ decide (0 ≤ r) = l.any badL ∧ w' = w := by
  have e38 := enters_of Try.func38 (by kernel_rfl) rfl
  go_enter Try.func42, Try.ntmps42
  go_wp2_with fail
  go_loopg [8] len (fun g s wr => wr = w ∧ ∃ k : Nat, k ≤ len ∧ g = len - k ∧ s = .int .i64 k ∧ (l.take k).any badL = false)
  case atStart => exact ⟨rfl, 0, by omega, rfl, rfl, rfl⟩
  case round =>
    obtain ⟨rfl, k, hk, rfl, rfl, hall⟩ := hrel
    by_cases hlt : k < len
    · have hlt' : k < l.length := by rw [← hlen.out]; exact hlt
      obtain ⟨b, o, rfl, d1⟩ := hE k hlt'
      have htk := take_snoc l 0 hlt'
      have hmem := getD_mem l 0 hlt'
      obtain ⟨v, hv⟩ : ∃ v, l.getD k 0 = v := ⟨_, rfl⟩
      rw [hv] at d1 htk hmem
      have HT := Lib.hid htk
      have HA := Lib.hid hall
      have HM := Lib.hid hmem
      clear hv htk hall hmem
      go_wp2_with fail
      refine (bad_any v _).mono ?_
      rintro e w1 ⟨rfl, rfl⟩
      cases hb : badL v
      · go_wp2_with fail
        go_roundg (len - (k + 1))
        case measure => omega
        case rel => exact ⟨rfl, k + 1, by omega, rfl, by go_num, by rw [HT.out, List.any_append, HA.out]; simp [hb]⟩
      · go_wp2_with fail
        go_ret
        exact ⟨k, rfl, by rw [List.any_eq_true.2 ⟨v, HM.out, hb⟩]; simp, rfl⟩
    · obtain rfl : k = len := by omega
      rw [hlen.out, List.take_length] at hall
      go_wp2_with fail
      go_ret
      exact ⟨-1, rfl, by rw [hall]; rfl, rfl⟩

set_option maxRecDepth 100000 in
theorem contains_any (A : Option Addr) (len cap : Nat) (l : List Int) (hlen : Hid (len = l.length)) (hsm : len ≤ 1000) (w : World) (hE : SRow w A l) :
    Calls Try.prog 37 #[.slice A len cap, .func (.func 38) #[] #[]] w fun e w' => e = .returned (.bool (l.any badL)) ∧ w' = w := by
  go_enter Try.func37, Try.ntmps37
  go_wp2_with fail
  refine (index_any A len cap l hlen hsm _ hE).mono ?_
  rintro e w1 ⟨r, rfl, hr, rfl⟩
  go_wp2_with fail
  go_ret
  exact ⟨by rw [← hr]; rfl, rfl⟩

/-- are the limits right? -/
def rightL (l : List Int) : Bool := decide (l.length ≤ 12) && !l.any badL
set_option maxRecDepth 100000 in
theorem right_any (A : Option Addr) (len cap : Nat) (l : List Int) (hlen : Hid (len = l.length)) (w : World) (hE : SRow w A l) :
    Calls Try.prog 27 #[.slice A len cap] w fun e w' => e = .returned (.bool (rightL l)) ∧ w' = w := by
  by_cases h : len ≤ 12
  · go_enter Try.func27, Try.ntmps27
    go_wp2_with fail
    refine (contains_any A len cap l hlen (by omega) _ hE).mono ?_
    rintro e w1 ⟨rfl, rfl⟩
    go_wp2_with fail
    go_ret
    exact ⟨by simp [rightL, ← hlen.out, h], rfl⟩
  · go_enter Try.func27, Try.ntmps27
    go_wp2_with fail
    go_ret
    exact ⟨by simp [rightL, ← hlen.out, h], rfl⟩

/-! ### right limits as natural numbers -/
def castL (ns : List Nat) : List Int := ns.map fun (n : Nat) => (n : Int)
theorem castL_length (ns : List Nat) : (castL ns).length = ns.length := by simp [castL]
theorem castL_getD (ns : List Nat) (k : Nat) : (castL ns).getD k 0 = ((ns.getD k 0 : Nat) : Int) := by
  simp only [castL, List.getD_eq_getElem?_getD, List.getElem?_map]
  cases ns[k]? <;> rfl
structure LOk (ns : List Nat) : Prop where
  hl : ns.length ≤ 12
  hk : ∀ n ∈ ns, 1 ≤ n ∧ n ≤ 12
theorem right_nat {l : List Int} (h : rightL l = true) : ∃ ns, l = castL ns ∧ LOk ns := by
  simp only [rightL, Bool.and_eq_true, decide_eq_true_eq, Bool.not_eq_true', List.any_eq_false] at h
  obtain ⟨h1, h2⟩ := h
  have h3 : ∀ n ∈ l, 1 ≤ n ∧ n ≤ 12 := fun n hn => by
    have := h2 n hn
    simp only [badL, Bool.or_eq_true, decide_eq_true_eq, not_or] at this
    omega
  refine ⟨l.map Int.toNat, ?_, by simpa using h1, fun n hn => ?_⟩
  · unfold castL
    rw [List.map_map]
    conv => lhs; rw [← List.map_id l]
    refine List.map_congr_left fun a ha => ?_
    have := h3 a ha
    simp; omega
  · obtain ⟨a, ha, rfl⟩ := List.mem_map.1 hn
    have := h3 a ha
    omega
theorem right_of {ns : List Nat} (h : LOk ns) : rightL (castL ns) = true := by
  simp only [rightL, Bool.and_eq_true, decide_eq_true_eq, Bool.not_eq_true', List.any_eq_false]
  refine ⟨by rw [castL_length]; exact h.hl, fun n hn => ?_⟩
  obtain ⟨a, ha, rfl⟩ := List.mem_map.1 hn
  have := h.hk a ha
  simp only [badL, Bool.or_eq_true, decide_eq_true_eq, not_or]
  omega
def prodN (ns : List Nat) : Nat := ns.foldl (· * ·) 1
theorem prodN_snoc (ns : List Nat) (n : Nat) : prodN (ns ++ [n]) = prodN ns * n := by simp [prodN, List.foldl_append]
theorem prodN_le {ns : List Nat} (h : ∀ n ∈ ns, 1 ≤ n ∧ n ≤ 12) : ∀ k, k ≤ ns.length → 1 ≤ prodN (ns.take k) ∧ prodN (ns.take k) ≤ 12 ^ k
  | 0, _ => by simp [prodN]
  | k + 1, hk => by
    obtain ⟨h1, h2⟩ := prodN_le h k (by omega)
    have h3 := h _ (getD_mem ns 0 (show k < ns.length by omega))
    rw [take_snoc ns 0 (by omega), prodN_snoc, Nat.pow_succ]
    exact ⟨Nat.mul_pos h1 h3.1, Nat.mul_le_mul h2 h3.2⟩

theorem wrap64_of (n : Nat) (h : n ≤ 9000000000000) : IntKind.i64.wrap (n : Int) = (n : Int) := by
  rw [IntKind.wrap_i64]
  omega
set_option maxRecDepth 100000 in
theorem count_wrong (A : Option Addr) (len cap : Nat) (l : List Int) (hlen : Hid (len = l.length)) (hr : Hid (rightL l = false)) (w : World) (hE : SRow w A l) :
    Calls Try.prog 17 #[.slice A len cap] w fun e w' => e = .returned (.tuple #[.int .i64 0, .int .i64 12]) ∧ w' = w := by
  go_enter Try.func17, Try.ntmps17
  go_wp2_with fail
  refine (right_any A len cap l hlen _ hE).mono ?_
  rintro e w1 ⟨rfl, rfl⟩
  rw [hr.out]
  go_wp2_with fail
  go_ret2
  exact ⟨rfl, rfl⟩
set_option maxRecDepth 100000 in
theorem count_ok (A : Option Addr) (len cap : Nat) (ns : List Nat) (hlen : Hid (len = ns.length)) (hr : Hid (LOk ns)) (w : World) (hE : SRow w A (castL ns)) :
    Calls Try.prog 17 #[.slice A len cap] w fun e w' => e = .returned (.tuple #[.int .i64 (prodN ns : Nat), .int .i64 0]) ∧ w' = w := by
  have hl12 : len ≤ 12 := by rw [hlen.out]; exact hr.out.hl
  go_enter Try.func17, Try.ntmps17
  go_wp2_with fail
  refine (right_any A len cap (castL ns) (Lib.hid (by rw [castL_length]; exact hlen.out)) _ hE).mono ?_
  rintro e w1 ⟨rfl, rfl⟩
  rw [right_of hr.out]
  go_wp2_with fail
  obtain ⟨wo, rfl⟩ : ∃ wo : World, wo = w1 := ⟨_, rfl⟩
  go_loopg [4, 12] len (fun g s4 s wr => wr = wo ∧ ∃ k : Nat, k ≤ len ∧ g = len - k ∧ s = .int .i64 k ∧ s4 = .int .i64 (prodN (ns.take k) : Nat))
  case atStart => exact ⟨rfl, 0, by omega, rfl, rfl, rfl⟩
  case round =>
    obtain ⟨rfl, k, hk, rfl, rfl, rfl⟩ := hrel
    by_cases hlt : k < len
    · have hlt' : k < ns.length := by rw [← hlen.out]; exact hlt
      obtain ⟨b, o, rfl, d1⟩ := hE k (by rw [castL_length]; exact hlt')
      rw [castL_getD] at d1
      have hb := prodN_le hr.out.hk (k + 1) (by omega)
      have hp : 12 ^ (k + 1) ≤ 12 ^ 12 := Nat.pow_le_pow_right (by omega) (by omega)
      rw [take_snoc ns 0 hlt', prodN_snoc] at hb
      have HT := Lib.hid (take_snoc ns 0 hlt')
      obtain ⟨v, hv⟩ : ∃ v, ns.getD k 0 = v := ⟨_, rfl⟩
      obtain ⟨p, hpp⟩ : ∃ p, prodN (ns.take k) = p := ⟨_, rfl⟩
      rw [hv, hpp] at hb
      rw [hv] at d1 HT
      rw [hpp]
      have HP := Lib.hid hpp
      have hb2 : p * v ≤ 9000000000000 := Nat.le_trans hb.2 (Nat.le_trans hp (by decide))
      have hb3 : (p : Int) * (v : Int) = ((p * v : Nat) : Int) := by simp
      have hw : IntKind.i64.wrap ((p : Int) * (v : Int)) = ((p * v : Nat) : Int) := by rw [hb3]; exact wrap64_of _ hb2
      clear hb hp hv hpp hb3
      go_wp2_with fail
      go_roundg (len - (k + 1))
      case measure => omega
      case rel => exact ⟨rfl, k + 1, by omega, rfl, by go_num, by rw [HT.out, prodN_snoc, HP.out]; simp⟩
    · obtain rfl : k = len := by omega
      have HT : Hid (ns.take k = ns) := Lib.hid (by rw [hlen.out, List.take_length])
      go_wp2_with fail
      go_ret2
      exact ⟨by rw [HT.out]; rfl, rfl⟩
end Go.Proofs.Ytjnakkdonkgcjaa
