/- Sets as numbers: the set of all i below n with p i, bits, one set inside another; in the walk's own spelling of Go's operators. -/
import Derived.Test.YtpdhggfmkmiebaaDoorA
namespace Go.Proofs.YtpdhggfmkmiebaaDoor
open Go.RowKit

/-- the set of all i below n with p i -/
def setOf (p : Nat → Bool) : Nat → Nat
  | 0 => 0
  | k + 1 => if p k then setOf p k ||| 2 ^ k else setOf p k
theorem testBit_setOf (p : Nat → Bool) (i : Nat) : ∀ n, (setOf p n).testBit i = (decide (i < n) && p i)
  | 0 => by simp [setOf]
  | k + 1 => by
    have ih := testBit_setOf p i k
    unfold setOf
    by_cases hp : p k
    · rw [if_pos hp, Nat.testBit_or, ih, Nat.testBit_two_pow]
      by_cases e : k = i
      · subst e; simp [hp]
      · simp [e]; congr 1; simp; omega
    · rw [if_neg hp, ih]
      by_cases e : k = i
      · subst e; simp [hp]
      · congr 1; simp; omega
theorem setOf_lt (p : Nat → Bool) : ∀ n, setOf p n < 2 ^ n
  | 0 => by simp [setOf]
  | k + 1 => by
    have ih := setOf_lt p k
    have h2 : 2 ^ k < 2 ^ (k + 1) := Nat.pow_lt_pow_right (by omega) (by omega)
    unfold setOf
    split
    · exact Nat.or_lt_two_pow (by omega) h2
    · omega
theorem setOf_congr {p q : Nat → Bool} : ∀ {n}, (∀ i, i < n → p i = q i) → setOf p n = setOf q n
  | 0, _ => rfl
  | k + 1, h => by
    unfold setOf
    rw [setOf_congr (fun i hi => h i (by omega)), h k (by omega)]

/-- do all i below n have p i? -/
def allB (p : Nat → Bool) : Nat → Bool
  | 0 => true
  | k + 1 => allB p k && p k
theorem allB_iff (p : Nat → Bool) : ∀ n, allB p n = true ↔ ∀ i, i < n → p i = true
  | 0 => by simp [allB]
  | k + 1 => by
    simp only [allB, Bool.and_eq_true, allB_iff p k]
    constructor
    · intro ⟨h1, h2⟩ i hi
      by_cases e : i = k
      · subst e; exact h2
      · exact h1 i (by omega)
    · intro h
      exact ⟨fun i hi => h i (by omega), h k (by omega)⟩
theorem allB_no {p : Nat → Bool} {k n : Nat} (hk : k < n) (h : p k = false) : allB p n = false := by
  rw [Bool.eq_false_iff]
  intro ha
  rw [(allB_iff p n).1 ha k hk] at h
  cases h

/-- is a inside s? -/
def subB (a s : Nat) : Bool := (a &&& (18446744073709551615 - s)) == 0
theorem testBit_not {s : Nat} (hs : s < 2 ^ 64) (i : Nat) : (18446744073709551615 - s).testBit i = (decide (i < 64) && !s.testBit i) := by
  have h := Nat.testBit_two_pow_sub_succ hs i
  have e : 2 ^ 64 - (s + 1) = 18446744073709551615 - s := by omega
  rw [e] at h
  exact h
theorem testBit_high {a : Nat} (ha : a < 2 ^ 64) {i : Nat} (h : a.testBit i = true) : i < 64 := by
  rcases Nat.lt_or_ge i 64 with h1 | h1
  · exact h1
  · rw [Nat.testBit_lt_two_pow (Nat.lt_of_lt_of_le ha (Nat.pow_le_pow_right (by omega) h1))] at h
    cases h
theorem subB_iff {a s : Nat} (ha : a < 2 ^ 64) (hs : s < 2 ^ 64) : subB a s = true ↔ ∀ i, a.testBit i = true → s.testBit i = true := by
  unfold subB
  rw [beq_iff_eq]
  constructor
  · intro h i hi
    have h1 := congrArg (·.testBit i) h
    simp only [Nat.testBit_and, testBit_not hs, hi, Nat.zero_testBit, Bool.true_and] at h1
    have := testBit_high ha hi
    simpa [this] using h1
  · intro h
    apply Nat.eq_of_testBit_eq
    intro i
    simp only [Nat.testBit_and, testBit_not hs, Nat.zero_testBit]
    cases hi : a.testBit i
    · simp
    · simp [h i hi]

theorem natcast_div_pow (s k : Nat) : ((s : Int) / 2 ^ k) = ((s / 2 ^ k : Nat) : Int) := by simp
theorem and_one {s k : Nat} (hs : s < 2 ^ 64) : bits .and .u64 ((s : Int) / 2 ^ k) 1 = ((s / 2 ^ k % 2 : Nat) : Int) := by
  rw [natcast_div_pow]
  have hlt : s / 2 ^ k < 18446744073709551616 := Nat.lt_of_le_of_lt (Nat.div_le_self _ _) (by omega)
  have := u64_and_nat (s / 2 ^ k) 1 hlt (by omega)
  rw [Nat.and_one_is_mod] at this
  exact this
theorem bit_true {s k : Nat} (hs : s < 2 ^ 64) (h : s.testBit k = true) : bits .and .u64 ((s : Int) / 2 ^ k) 1 = 1 := by
  rw [and_one hs]
  rw [Nat.testBit_eq_decide_div_mod_eq, decide_eq_true_eq] at h
  rw [h]; rfl
theorem bit_false {s k : Nat} (hs : s < 2 ^ 64) (h : s.testBit k = false) : bits .and .u64 ((s : Int) / 2 ^ k) 1 = 0 := by
  rw [and_one hs]
  rw [Nat.testBit_eq_decide_div_mod_eq] at h
  simp at h
  omega
theorem andNot_val {a s : Nat} (ha : a < 2 ^ 64) (hs : s < 2 ^ 64) : bits .andNot .u64 (a : Int) (s : Int) = ((a &&& (18446744073709551615 - s) : Nat) : Int) := u64_andNot_nat a s (by omega) (by omega)
theorem andNot_sub {a s : Nat} (ha : a < 2 ^ 64) (hs : s < 2 ^ 64) : (bits .andNot .u64 (a : Int) (s : Int) == 0) = subB a s := by
  rw [andNot_val ha hs]
  unfold subB
  rw [Bool.eq_iff_iff]
  simp only [beq_iff_eq]
  omega
end Go.Proofs.YtpdhggfmkmiebaaDoor
