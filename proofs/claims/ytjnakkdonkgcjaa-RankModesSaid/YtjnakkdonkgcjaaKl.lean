/- Ranks. -/
import Derived.Test.YtjnakkdonkgcjaaKi
namespace Go.Proofs.Ytjnakkdonkgcjaa
open Go.RowKit

/-- where a number stands among the first k -/
def posF (l : List Int) : Nat → Nat → Int
  | 0, _ => -1
  | k + 1, j => if l.getD k 0 = (j : Int) then (k : Int) else posF l k j
/-- are the first k numbers those of an order? -/
def ranksOk (l : List Int) : Nat → Bool
  | 0 => true
  | k + 1 => ranksOk l k && (decide (0 ≤ l.getD k 0) && decide (l.getD k 0 < (l.length : Int)) && decide (posF l k (l.getD k 0).toNat < 0))
theorem posF_lt (l : List Int) : ∀ k j, posF l k j < k ∧ -1 ≤ posF l k j
  | 0, _ => by simp [posF]
  | k + 1, j => by
    have := posF_lt l k j
    unfold posF
    split <;> omega
theorem ranksOk_no {l : List Int} {k : Nat} (h : ranksOk l k = false) : ∀ m, ranksOk l (k + m) = false
  | 0 => h
  | m + 1 => by rw [← Nat.add_assoc, ranksOk, ranksOk_no h m]; rfl
def RetRanks (l : List Int) (w : World) (e : Ending) (w' : World) : Prop :=
  Below w.heap.size w w' ∧ ((ranksOk l l.length = false ∧ e = .returned (.tuple #[.slice none 0 0, .int .i64 12])) ∨
    (ranksOk l l.length = true ∧ ∃ b, e = .returned (.tuple #[.slice (some ⟨b, 0, none⟩) l.length l.length, .int .i64 0]) ∧ w'.rowIs b 3 l.length (fun j => .int .i64 (posF l l.length j))))

set_option maxRecDepth 100000 in
theorem ranks_any (A : Option Addr) (len cap : Nat) (l : List Int) (hlen : Hid (len = l.length)) (hsm : len ≤ 1000) (w : World) (hE : SRow w A l) :
    Calls Try.prog 15 #[.slice A len cap] w (RetRanks l w) := by
  have hmk := run_make_row' (P := Try.prog) 23 3 (.int .i64 0) 8 Try.underlying23 info3 rfl .i64 .i64 len (by omega) (by omega)
  go_enter Try.func15, Try.ntmps15
  go_wp2_with fail
  clear hmk
  go_loopg [13] len (fun g s wr => ∃ k : Nat, k ≤ len ∧ g = len - k ∧ s = .int .i64 k ∧ wr.rowIs w.heap.size 3 len (fun j => .int .i64 (if j < k then -1 else 0)) ∧ Below w.heap.size w wr)
  case atStart =>
    exact ⟨0, by omega, rfl, rfl, (World.rowIs_made w (.int .i64 0) len 3).congr fun j _ => by simp, (Below.refl _ _).alloc (Nat.le_refl _) _⟩
  case round =>
    obtain ⟨k, hk, rfl, rfl, hrow, hb⟩ := hrel
    by_cases hlt : k < len
    · have HR := Lib.hid hrow
      have HB := Lib.hid hb
      have f1 : wr.cell? ⟨w.heap.size, k, none⟩ = some (.int .i64 (if k < k then -1 else 0)) := hrow.cell hlt
      have f2 : wr.frozen? ⟨w.heap.size, k, none⟩ = false := hrow.frozen k
      clear hrow hb
      go_wp2_with fail
      go_roundg (len - (k + 1))
      case measure => omega
      case rel =>
        refine ⟨k + 1, by omega, rfl, by go_num, (HR.out.set k _).congr (fun j hj => ?_), HB.out.setCell (by exact Nat.le_refl _) _⟩
        by_cases h1 : j = k
        · subst h1; simp
        · rw [if_neg h1]
          by_cases h4 : j < k
          · rw [if_pos h4, if_pos (by omega)]
          · rw [if_neg h4, if_neg (by omega)]
    · obtain rfl : k = len := by omega
      have HR0 : Hid (wr.rowIs w.heap.size 3 k (fun j => .int .i64 (posF l 0 j))) := Lib.hid (hrow.congr fun j hj => by rw [if_pos hj]; rfl)
      have HB0 := Lib.hid hb
      clear hrow hb
      go_wp2_with fail
      go_loopg [22] k (fun g s wr => ∃ m : Nat, m ≤ k ∧ g = k - m ∧ s = .int .i64 m ∧ ranksOk l m = true ∧ wr.rowIs w.heap.size 3 k (fun j => .int .i64 (posF l m j)) ∧ Below w.heap.size w wr)
      case atStart => exact ⟨0, by omega, rfl, rfl, rfl, HR0.out, HB0.out⟩
      case round =>
        obtain ⟨m, hm, rfl, rfl, hok, hrow, hb⟩ := hrel
        by_cases hlt2 : m < k
        · have hml : m < l.length := by rw [← hlen.out]; exact hlt2
          obtain ⟨b, o, rfl, d1⟩ := (hE.below hb) m hml
          have HS : Hid (ranksOk l (m + 1) = (ranksOk l m && (decide (0 ≤ l.getD m 0) && decide (l.getD m 0 < (l.length : Int)) && decide (posF l m (l.getD m 0).toNat < 0)))) := Lib.hid rfl
          have HP : Hid (∀ j, posF l (m + 1) j = if l.getD m 0 = (j : Int) then (m : Int) else posF l m j) := Lib.hid (fun j => rfl)
          rw [hok, ← hlen.out] at HS
          obtain ⟨v, hv⟩ : ∃ v, l.getD m 0 = v := ⟨_, rfl⟩
          rw [hv] at d1 HS HP
          have HB := Lib.hid hb
          have hno : ranksOk l (m + 1) = false → ranksOk l l.length = false := fun h => by
            have := ranksOk_no h (k - (m + 1))
            rwa [show m + 1 + (k - (m + 1)) = l.length by rw [← hlen.out]; omega] at this
          clear hv hok hb
          by_cases h1 : v < 0
          · have HF := Lib.hid (hno (by rw [HS.out, decide_eq_false (show ¬ 0 ≤ v by omega)]; rfl))
            clear hno hrow
            go_wp2_with fail
            go_ret2
            exact ⟨HB.out, .inl ⟨HF.out, rfl⟩⟩
          · by_cases h2 : (k : Int) ≤ v
            · have HF := Lib.hid (hno (by rw [HS.out, decide_eq_false (show ¬ v < (k : Int) by omega)]; simp))
              clear hno hrow
              go_wp2_with fail
              go_ret2
              exact ⟨HB.out, .inl ⟨HF.out, rfl⟩⟩
            · obtain ⟨x, rfl⟩ : ∃ x : Nat, v = x := ⟨v.toNat, by omega⟩
              have hx : x < k := by omega
              have hpl := posF_lt l m x
              have HR := Lib.hid hrow
              have f1 : wr.cell? ⟨w.heap.size, x, none⟩ = some (.int .i64 (posF l m x)) := hrow.cell hx
              have f2 : wr.frozen? ⟨w.heap.size, x, none⟩ = false := hrow.frozen x
              rw [Int.toNat_natCast] at HS
              obtain ⟨y, hy⟩ : ∃ y, posF l m x = y := ⟨_, rfl⟩
              rw [hy] at f1 HS hpl
              clear hrow hy
              by_cases h3 : 0 ≤ y
              · have HF := Lib.hid (hno (by rw [HS.out, decide_eq_false (show ¬ y < 0 by omega)]; simp))
                clear hno
                go_wp2_with fail
                go_ret2
                exact ⟨HB.out, .inl ⟨HF.out, rfl⟩⟩
              · have HT : Hid (ranksOk l (m + 1) = true) := Lib.hid (by rw [HS.out, decide_eq_true (show y < 0 by omega), decide_eq_true (show (x : Int) < (k : Int) by omega), decide_eq_true (show (0 : Int) ≤ x by omega)]; rfl)
                clear hno
                go_wp2_with fail
                go_roundg (k - (m + 1))
                case measure => omega
                case rel =>
                  refine ⟨m + 1, by omega, rfl, by go_num, HT.out, (HR.out.set x _).congr (fun j _ => ?_), HB.out.setCell (by exact Nat.le_refl _) _⟩
                  rw [HP.out]
                  by_cases h4 : j = x
                  · subst h4; simp
                  · rw [if_neg h4, if_neg (by omega)]
        · obtain rfl : m = k := by omega
          have HL : Hid (m = l.length) := hlen
          go_wp2_with fail
          go_ret2
          refine ⟨hb, .inr ⟨by rw [← HL.out]; exact hok, w.heap.size, by rw [← HL.out]; rfl, by rw [← HL.out]; exact hrow⟩⟩
end Go.Proofs.Ytjnakkdonkgcjaa
