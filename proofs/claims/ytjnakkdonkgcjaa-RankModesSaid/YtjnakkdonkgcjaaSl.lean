/- How a slice of numbers and a number that came in are read. -/
import Derived.Test.YtjnakkdonkgcjaaKa
import Derived.ShutString
import Derived.ChangeOld
import Derived.Below
namespace Go.Proofs.Ytjnakkdonkgcjaa
open Go.RowKit

theorem srow_nil (W : World) (a : Option Addr) : ∃ l : List Int, 0 = l.length ∧ 0 ≤ 9223372036854775807 ∧ 0 ≤ 0 ∧ SRow W a l := ⟨[], rfl, Nat.zero_le _, Nat.le_refl _, fun k hk => by simp at hk⟩
theorem srow_take {W : World} {x : Addr} {len cap : Nat} {zs : List Int} (hl : len ≤ cap) (hm : cap ≤ maxLen) (hz : zs.length = cap) (hcell : ∀ i, i < zs.length → W.cell? (x.add i) = some (.int .i64 (zs.getD i 0))) :
    ∃ l : List Int, len = l.length ∧ len ≤ 9223372036854775807 ∧ len ≤ cap ∧ SRow W (some x) l := by
  refine ⟨zs.take len, by simp; omega, by unfold maxLen at hm; omega, hl, fun k hk => ?_⟩
  have hk' : k < len := by simpa using (List.length_take ▸ hk : k < min len zs.length) |> fun h => Nat.lt_of_lt_of_le h (Nat.min_le_left _ _)
  obtain ⟨b, off, spot⟩ := x
  have h0 := hcell 0 (by omega)
  have hc := hcell k (by omega)
  rw [Addr.add_zero'] at h0
  have hspot : spot = none := World.cell?_spot h0
  subst hspot
  rw [Addr.add_lit] at hc
  refine ⟨b, off, rfl, ?_⟩
  have : (zs.take len).getD k 0 = zs.getD k 0 := by simp [List.getD_eq_getElem?_getD, List.getElem?_take_of_lt hk']
  rw [this]
  exact hc
theorem wf_i64 {n : Int} (h : (Lit.int .i64 n).wf = true) : -9223372036854775808 ≤ n ∧ n ≤ 9223372036854775807 := by
  have h1 := (Bool.and_eq_true _ _).mp h
  exact ⟨of_decide_eq_true h1.1, of_decide_eq_true h1.2⟩
end Go.Proofs.Ytjnakkdonkgcjaa
