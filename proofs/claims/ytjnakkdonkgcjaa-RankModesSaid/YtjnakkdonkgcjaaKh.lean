/- One round of Nth's loop, in memory. -/
import Derived.Test.YtjnakkdonkgcjaaKf
namespace Go.Proofs.Ytjnakkdonkgcjaa
open Go.RowKit Go.Shelf

theorem nth_step {w W : World} {X len q d xv : Nat} {f : Nat → Nat} (_hX : X = w.heap.size) (hq : q ≤ 9000000000000) (g1 : W.cell? ⟨X, 0, none⟩ = some (.int .i64 (q : Nat))) (g2 : W.frozen? ⟨X, 0, none⟩ = false)
    (g3 : W.rowIs (X + 1) 3 len (fun j => .int .i64 (f j : Nat))) (g4 : W.cell? ⟨X + 1 + 1, 0, none⟩ = some (.slice (some ⟨X + 1, 0, none⟩) len len)) (g6 : X + 4 ≤ W.heap.size) (g7 : Below X w W) (W2 : World)
    (hW : W2 = ((W.setCell ⟨X + 1, xv, none⟩ (.int .i64 ((q : Int) % (d : Int)))).setCell ⟨X, 0, none⟩ (.int .i64 (wrap64 ((q : Int) / (d : Int))))).drew) :
    KeepsOthers W W2 ∧ KpB X (X + 1 + 1 + 1) W W2 ∧ W2.cell? ⟨X, 0, none⟩ = some (.int .i64 ((q / d : Nat) : Int)) ∧ W2.frozen? ⟨X, 0, none⟩ = false ∧
      W2.rowIs (X + 1) 3 len (fun j => .int .i64 (((if j = xv then q % d else f j) : Nat) : Int)) ∧ W2.cell? ⟨X + 1 + 1, 0, none⟩ = some (.slice (some ⟨X + 1, 0, none⟩) len len) ∧ X + 4 ≤ W2.heap.size ∧ Below X w W2 := by
  have hw : wrap64 ((q : Int) / (d : Int)) = ((q / d : Nat) : Int) := by
    have h1 : q / d ≤ q := Nat.div_le_self q d
    have h2 : ((q : Int) / (d : Int)) = ((q / d : Nat) : Int) := by simp
    rw [h2]
    clear h2
    generalize q / d = m at *
    unfold wrap64
    omega
  have hr : (q : Int) % (d : Int) = ((q % d : Nat) : Int) := by simp
  rw [hw, hr] at hW
  subst hW
  have ne1 : ∀ o v, (W.setCell ⟨X + 1, xv, none⟩ v).cell? ⟨X, o, none⟩ = W.cell? ⟨X, o, none⟩ := fun o v => World.cell?_setCell_other _ _ _ _ (by intro e; have := congrArg Addr.block e; simp at this)
  have hbel : ∀ v v', Below X W (((W.setCell ⟨X + 1, xv, none⟩ v).setCell ⟨X, 0, none⟩ v').drew) := fun v v' => (((Below.refl X W).setCell (p := ⟨X + 1, xv, none⟩) (Nat.le_succ X) _).setCell (p := ⟨X, 0, none⟩) (Nat.le_refl X) _).drew
  have far : ∀ (b : Nat) v v', b ≠ X → b ≠ X + 1 → (((W.setCell ⟨X + 1, xv, none⟩ v).setCell ⟨X, 0, none⟩ v').drew).cell? ⟨b, 0, none⟩ = W.cell? ⟨b, 0, none⟩ := fun b v v' h1 h2 => by
    show ((W.setCell ⟨X + 1, xv, none⟩ v).setCell ⟨X, 0, none⟩ v').cell? ⟨b, 0, none⟩ = _
    rw [World.cell?_setCell_other _ _ _ _ (by intro e; exact h1 (congrArg Addr.block e).symm), World.cell?_setCell_other _ _ _ _ (by intro e; exact h2 (congrArg Addr.block e).symm)]
  refine ⟨((KeepsOthers.setCell _ _ _).trans (KeepsOthers.setCell _ _ _)).trans (KeepsOthers.drew _), ⟨hbel _ _, fun v hv => by rw [far _ _ _ (by omega) (by omega)]; exact hv⟩, ?_, ?_, ?_, ?_, ?_, g7.trans (hbel _ _)⟩
  · show ((W.setCell ⟨X + 1, xv, none⟩ _).setCell ⟨X, 0, none⟩ _).cell? ⟨X, 0, none⟩ = _
    exact World.cell?_setCell_same' _ _ _ (by rw [ne1, g1]; rfl)
  · show ((W.setCell ⟨X + 1, xv, none⟩ _).setCell ⟨X, 0, none⟩ _).frozen? ⟨X, 0, none⟩ = _
    rw [World.frozen?_setCell, World.frozen?_setCell]; exact g2
  · have h1 : (W.setCell ⟨X + 1, xv, none⟩ (.int .i64 ((q % d : Nat) : Int))).rowIs (X + 1) 3 len (fun j => .int .i64 (((if j = xv then q % d else f j) : Nat) : Int)) := (g3.set xv _).congr fun j _ => by split <;> simp_all
    exact World.rowIs.drew (h1.setOther (by simp) _)
  · rw [far _ _ _ (by omega) (by omega)]; exact g4
  · show X + 4 ≤ ((W.setCell ⟨X + 1, xv, none⟩ _).setCell ⟨X, 0, none⟩ _).heap.size
    simpa using g6
end Go.Proofs.Ytjnakkdonkgcjaa
