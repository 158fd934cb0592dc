/- The statements' anchor. -/
import Derived.Test.YtjnakkdonkgcjaaKg
import Derived.Test.YtjnakkdonkgcjaaKm
import Derived.Test.YtjnakkdonkgcjaaKk
namespace Go.Proofs.Ytjnakkdonkgcjaa
open Go.RowKit

theorem row_srow {w : World} {b n : Nat} {f : Nat → Int} {l : List Int} (h : w.rowIs b 3 n (fun j => .int .i64 (f j))) (hn : l.length = n) (hf : ∀ k, k < n → l.getD k 0 = f k) : SRow w (some ⟨b, 0, none⟩) l := fun k hk => by
  refine ⟨b, 0, rfl, ?_⟩
  rw [Nat.zero_add, hf k (by omega)]
  exact h.cell (by omega)
theorem order325 : orderL 3 5 2 = [2, 3, 1, 4, 0] := by decide +kernel
set_option maxRecDepth 100000 in
theorem anchor_any (w : World) : Calls Try.prog 11 #[] w (Ret (.bool true) w) := by
  have ho : ∀ W, Calls Try.prog 12 #[.int .i64 3, .int .i64 5, .int .i64 2] W fun e w' => ∃ b, e = .returned (.tuple #[.slice (some ⟨b, 0, none⟩) 5 5, .int .i64 0]) ∧ SRow w' (some ⟨b, 0, none⟩) [2, 3, 1, 4, 0] ∧ Below W.heap.size W w' := fun W => by
    have := order_ok3 5 2 (by decide) (by decide) W
    rw [order325] at this
    exact this
  have HO := Lib.hid ho
  clear ho
  go_enter Try.func11, Try.ntmps11
  go_wp2_with fail
  refine (HO.out _).mono ?_
  rintro e w1 ⟨b, rfl, hS, hb1⟩
  have HS := Lib.hid hS
  clear hS
  go_wp2_with fail
  have hL : SRow (w1.alloc (Obj.cells #[Value.int IntKind.i64 2, Value.int IntKind.i64 3] 3)) (some ⟨w1.heap.size, 0, none⟩) (castL [2, 3]) := fun k hk => by
    have h2 : k < 2 := hk
    refine ⟨_, _, rfl, ?_⟩
    rcases k with _ | _ | k
    · exact World.cell?_alloc_at _ _ _ _ rfl
    · exact World.cell?_alloc_at _ _ _ _ rfl
    · omega
  have hn : Calls Try.prog 18 #[.slice (some ⟨w1.heap.size, 0, none⟩) 2 2, .int .i64 4] (w1.alloc (Obj.cells #[Value.int IntKind.i64 2, Value.int IntKind.i64 3] 3)) fun e w' => ∃ b, e = .returned (.tuple #[.slice (some ⟨b, 0, none⟩) 2 2, .int .i64 0]) ∧ SRow w' (some ⟨b, 0, none⟩) [1, 1] ∧ Below (w1.alloc (Obj.cells #[Value.int IntKind.i64 2, Value.int IntKind.i64 3] 3)).heap.size (w1.alloc (Obj.cells #[Value.int IntKind.i64 2, Value.int IntKind.i64 3] 3)) w' :=
    (nth_ok (some ⟨w1.heap.size, 0, none⟩) 2 2 [2, 3] (Lib.hid rfl) (Lib.hid ⟨by decide, by decide⟩) _ hL 4 (by decide)).mono fun e w' ⟨b, he, hr, hb⟩ => ⟨b, he, row_srow hr rfl (fun k hk => by rcases k with _ | _ | k <;> first | decide +kernel | omega), hb⟩
  refine hn.mono ?_
  rintro e w2 ⟨b2, rfl, hS2, hb2⟩
  have hb12 := below_then (below_alloc hb1 _) (below_alloc hb1 _).size hb2
  have hs12 := (HS.out.below (below_then (below_alloc (Below.refl _ w1) _) (by simp) hb2))
  have HS1 := Lib.hid hs12
  have HS2 := Lib.hid hS2
  clear hS2 hs12
  go_wp2_with fail
  refine (same_any (some ⟨b, 0, none⟩) (some ⟨w2.heap.size, 0, none⟩) 5 5 5 5 [2, 3, 1, 4, 0] [2, 3, 1, 4, 0] (Lib.hid rfl) (Lib.hid rfl) _ (HS1.out.below (below_alloc (Below.refl _ _) _)) (fun k hk => ⟨_, _, rfl, by
    have h5 : k < 5 := hk
    rcases k with _ | _ | _ | _ | _ | k <;> first | exact World.cell?_alloc_at _ _ _ _ rfl | omega⟩) (by decide)).mono ?_
  rintro e w3 ⟨rfl, rfl⟩
  go_wp2_with fail
  refine (same_any (some ⟨b2, 0, none⟩) (some ⟨w2.heap.size + 1, 0, none⟩) 2 2 2 2 [1, 1] [1, 1] (Lib.hid rfl) (Lib.hid rfl) _ (HS2.out.below (below_alloc (below_alloc (Below.refl _ _) _) _)) (fun k hk => ⟨_, _, rfl, by
    have h2 : k < 2 := hk
    rcases k with _ | _ | k <;> first | exact World.cell?_alloc_at _ _ _ _ (by rw [World.size_alloc]) | omega⟩) (by decide)).mono ?_
  rintro e w3 ⟨rfl, rfl⟩
  go_wp2_with fail
  go_ret
  exact ⟨rfl, below_alloc (below_alloc hb12 _) _⟩
end Go.Proofs.Ytjnakkdonkgcjaa
