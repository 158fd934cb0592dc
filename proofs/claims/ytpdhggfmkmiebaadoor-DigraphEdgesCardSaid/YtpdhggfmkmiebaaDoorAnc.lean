/- The contracts of the statements' anchor and same; a right graph's nodes as natural numbers. -/
import Derived.Test.YtpdhggfmkmiebaaDoorR2
import Derived.Test.YtpdhggfmkmiebaaDoorThn
namespace Go.Proofs.YtpdhggfmkmiebaaDoor
open Go.RowKit

theorem right_nat {N : Int} {es : List (Int × Int)} (h : rightB N es = true) : ∃ (n : Nat) (ns : List (Nat × Nat)), N = n ∧ es = castE ns ∧ GOk n ns := by
  simp only [rightB, Bool.and_eq_true, decide_eq_true_eq] at h
  obtain ⟨⟨⟨h0, h1⟩, h2⟩, h3⟩ := h
  rw [List.all_eq_true] at h3
  refine ⟨N.toNat, es.map fun e => (e.1.toNat, e.2.toNat), by omega, ?_, ?_⟩
  · unfold castE
    rw [List.map_map]
    conv => lhs; rw [← List.map_id es]
    refine List.map_congr_left fun e he => ?_
    obtain ⟨x, y⟩ := e
    have := okE_yes (h3 _ he)
    simp only [id, Function.comp, Prod.mk.injEq]
    omega
  · refine ⟨by omega, by rw [List.length_map]; exact h2, fun k hk => ?_⟩
    have hk' : k < es.length := by rwa [List.length_map] at hk
    rw [getD_in _ _ hk]
    simp only [List.getElem_map]
    have := okE_yes (x := es[k].1) (y := es[k].2) (h3 _ (List.getElem_mem hk'))
    omega

def ns3 : List (Nat × Nat) := [(0, 1), (1, 2), (0, 2)]
theorem gok3 : GOk 3 ns3 := ⟨by decide, by decide, by decide⟩
theorem order3 : orderV 3 ns3 = [0, 1, 2] := by decide +kernel
theorem thin3 : thinL 3 ns3 3 = [(0, 1), (1, 2)] := by decide +kernel
theorem closed3 : closedB 3 ns3 5 = false := by decide +kernel
theorem order3_ok (A : Option Addr) (w : World) (hE : NRow w A ns3) (hT : Tab w) :
    Calls Tryd.prog 25 #[.agg #[.int .i64 3, .slice A 3 3]] w fun e w' => ∃ A c, e = .returned (.tuple #[.slice A 3 c, .int .i64 0]) ∧ IRow w' A [0, 1, 2] ∧ Below w.heap.size w w' :=
  (order_ok 3 A 3 3 ns3 (Lib.hid rfl) gok3 w hE hT).mono fun e w' ⟨hb, h⟩ => by
    rw [order3] at h
    rcases h with ⟨h, _⟩ | ⟨_, A, c, he, hi⟩
    · exact absurd h (by decide)
    · exact ⟨A, c, he, hi, hb⟩
theorem thin3_ok (A : Option Addr) (w : World) (hE : NRow w A ns3) (hT : Tab w) :
    Calls Tryd.prog 17 #[.agg #[.int .i64 3, .slice A 3 3]] w fun e w' => ∃ A c, e = .returned (.tuple #[.slice A 2 c, .int .i64 0]) ∧ Below w.heap.size w w' :=
  (thin_ok 3 A 3 3 ns3 (Lib.hid rfl) gok3 w hE hT).mono fun e w' ⟨hb, h⟩ => by
    rw [order3, thin3] at h
    rcases h with ⟨h, _⟩ | ⟨_, A, c, he, hi⟩
    · exact absurd h (by decide)
    · exact ⟨A, c, he, hb⟩
theorem closed3_ok (A : Option Addr) (w : World) (hE : NRow w A ns3) :
    Calls Tryd.prog 21 #[.agg #[.int .i64 3, .slice A 3 3], .int .u64 5] w (Ret (.tuple #[.bool false, .int .i64 0]) w) := by
  have := closed_in 3 A 3 3 ns3 (Lib.hid rfl) gok3 w hE 5 (Lib.hid (by decide)) (by decide +kernel)
  rwa [closed3] at this
theorem graph3 (w : World) : NRow (w.alloc (Obj.cells #[Value.int IntKind.i64 0, Value.int IntKind.i64 1, Value.int IntKind.i64 1, Value.int IntKind.i64 2, Value.int IntKind.i64 0, Value.int IntKind.i64 2] 39)) (some ⟨w.heap.size, 0, none⟩) ns3 := fun k hk => by
  have hk' : k < 3 := hk
  refine ⟨w.heap.size, 0, rfl, ?_, ?_⟩
  · rw [World.cell?_alloc_at _ _ _ _ rfl]
    obtain rfl | rfl | rfl : k = 0 ∨ k = 1 ∨ k = 2 := by omega
    all_goals rfl
  · rw [World.cell?_alloc_at _ _ _ _ rfl]
    obtain rfl | rfl | rfl : k = 0 ∨ k = 1 ∨ k = 2 := by omega
    all_goals rfl

set_option maxRecDepth 100000 in
theorem anchor_any (w : World) (hT : Tab w) : Calls Tryd.prog 11 #[] w (Ret (.bool true) w) := by
  obtain ⟨W, hW⟩ : ∃ W, W = (w.alloc (Obj.cells #[Value.int IntKind.i64 0, Value.int IntKind.i64 1, Value.int IntKind.i64 1, Value.int IntKind.i64 2, Value.int IntKind.i64 0, Value.int IntKind.i64 2] 39)).alloc (Obj.cells #[Value.int IntKind.i64 3, Value.slice (some ⟨w.heap.size, 0, none⟩) 3 3] 24) := ⟨_, rfl⟩
  have hB : Below w.heap.size w W := by rw [hW]; exact below_alloc (below_alloc (Below.refl _ _) _) _
  have hE : NRow W (some ⟨w.heap.size, 0, none⟩) ns3 := by rw [hW]; exact (graph3 w).below (below_alloc (Below.refl _ _) _)
  have d0 : W.cell? ⟨w.heap.size + 1, 0, none⟩ = some (.int .i64 3) := by rw [hW]; exact World.cell?_alloc_at _ _ _ _ (by simp)
  have d1 : W.cell? ⟨w.heap.size + 1, 1, none⟩ = some (.slice (some ⟨w.heap.size, 0, none⟩) 3 3) := by rw [hW]; exact World.cell?_alloc_at _ _ _ _ (by simp)
  have hlt : w.heap.size + 1 < W.heap.size := World.block_lt_of_cell? _ _ d0
  go_enter Tryd.func11, Tryd.ntmps11
  go_wp2_with fail
  rw [← hW]
  clear hW
  refine (order3_ok _ W hE (hT.below hB)).mono ?_
  rintro e w1 ⟨A1, c1, rfl, hI, hb1⟩
  have HI := Lib.hid hI
  have e0 : w1.cell? ⟨w.heap.size + 1, 0, none⟩ = some (.int .i64 3) := (hb1.cell (by exact hlt)).trans d0
  have e1 : w1.cell? ⟨w.heap.size + 1, 1, none⟩ = some (.slice (some ⟨w.heap.size, 0, none⟩) 3 3) := (hb1.cell (by exact hlt)).trans d1
  have hB1 := below_then hB hB.size hb1
  clear hI d0 d1
  go_wp2_with fail
  refine (thin3_ok _ w1 (hE.below hb1) (hT.below hB1)).mono ?_
  rintro e w2 ⟨A2, c2, rfl, hb2⟩
  have hlt1 : w.heap.size + 1 < w1.heap.size := World.block_lt_of_cell? _ _ e0
  have f0 : w2.cell? ⟨w.heap.size + 1, 0, none⟩ = some (.int .i64 3) := (hb2.cell (by exact hlt1)).trans e0
  have f1 : w2.cell? ⟨w.heap.size + 1, 1, none⟩ = some (.slice (some ⟨w.heap.size, 0, none⟩) 3 3) := (hb2.cell (by exact hlt1)).trans e1
  have hB2 := below_then hB1 hB1.size hb2
  have HI2 := Lib.hid (HI.out.below hb2)
  clear e0 e1
  go_wp2_with fail
  refine (closed3_ok _ w2 ((hE.below hb1).below hb2)).mono ?_
  rintro e w3 ⟨rfl, hb3⟩
  have hB3 := below_then hB2 hB2.size hb3
  have hI3 := HI2.out.below hb3
  obtain ⟨b, o, rfl, g0⟩ := hI3 0 (by decide)
  obtain ⟨b', o', hbo, g2⟩ := hI3 2 (by decide)
  simp only [Option.some.injEq, Addr.mk.injEq, and_true] at hbo
  obtain ⟨rfl, rfl⟩ := hbo
  have g0' : w3.cell? ⟨b, o, none⟩ = some (.int .i64 0) := g0
  have g2' : w3.cell? ⟨b, o + 2, none⟩ = some (.int .i64 2) := g2
  clear g0 g2 f0 f1 hI3
  go_wp2
  go_ret
  exact ⟨rfl, hB3⟩

/-! ### same -/
def sameB (a b : List Nat) : Bool := a == b
set_option maxRecDepth 100000 in
theorem same_yes (l : List Nat) (A B : Option Addr) (len ca cb : Nat) (hlen : Hid (l.length = len)) (hsm : len ≤ 1000) (w : World) (hA : IRow w A l) (hB : IRow w B l) :
    Calls Tryd.prog 28 #[.slice A len ca, .slice B len cb] w (Ret (.bool true) w) := by
  go_enter Tryd.func28, Tryd.ntmps28
  go_wp2
  go_loopg [14] len (fun g i wr => wr = w ∧ ∃ k : Nat, k ≤ len ∧ g = len - k ∧ i = .int .i64 k)
  case atStart => exact ⟨rfl, 0, by omega, rfl, rfl⟩
  case round =>
    obtain ⟨rfl, k, hk, rfl, rfl⟩ := hrel
    by_cases hlt : k < len
    · obtain ⟨b, o, rfl, d1⟩ := hA k (by rw [hlen.out]; exact hlt)
      obtain ⟨b', o', rfl, d2⟩ := hB k (by rw [hlen.out]; exact hlt)
      obtain ⟨x, hx⟩ : ∃ x, l.getD k 0 = x := ⟨_, rfl⟩
      rw [hx] at d1 d2
      clear hx
      go_wp2
      go_roundg (len - (k + 1))
      case measure => omega
      case rel => exact ⟨rfl, k + 1, by omega, rfl, by go_num⟩
    · obtain rfl : k = len := by omega
      go_wp2
      go_ret
      exact ⟨rfl, Below.refl _ _⟩
end Go.Proofs.YtpdhggfmkmiebaaDoor
