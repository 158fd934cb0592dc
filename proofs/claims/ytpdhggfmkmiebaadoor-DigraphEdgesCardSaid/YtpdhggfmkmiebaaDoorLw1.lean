/- The walk of the statement DigraphReach: it answers true for every graph. -/
import Derived.Test.YtpdhggfmkmiebaaDoorAnc
import Derived.Test.YtpdhggfmkmiebaaDoorFrm
namespace Go.Proofs.YtpdhggfmkmiebaaDoor
open Go.RowKit

theorem small_is (b : Bool) (N : Int) (A : Option Addr) (len cap : Nat) (es : List (Int × Int)) (hlen : Hid (len = es.length)) (hb : Hid (smallB N es = b)) (w : World) (hE : ERow w A es) :
    Calls Tryd.prog 12 #[.agg #[.int .i64 N, .slice A len cap]] w (Ret (.bool b) w) := by
  have := small_any N A len cap es hlen w hE
  rwa [hb.out] at this
theorem right_is (b : Bool) (N : Int) (A : Option Addr) (len cap : Nat) (es : List (Int × Int)) (hlen : Hid (len = es.length)) (hb : Hid (rightB N es = b)) (w : World) (hE : ERow w A es) :
    Calls Tryd.prog 15 #[.agg #[.int .i64 N, .slice A len cap]] w (Ret (.bool b) w) := by
  have := right_any N A len cap es hlen w hE
  rwa [hb.out] at this
theorem reach_is (n : Nat) (A : Option Addr) (len cap : Nat) (ns : List (Nat × Nat)) (hlen : Hid (len = ns.length)) (hG : GOk n ns) (w : World) (hE : NRow w A ns) :
    Calls Tryd.prog 13 #[.agg #[.int .i64 n, .slice A len cap]] w fun e w' => ∃ b, e = .returned (.tuple #[.slice (some ⟨b, 0, none⟩) n n, .int .i64 0]) ∧ w.heap.size ≤ b ∧ w'.rowIs b 33 n (u64F (viaF ns n)) ∧ Below w.heap.size w w' :=
  reach_ok n A len cap ns hlen hG w hE

/-- the set of all marked nodes is what Reach found -/
theorem marks_eq {n : Nat} {ns : List (Nat × Nat)} (hn : ∀ e ∈ ns, e.2 < n) {a : Nat} {f : Nat → Bool} (hf : ∀ j, f j = true ↔ Way ns a j) : setOf f n = viaF ns n a := by
  apply Nat.eq_of_testBit_eq
  intro i
  rw [Bool.eq_iff_iff, testBit_setOf, viaF_way hn, Bool.and_eq_true, decide_eq_true_eq, hf]
  exact ⟨fun h => h.2, fun h => ⟨h.end_lt hn, h⟩⟩

set_option maxRecDepth 100000 in
theorem reach_law_big (N : Int) (A : Option Addr) (len cap : Nat) (es : List (Int × Int)) (hlen : Hid (len = es.length)) (w : World) (hE : ERow w A es) (hT : Tab w) (hs : Hid (smallB N es = false)) :
    Calls Tryd.prog 3 #[.agg #[.int .i64 N, .slice A len cap]] w (Ret (.bool true) w) := by
  go_enter Tryd.func3, Tryd.ntmps3
  go_wp2_with fail
  refine (anchor_any _ (hT.below (below_alloc (Below.refl _ _) _))).mono ?_
  rintro e w1 ⟨rfl, hb1⟩
  simp only [World.size_alloc] at hb1
  have hB1 := below_new hb1
  have d0 : w1.cell? ⟨w.heap.size, 0, none⟩ = some (.int .i64 N) := (hb1.cell (show w.heap.size < w.heap.size + 1 by omega)).trans (World.cell?_alloc_at _ _ _ _ rfl)
  have d1 : w1.cell? ⟨w.heap.size, 1, none⟩ = some (.slice A len cap) := (hb1.cell (show w.heap.size < w.heap.size + 1 by omega)).trans (World.cell?_alloc_at _ _ _ _ rfl)
  go_wp2_with fail
  refine (small_is false N A len cap es hlen hs _ (hE.below hB1)).mono ?_
  rintro e w2 ⟨rfl, hb2⟩
  go_wp2
  go_ret
  exact ⟨rfl, below_then hB1 hB1.size hb2⟩

set_option maxRecDepth 100000 in
theorem reach_law_wrong (N : Int) (A : Option Addr) (len cap : Nat) (es : List (Int × Int)) (hlen : Hid (len = es.length)) (w : World) (hE : ERow w A es) (hT : Tab w) (hs : Hid (smallB N es = true)) (hr : Hid (rightB N es = false)) :
    Calls Tryd.prog 3 #[.agg #[.int .i64 N, .slice A len cap]] w (Ret (.bool true) w) := by
  go_enter Tryd.func3, Tryd.ntmps3
  go_wp2_with fail
  refine (anchor_any _ (hT.below (below_alloc (Below.refl _ _) _))).mono ?_
  rintro e w1 ⟨rfl, hb1⟩
  simp only [World.size_alloc] at hb1
  have hB1 := below_new hb1
  have hl1 : w.heap.size < w1.heap.size := by have := hb1.size; simp at this; omega
  have d0 : w1.cell? ⟨w.heap.size, 0, none⟩ = some (.int .i64 N) := (hb1.cell (show w.heap.size < w.heap.size + 1 by omega)).trans (World.cell?_alloc_at _ _ _ _ rfl)
  have d1 : w1.cell? ⟨w.heap.size, 1, none⟩ = some (.slice A len cap) := (hb1.cell (show w.heap.size < w.heap.size + 1 by omega)).trans (World.cell?_alloc_at _ _ _ _ rfl)
  go_wp2_with fail
  refine (small_is true N A len cap es hlen hs _ (hE.below hB1)).mono ?_
  rintro e w2 ⟨rfl, hb2⟩
  have hB2 := below_then hB1 hB1.size hb2
  have hl2 : w.heap.size < w2.heap.size := by have := hb2.size; omega
  have e0 := (hb2.cell (by exact hl1)).trans d0
  have e1 := (hb2.cell (by exact hl1)).trans d1
  clear d0 d1
  go_wp2_with fail
  refine (reach_wrong N A len cap es hlen hr _ (hE.below hB2)).mono ?_
  rintro e w3 ⟨rfl, hb3⟩
  have hB3 := below_then hB2 hB2.size hb3
  have f0 := (hb3.cell (by exact hl2)).trans e0
  have f1 := (hb3.cell (by exact hl2)).trans e1
  clear e0 e1
  go_wp2_with fail
  refine (plain_any N A len cap _).mono ?_
  rintro e w4 ⟨rfl, hb4⟩
  have hB4 := below_then hB3 hB3.size hb4
  clear f0 f1
  go_wp2_with fail
  refine (right_is false N A len cap es hlen hr _ (hE.below (below_alloc hB4 _))).mono ?_
  rintro e w5 ⟨rfl, hb5⟩
  simp only [World.size_alloc] at hb5
  go_wp2
  go_ret
  exact ⟨rfl, below_then (below_alloc hB4 _) (by have := hB4.size; simp; omega) (by simpa using hb5)⟩

set_option maxRecDepth 100000 in
set_option maxHeartbeats 1000000 in
theorem reach_law_right (n : Nat) (A : Option Addr) (len cap : Nat) (ns : List (Nat × Nat)) (hlen : Hid (len = ns.length)) (hG : GOk n ns) (w : World) (hE : NRow w A ns) (hT : Tab w) (hs : Hid (smallB n (castE ns) = true)) (hr : Hid (rightB n (castE ns) = true)) :
    Calls Tryd.prog 3 #[.agg #[.int .i64 n, .slice A len cap]] w (Ret (.bool true) w) := by
  have h1 : n ≤ 64 := hG.hn
  have hlen' : Hid (len = (castE ns).length) := Lib.hid (by rw [castE_length]; exact hlen.out)
  go_enter Tryd.func3, Tryd.ntmps3
  go_wp2_with fail
  refine (anchor_any _ (hT.below (below_alloc (Below.refl _ _) _))).mono ?_
  rintro e w1 ⟨rfl, hb1⟩
  simp only [World.size_alloc] at hb1
  have hB1 := below_new hb1
  have hl1 : w.heap.size < w1.heap.size := by have := hb1.size; simp at this; omega
  have d0 : w1.cell? ⟨w.heap.size, 0, none⟩ = some (.int .i64 n) := (hb1.cell (show w.heap.size < w.heap.size + 1 by omega)).trans (World.cell?_alloc_at _ _ _ _ rfl)
  have d1 : w1.cell? ⟨w.heap.size, 1, none⟩ = some (.slice A len cap) := (hb1.cell (show w.heap.size < w.heap.size + 1 by omega)).trans (World.cell?_alloc_at _ _ _ _ rfl)
  go_wp2_with fail
  refine (small_is true n A len cap (castE ns) hlen' hs _ (hE.below hB1).ints).mono ?_
  rintro e w2 ⟨rfl, hb2⟩
  have hB2 := below_then hB1 hB1.size hb2
  have hl2 : w.heap.size < w2.heap.size := by have := hb2.size; omega
  have e0 := (hb2.cell (by exact hl1)).trans d0
  have e1 := (hb2.cell (by exact hl1)).trans d1
  clear d0 d1 hb1 hb2
  go_wp2_with fail
  refine (reach_is n A len cap ns hlen hG _ (hE.below hB2)).mono ?_
  rintro e w3 ⟨rb, rfl, hrb, hrow, hb3⟩
  have hB3 := below_then hB2 hB2.size hb3
  have hl3 : w.heap.size < w3.heap.size := by have := hb3.size; omega
  have f0 := (hb3.cell (by exact hl2)).trans e0
  have f1 := (hb3.cell (by exact hl2)).trans e1
  have hrb3 := hrow.lt
  clear e0 e1 hb3
  go_wp2_with fail
  refine (plain_any n A len cap _).mono ?_
  rintro e w4 ⟨rfl, hb4⟩
  have hB4 := below_then hB3 hB3.size hb4
  have hl4 : w3.heap.size ≤ w4.heap.size := hb4.size
  have g0 := (hb4.cell (by exact hl3)).trans f0
  have hrow4 := row_below hrow hb4 hrb3
  clear f0 f1 hb4 hrow
  obtain ⟨W, hW⟩ : ∃ W, W = w4.alloc (Obj.cells #[Value.int IntKind.i64 n, Value.slice A len cap] 31) := ⟨_, rfl⟩
  have hWs : W.heap.size = w4.heap.size + 1 := by rw [hW]; simp
  have HWs := Lib.hid hWs
  have hWB : Below w.heap.size w W := by rw [hW]; exact below_alloc hB4 _
  have hWrow : W.rowIs rb 33 n (u64F (viaF ns n)) := by rw [hW]; exact hrow4.alloc _
  have p0 : W.cell? ⟨w4.heap.size, 0, none⟩ = some (.int .i64 n) := by rw [hW]; exact World.cell?_alloc_at _ _ _ _ rfl
  have p1 : W.cell? ⟨w4.heap.size, 1, none⟩ = some (.slice A len cap) := by rw [hW]; exact World.cell?_alloc_at _ _ _ _ rfl
  have q0 : W.cell? ⟨w.heap.size, 0, none⟩ = some (.int .i64 n) := by rw [hW]; exact (World.cell?_alloc_past _ _ _ (by show w.heap.size < w4.heap.size; omega)).trans g0
  clear hWs hrow4 g0
  go_wp2_with fail
  rw [← hW]
  clear hW
  refine (right_is true n A len cap (castE ns) hlen' hr _ (hE.below hWB).ints).mono ?_
  rintro e w6 ⟨rfl, hb6⟩
  have hl6 : w4.heap.size < W.heap.size := by rw [HWs.out]; omega
  have hB6 := below_then hWB hWB.size hb6
  have hl7 : w4.heap.size < w6.heap.size := by have := hb6.size; omega
  have r0 := (hb6.cell (by exact hl6)).trans p0
  have r1 := (hb6.cell (by exact hl6)).trans p1
  have r2 := (hb6.cell (by show w.heap.size < W.heap.size; omega)).trans q0
  have hrow6 := row_below hWrow hb6 (by omega)
  have HR := Lib.hid hrow6
  clear hrow6 hWrow p0 p1 q0 hb6
  go_wp2
  go_loopg [44] n (fun g s wr => ∃ i : Nat, i ≤ n ∧ g = n - i ∧ s = .int .i64 i ∧ Below w6.heap.size w6 wr)
  case atStart => exact ⟨0, by omega, rfl, rfl, Below.refl _ _⟩
  case round =>
    obtain ⟨i, hi, rfl, rfl, hb⟩ := hrel
    have hBr := below_then hB6 hB6.size hb
    by_cases hlt : i < n
    · have c0 : wr.cell? ⟨rb, i, none⟩ = some (.int .u64 (viaF ns n i : Nat)) := (hb.cell (show rb < w6.heap.size by omega)).trans (HR.out.cell hlt)
      have c1 := (hb.cell (by exact hl7)).trans r0
      have c2 := (hb.cell (by exact hl7)).trans r1
      go_wp2_with fail
      refine (from_any n A len cap ns hlen hG _ (hE.below hBr) i).mono ?_
      rintro e w8 ⟨fb, f, rfl, hfb, hrowF, hf, hb8⟩
      have HF := Lib.hid hrowF
      have HM := Lib.hid (marks_eq (fun e he => (hG.mem he).2) hf)
      have hb9 := below_then hb hb.size hb8
      clear hrowF hf c0 c1 c2
      go_wp2
      go_loopg [8, 53] n (fun g s8 s wx => wx = w8 ∧ ∃ k : Nat, k ≤ n ∧ g = n - k ∧ s = .int .i64 k ∧ s8 = .int .u64 (setOf f k : Nat))
      case atStart => exact ⟨rfl, 0, by omega, rfl, rfl, rfl⟩
      case round =>
        obtain ⟨rfl, k, hk, rfl, rfl, rfl⟩ := hrel
        by_cases hlt2 : k < n
        · have c3 : wr.cell? ⟨fb, k, none⟩ = some (.bool (f k)) := HF.out.cell hlt2
          have HV := Lib.hid (or_pow (s := setOf f k) (lt64 (setOf_lt f k) (by omega)) (show k < 64 by omega))
          cases hfk : f k
          · have HN := Lib.hid (setOf_no hfk)
            rw [hfk] at c3
            clear hfk
            go_wp2
            go_roundg (n - (k + 1))
            case measure => omega
            case rel => exact ⟨rfl, k + 1, by omega, rfl, by go_num, by rw [HN.out]⟩
          · have HN := Lib.hid (setOf_yes hfk)
            rw [hfk] at c3
            clear hfk
            go_wp2
            go_roundg (n - (k + 1))
            case measure => omega
            case rel => exact ⟨rfl, k + 1, by omega, rfl, by go_num, by rw [HN.out, HV.out]⟩
        · obtain rfl : k = n := by omega
          have hm := HM.out
          rw [hm]
          go_wp2
          go_roundg (k - (i + 1))
          case measure => omega
          case rel => exact ⟨i + 1, by omega, rfl, by go_num, hb9⟩
    · obtain rfl : i = n := by omega
      go_wp2
      go_ret
      exact ⟨rfl, hBr⟩

/-- DigraphReach ANSWERS TRUE -/
theorem reach_law (N : Int) (A : Option Addr) (len cap : Nat) (es : List (Int × Int)) (hlen : Hid (len = es.length)) (w : World) (hE : ERow w A es) (hT : Tab w) :
    Calls Tryd.prog 3 #[.agg #[.int .i64 N, .slice A len cap]] w (Ret (.bool true) w) := by
  cases hs : smallB N es
  · exact reach_law_big N A len cap es hlen w hE hT (Lib.hid hs)
  · cases hr : rightB N es
    · exact reach_law_wrong N A len cap es hlen w hE hT (Lib.hid hs) (Lib.hid hr)
    · obtain ⟨n, ns, rfl, rfl, hG⟩ := right_nat hr
      exact reach_law_right n A len cap ns (Lib.hid (by rw [← castE_length]; exact hlen.out)) hG w (NRow.of_ints hE) hT (Lib.hid hs) (Lib.hid hr)
end Go.Proofs.YtpdhggfmkmiebaaDoor
