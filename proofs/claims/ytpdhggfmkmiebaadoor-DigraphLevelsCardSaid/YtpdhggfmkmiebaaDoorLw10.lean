/- The walk of the statement DigraphLevels: it answers true for every graph. -/
import Derived.Test.YtpdhggfmkmiebaaDoorLw0
namespace Go.Proofs.YtpdhggfmkmiebaaDoor
open Go.RowKit

set_option maxRecDepth 100000 in
theorem levels_law_big (N : Int) (A : Option Addr) (len cap : Nat) (es : List (Int × Int)) (hlen : Hid (len = es.length)) (w : World) (hE : ERow w A es) (hT : Tab w) (hs : Hid (smallB N es = false)) :
    Calls Tryd.prog 10 #[.agg #[.int .i64 N, .slice A len cap]] w (Ret (.bool true) w) := by
  go_enter Tryd.func10, Tryd.ntmps10
  go_wp2_with fail
  refine (anchor_any _ (hT.below (below_alloc (Below.refl _ _) _))).mono ?_
  rintro e w1 ⟨rfl, hb1⟩
  have x1 : GBox w1 w.heap.size N A len cap := (GBox.new w 24 N A len cap).below hb1
  have hB1 : Below w.heap.size w w1 := below_new (by simpa using hb1)
  have c0 := x1.c0
  have c1 := x1.c1
  clear hb1
  go_wp2_with fail
  refine (small_is false N A len cap es hlen hs _ (hE.below hB1)).mono ?_
  rintro e w2 ⟨rfl, hb2⟩
  have x2 := x1.below hb2
  have hB2 := below_then hB1 hB1.size hb2
  clear c0 c1
  have c0 := x2.c0
  have c1 := x2.c1
  go_wp2
  go_ret
  exact ⟨rfl, hB2⟩

set_option maxRecDepth 100000 in
theorem levels_law_wrong (N : Int) (A : Option Addr) (len cap : Nat) (es : List (Int × Int)) (hlen : Hid (len = es.length)) (w : World) (hE : ERow w A es) (hT : Tab w) (hs : Hid (smallB N es = true)) (hr : Hid (rightB N es = false)) :
    Calls Tryd.prog 10 #[.agg #[.int .i64 N, .slice A len cap]] w (Ret (.bool true) w) := by
  go_enter Tryd.func10, Tryd.ntmps10
  go_wp2_with fail
  refine (anchor_any _ (hT.below (below_alloc (Below.refl _ _) _))).mono ?_
  rintro e w1 ⟨rfl, hb1⟩
  have x1 : GBox w1 w.heap.size N A len cap := (GBox.new w 24 N A len cap).below hb1
  have hB1 : Below w.heap.size w w1 := below_new (by simpa using hb1)
  have c0 := x1.c0
  have c1 := x1.c1
  clear hb1
  go_wp2_with fail
  refine (small_is true N A len cap es hlen hs _ (hE.below hB1)).mono ?_
  rintro e w2 ⟨rfl, hb2⟩
  have x2 := x1.below hb2
  have hB2 := below_then hB1 hB1.size hb2
  clear c0 c1
  have c0 := x2.c0
  have c1 := x2.c1
  go_wp2_with fail
  refine (levels_wrong N A len cap es hlen hr _ (hE.below hB2)).mono ?_
  rintro e w3 ⟨rfl, hb3⟩
  have x3 := x2.below hb3
  have hB3 := below_then hB2 hB2.size hb3
  clear c0 c1
  have c0 := x3.c0
  have c1 := x3.c1
  go_wp2
  go_ret
  exact ⟨rfl, hB3⟩

set_option maxRecDepth 100000 in
set_option maxHeartbeats 1000000 in
theorem levels_law_right_circle (n : Nat) (A : Option Addr) (len cap : Nat) (ns : List (Nat × Nat)) (hlen : Hid (len = ns.length)) (hG : GOk n ns) (hA : ¬ Acyclic ns) (w : World) (hE : NRow w A ns) (hT : Tab w) (hs : Hid (smallB n (castE ns) = true)) (_hr : Hid (rightB n (castE ns) = true)) :
    Calls Tryd.prog 10 #[.agg #[.int .i64 n, .slice A len cap]] w (Ret (.bool true) w) := by
  have h1 : n ≤ 64 := hG.hn
  have hlen' : Hid (len = (castE ns).length) := Lib.hid (by rw [castE_length]; exact hlen.out)
  have HA := Lib.hid hA
  clear hA
  go_enter Tryd.func10, Tryd.ntmps10
  go_wp2_with fail
  refine (anchor_any _ (hT.below (below_alloc (Below.refl _ _) _))).mono ?_
  rintro e w1 ⟨rfl, hb1⟩
  have x1 : GBox w1 w.heap.size n A len cap := (GBox.new w 24 n A len cap).below hb1
  have hB1 : Below w.heap.size w w1 := below_new (by simpa using hb1)
  have c0 := x1.c0
  have c1 := x1.c1
  clear hb1
  go_wp2_with fail
  refine (small_is true n A len cap (castE ns) hlen' hs _ (hE.below hB1).ints).mono ?_
  rintro e w2 ⟨rfl, hb2⟩
  have x2 := x1.below hb2
  have hB2 := below_then hB1 hB1.size hb2
  clear c0 c1
  have c0 := x2.c0
  have c1 := x2.c1
  go_wp2_with fail
  refine (levels_no n A len cap ns hlen hG HA.out _ (hE.below hB2) (hT.below hB2)).mono ?_
  rintro e w3 ⟨rfl, hb3⟩
  have x3 := x2.below hb3
  have hB3 := below_then hB2 hB2.size hb3
  clear c0 c1
  have c0 := x3.c0
  have c1 := x3.c1
  go_wp2
  go_ret
  exact ⟨rfl, hB3⟩

set_option maxRecDepth 100000 in
set_option maxHeartbeats 1000000 in
theorem levels_law_right_plain (n : Nat) (A : Option Addr) (len cap : Nat) (ns : List (Nat × Nat)) (hlen : Hid (len = ns.length)) (hG : GOk n ns) (hA : Acyclic ns) (w : World) (hE : NRow w A ns) (hT : Tab w) (hs : Hid (smallB n (castE ns) = true)) (hr : Hid (rightB n (castE ns) = true)) :
    Calls Tryd.prog 10 #[.agg #[.int .i64 n, .slice A len cap]] w (Ret (.bool true) w) := by
  have h1 : n ≤ 64 := hG.hn
  have hlen' : Hid (len = (castE ns).length) := Lib.hid (by rw [castE_length]; exact hlen.out)
  have HA := Lib.hid hA
  have h2 := (small_n hs.out hr.out).2
  rw [castE_length, ← hlen.out] at h2
  clear hA
  have hmk := run_make_row' (P := Tryd.prog) 34 4 (.bool false) 1 Tryd.underlying34 info4 rfl .i64 .i64 n (by omega) (by omega)
  go_enter Tryd.func10, Tryd.ntmps10
  go_wp2_with fail
  refine (anchor_any _ (hT.below (below_alloc (Below.refl _ _) _))).mono ?_
  rintro e w1 ⟨rfl, hb1⟩
  have x1 : GBox w1 w.heap.size n A len cap := (GBox.new w 24 n A len cap).below hb1
  have hB1 : Below w.heap.size w w1 := below_new (by simpa using hb1)
  have c0 := x1.c0
  have c1 := x1.c1
  clear hb1
  go_wp2_with fail
  refine (small_is true n A len cap (castE ns) hlen' hs _ (hE.below hB1).ints).mono ?_
  rintro e w2 ⟨rfl, hb2⟩
  have x2 := x1.below hb2
  have hB2 := below_then hB1 hB1.size hb2
  clear c0 c1
  have c0 := x2.c0
  have c1 := x2.c1
  go_wp2_with fail
  refine (levels_yes n A len cap ns hlen hG HA.out _ (hE.below hB2) (hT.below hB2)).mono ?_
  rintro e w3 ⟨lb, rfl, hrow3, hb3⟩
  have x3 := x2.below hb3
  have hB3 := below_then hB2 hB2.size hb3
  clear c0 c1
  have c0 := x3.c0
  have c1 := x3.c1
  have HLv := Lib.hid (levels_ok' hG HA.out)
  have HLe : Hid (∀ x, lvAll n ns (orderV n ns) x ≤ n * n) := Lib.hid (fun x => by
    have := lvAll_le n ns (orderV n ns) x
    rwa [(order_iff hG).2 HA.out] at this)
  obtain ⟨f, hf⟩ : ∃ f, lvAll n ns (orderV n ns) = f := ⟨_, rfl⟩
  rw [hf] at HLv HLe hrow3
  have HR3 := Lib.hid hrow3
  have hnn : n * n ≤ 4096 := Nat.le_trans (Nat.mul_le_mul h1 h1) (by omega)
  clear hrow3 hf
  have xa := (x3.alloc (Obj.cells (madeCells #[Value.bool false] n) 4)).c1
  go_wp2
  clear hmk xa c0 c1
  go_loopg [36] len (fun g s wr => ∃ (k : Nat) (fb : Nat → Bool), k ≤ len ∧ g = len - k ∧ s = .int .i64 k ∧ wr.rowIs w3.heap.size 4 n (boolF fb) ∧ (∀ e ∈ ns.take k, f e.2 = f e.1 + 1 → fb e.2 = true) ∧ Below w3.heap.size w3 wr)
  case atStart =>
    refine ⟨0, fun _ => false, by omega, rfl, rfl, ?_, by simp, (Below.refl _ _).alloc (Nat.le_refl _) _⟩
    exact World.rowIs_made w3 (.bool false) n 4
  case round =>
    obtain ⟨k, fb, hk, rfl, rfl, hrow, hdone, hb⟩ := hrel
    have x4 := x3.below hb
    have hB4 := below_then hB3 hB3.size hb
    have c0 := x4.c0
    have c1 := x4.c1
    have hsz : w3.heap.size < wr.heap.size := hrow.lt
    by_cases hlt : k < len
    · have hlt' : k < ns.length := by rw [← hlen.out]; exact hlt
      have hEr : NRow wr A ns := hE.below hB4
      obtain ⟨eb, o, rfl, d1, d2⟩ := hEr k hlt'
      clear hEr
      obtain ⟨q1, q2⟩ := hG.hk k hlt'
      obtain ⟨u, hu⟩ : ∃ u, (ns.getD k (0, 0)).1 = u := ⟨_, rfl⟩
      obtain ⟨y, hy⟩ : ∃ y, (ns.getD k (0, 0)).2 = y := ⟨_, rfl⟩
      have hxy : ns.getD k (0, 0) = (u, y) := by rw [← hu, ← hy]
      have hmem : (u, y) ∈ ns := by rw [← hxy]; exact getD_mem ns (0, 0) hlt'
      have htk : ns.take (k + 1) = ns.take k ++ [(u, y)] := by rw [take_snoc ns (0, 0) hlt', hxy]
      rw [hu] at d1 q1
      rw [hy] at d2 q2
      have hrise := HLv.out.rise u y hmem
      have hle1 := HLe.out u
      have hle2 := HLe.out y
      have hlb : lb < w3.heap.size := HR3.out.lt
      have hR4 := row_below HR3.out hb hlb
      have d3 : wr.cell? ⟨lb, u, none⟩ = some (.int .i64 (f u : Nat)) := hR4.cell q1
      have d4 : wr.cell? ⟨lb, y, none⟩ = some (.int .i64 (f y : Nat)) := hR4.cell q2
      have d5 : wr.cell? ⟨w3.heap.size, y, none⟩ = some (.bool (fb y)) := hrow.cell q2
      have d6 : wr.frozen? ⟨w3.heap.size, y, none⟩ = false := hrow.frozen y
      have HRow := Lib.hid hrow
      have HDone := Lib.hid hdone
      have HB := Lib.hid hb
      have HTk := Lib.hid htk
      have hyb : y < n := q2
      obtain ⟨wa, hwa⟩ : ∃ wa, wa = wr.alloc (Obj.cells #[Value.int IntKind.i64 u, Value.int IntKind.i64 y] 39) := ⟨_, rfl⟩
      have g0 : wa.cell? ⟨wr.heap.size, 0, none⟩ = some (.int .i64 u) := by rw [hwa]; exact World.cell?_alloc_at _ _ _ _ rfl
      have g1 : wa.cell? ⟨wr.heap.size, 1, none⟩ = some (.int .i64 y) := by rw [hwa]; exact World.cell?_alloc_at _ _ _ _ rfl
      have g3 : wa.cell? ⟨lb, u, none⟩ = some (.int .i64 (f u : Nat)) := by rw [hwa]; exact (World.cell?_alloc_past _ _ _ (by show lb < _; omega)).trans d3
      have g4 : wa.cell? ⟨lb, y, none⟩ = some (.int .i64 (f y : Nat)) := by rw [hwa]; exact (World.cell?_alloc_past _ _ _ (by show lb < _; omega)).trans d4
      have g5 : wa.cell? ⟨w3.heap.size, y, none⟩ = some (.bool (fb y)) := by rw [hwa]; exact (World.cell?_alloc_past _ _ _ (by exact hsz)).trans d5
      have HRa : Hid (wa.rowIs w3.heap.size 4 n (boolF fb)) := Lib.hid (by rw [hwa]; exact HRow.out.alloc _)
      have g6 : wa.frozen? ⟨w3.heap.size, y, none⟩ = false := HRa.out.frozen y
      have HBa : Hid (Below w3.heap.size w3 wa) := Lib.hid (by rw [hwa]; exact HB.out.alloc (by omega) _)
      have HWA := Lib.hid hwa
      clear hu hy hxy hmem hrow hdone hb htk hR4 hwa
      go_wp2
      rw [← HWA.out]
      clear d1 d2 d3 d4 d5 d6 c0 c1
      go_quiet (fail)
      go_wp2
      cases hfb : fb y
      · rw [hfb] at g5
        go_region
        go_wp2
        go_roundg (len - (k + 1))
        case measure => omega
        case rel =>
          refine ⟨k + 1, fun j => if j = y then (((f u : Nat) : Int) == ((f y : Nat) : Int) - 1) else fb j, by omega, rfl, by go_num, (World.rowIs.set (w := wa.drewN _) HRa.out y _).congr (fun j _ => ?_), ?_, (below_drewN HBa.out _).setCell (by exact Nat.le_refl _) _⟩
          · simp only [boolF]
            split <;> rfl
          · intro e he hx
            rw [HTk.out, List.mem_append, List.mem_singleton] at he
            simp only
            split
            · rename_i hh
              rcases he with he | rfl
              · have := HDone.out e he hx
                rw [hh, hfb] at this
                cases this
              · simp only at hx
                simp only [beq_iff_eq]
                omega
            · rename_i hne
              rcases he with he | rfl
              · exact HDone.out e he hx
              · exact absurd rfl hne
      · rw [hfb] at g5
        go_region
        go_wp2
        go_roundg (len - (k + 1))
        case measure => omega
        case rel =>
          refine ⟨k + 1, fun j => if j = y then true else fb j, by omega, rfl, by go_num, (World.rowIs.set (w := wa.drewN _) HRa.out y _).congr (fun j _ => ?_), ?_, (below_drewN HBa.out _).setCell (by exact Nat.le_refl _) _⟩
          · simp only [boolF]
            split <;> rfl
          · intro e he hx
            rw [HTk.out, List.mem_append, List.mem_singleton] at he
            simp only
            split
            · rfl
            · rename_i hne
              rcases he with he | rfl
              · exact HDone.out e he hx
              · exact absurd rfl hne
    · obtain rfl : k = len := by omega
      rw [hlen.out, List.take_length] at hdone
      have HRow := Lib.hid hrow
      have HDone := Lib.hid hdone
      have hlb : lb < w3.heap.size := HR3.out.lt
      have HR4 := Lib.hid (row_below HR3.out hb hlb)
      clear hrow hdone
      obtain ⟨wo, rfl⟩ : ∃ wo : World, wo = wr := ⟨_, rfl⟩
      go_wp2
      clear c0 c1
      go_loopg [77] n (fun g s wr => wr = wo ∧ ∃ i : Nat, i ≤ n ∧ g = n - i ∧ s = .int .i64 i)
      case atStart => exact ⟨rfl, 0, by omega, rfl, rfl⟩
      case round =>
        obtain ⟨rfl, i, hi, rfl, rfl⟩ := hrel
        by_cases hlt2 : i < n
        · have d1 : wr.cell? ⟨lb, i, none⟩ = some (.int .i64 (f i : Nat)) := HR4.out.cell hlt2
          have d2 : wr.cell? ⟨w3.heap.size, i, none⟩ = some (.bool (fb i)) := HRow.out.cell hlt2
          have hle := HLe.out i
          rcases HLv.out.one i with h0 | ⟨a, ha, h0⟩
          · rw [h0] at d1
            go_wp2
            go_roundg (n - (i + 1))
            case measure => omega
            case rel => exact ⟨rfl, i + 1, by omega, rfl, by go_num⟩
          · rw [HDone.out (a, i) ha h0] at d2
            clear ha
            have h1 : 0 < f i := by omega
            clear h0
            go_wp2
            go_roundg (n - (i + 1))
            case measure => omega
            case rel => exact ⟨rfl, i + 1, by omega, rfl, by go_num⟩
        · obtain rfl : i = n := by omega
          go_wp2
          go_ret
          exact ⟨rfl, hB4⟩

theorem levels_law_right (n : Nat) (A : Option Addr) (len cap : Nat) (ns : List (Nat × Nat)) (hlen : Hid (len = ns.length)) (hG : GOk n ns) (w : World) (hE : NRow w A ns) (hT : Tab w) (hs : Hid (smallB n (castE ns) = true)) (hr : Hid (rightB n (castE ns) = true)) :
    Calls Tryd.prog 10 #[.agg #[.int .i64 n, .slice A len cap]] w (Ret (.bool true) w) := by
  by_cases hA : Acyclic ns
  · exact levels_law_right_plain n A len cap ns hlen hG hA w hE hT hs hr
  · exact levels_law_right_circle n A len cap ns hlen hG hA w hE hT hs hr

theorem levels_law (N : Int) (A : Option Addr) (len cap : Nat) (es : List (Int × Int)) (hlen : Hid (len = es.length)) (w : World) (hE : ERow w A es) (hT : Tab w) :
    Calls Tryd.prog 10 #[.agg #[.int .i64 N, .slice A len cap]] w (Ret (.bool true) w) := by
  cases hs : smallB N es
  · exact levels_law_big N A len cap es hlen w hE hT (Lib.hid hs)
  · cases hr : rightB N es
    · exact levels_law_wrong N A len cap es hlen w hE hT (Lib.hid hs) (Lib.hid hr)
    · obtain ⟨n, ns, rfl, rfl, hG⟩ := right_nat hr
      exact levels_law_right n A len cap ns (Lib.hid (by rw [← castE_length]; exact hlen.out)) hG w (NRow.of_ints hE) hT (Lib.hid hs) (Lib.hid hr)
end Go.Proofs.YtpdhggfmkmiebaaDoor
