/- The walk of the statement DigraphTurned: it answers true for every graph. -/
import Derived.Test.YtpdhggfmkmiebaaDoorLw0
namespace Go.Proofs.YtpdhggfmkmiebaaDoor
open Go.RowKit

theorem own_set {w : World} {base size n T i : Nat} {e : TypeId} {v u : Value} {xs : List Value} (h : w.ownsRow base e size v n xs) (hT : T < base) : (w.setCell ⟨T, i, none⟩ u).ownsRow base e size v n xs :=
  h.kept (row := some T) ⟨rfl, rfl, rfl, by simp, fun k _ hne => heap_setCell_other w ⟨T, i, none⟩ k u (fun e => hne (by rw [e]))⟩ (.inr fun e => by have := (h.lt T e).1; omega)
set_option maxRecDepth 100000 in
theorem turned_law_big (N : Int) (A : Option Addr) (len cap : Nat) (es : List (Int × Int)) (hlen : Hid (len = es.length)) (w : World) (hE : ERow w A es) (hT : Tab w) (hs : Hid (smallB N es = false)) :
    Calls Tryd.prog 5 #[.agg #[.int .i64 N, .slice A len cap]] w (Ret (.bool true) w) := by
  go_enter Tryd.func5, Tryd.ntmps5
  go_wp2_with fail
  refine (anchor_any _ (hT.below (below_alloc (Below.refl _ _) _))).mono ?_
  rintro e w1 ⟨rfl, hb1⟩
  have x1 : GBox w1 w.heap.size N A len cap := (GBox.new w 24 N A len cap).below hb1
  have hB1 : Below w.heap.size w w1 := below_new (by simpa using hb1)
  have c0 := x1.c0
  have c1 := x1.c1
  clear hb1
  go_wp2_with fail
  refine (small_is false N A len cap es hlen hs _ (hE.below hB1)).mono ?_
  rintro e w2 ⟨rfl, hb2⟩
  have x2 := x1.below hb2
  have hB2 := below_then hB1 hB1.size hb2
  clear c0 c1
  have c0 := x2.c0
  have c1 := x2.c1
  go_wp2
  go_ret
  exact ⟨rfl, hB2⟩

set_option maxRecDepth 100000 in
theorem turned_law_wrong (N : Int) (A : Option Addr) (len cap : Nat) (es : List (Int × Int)) (hlen : Hid (len = es.length)) (w : World) (hE : ERow w A es) (hT : Tab w) (hs : Hid (smallB N es = true)) (hr : Hid (rightB N es = false)) :
    Calls Tryd.prog 5 #[.agg #[.int .i64 N, .slice A len cap]] w (Ret (.bool true) w) := by
  go_enter Tryd.func5, Tryd.ntmps5
  go_wp2_with fail
  refine (anchor_any _ (hT.below (below_alloc (Below.refl _ _) _))).mono ?_
  rintro e w1 ⟨rfl, hb1⟩
  have x1 : GBox w1 w.heap.size N A len cap := (GBox.new w 24 N A len cap).below hb1
  have hB1 : Below w.heap.size w w1 := below_new (by simpa using hb1)
  have c0 := x1.c0
  have c1 := x1.c1
  clear hb1
  go_wp2_with fail
  refine (small_is true N A len cap es hlen hs _ (hE.below hB1)).mono ?_
  rintro e w2 ⟨rfl, hb2⟩
  have x2 := x1.below hb2
  have hB2 := below_then hB1 hB1.size hb2
  clear c0 c1
  have c0 := x2.c0
  have c1 := x2.c1
  go_wp2_with fail
  refine (plain_any N A len cap _).mono ?_
  rintro e w3 ⟨rfl, hb3⟩
  have x3 := x2.below hb3
  have hB3 := below_then hB2 hB2.size hb3
  clear c0 c1
  have c0 := x3.c0
  have c1 := x3.c1
  go_wp2_with fail
  refine (right_is false N A len cap es hlen hr _ (hE.below hB3)).mono ?_
  rintro e w4 ⟨rfl, hb4⟩
  have x4 := x3.below hb4
  have hB4 := below_then hB3 hB3.size hb4
  clear c0 c1
  have c0 := x4.c0
  have c1 := x4.c1
  go_wp2
  go_ret
  exact ⟨rfl, hB4⟩

set_option maxRecDepth 100000 in
set_option maxHeartbeats 1000000 in
theorem turned_law_right (n : Nat) (A : Option Addr) (len cap : Nat) (ns : List (Nat × Nat)) (hlen : Hid (len = ns.length)) (hG : GOk n ns) (w : World) (hE : NRow w A ns) (hT : Tab w) (hs : Hid (smallB n (castE ns) = true)) (hr : Hid (rightB n (castE ns) = true)) :
    Calls Tryd.prog 5 #[.agg #[.int .i64 n, .slice A len cap]] w (Ret (.bool true) w) := by
  have h1 : n ≤ 64 := hG.hn
  have hlen' : Hid (len = (castE ns).length) := Lib.hid (by rw [castE_length]; exact hlen.out)
  have h2 := (small_n hs.out hr.out).2
  rw [castE_length, ← hlen.out] at h2
  go_enter Tryd.func5, Tryd.ntmps5
  go_wp2_with fail
  refine (anchor_any _ (hT.below (below_alloc (Below.refl _ _) _))).mono ?_
  rintro e w1 ⟨rfl, hb1⟩
  have x1 : GBox w1 w.heap.size n A len cap := (GBox.new w 24 n A len cap).below hb1
  have hB1 : Below w.heap.size w w1 := below_new (by simpa using hb1)
  have c0 := x1.c0
  have c1 := x1.c1
  clear hb1
  go_wp2_with fail
  refine (small_is true n A len cap (castE ns) hlen' hs _ (hE.below hB1).ints).mono ?_
  rintro e w2 ⟨rfl, hb2⟩
  have x2 := x1.below hb2
  have hB2 := below_then hB1 hB1.size hb2
  clear c0 c1
  have c0 := x2.c0
  have c1 := x2.c1
  go_wp2_with fail
  refine (plain_any n A len cap _).mono ?_
  rintro e w3 ⟨rfl, hb3⟩
  have x3 := x2.below hb3
  have hB3 := below_then hB2 hB2.size hb3
  clear c0 c1
  have c0 := x3.c0
  have c1 := x3.c1
  go_wp2_with fail
  refine (right_is true n A len cap (castE ns) hlen' hr _ (hE.below hB3).ints).mono ?_
  rintro e w4 ⟨rfl, hb4⟩
  have x4 := x3.below hb4
  have hB4 := below_then hB3 hB3.size hb4
  clear c0 c1
  have c0 := x4.c0
  have c1 := x4.c1
  have xa := fun o : Obj => (x4.alloc o).c1
  go_wp2
  clear xa c0 c1
  go_loopg [31] len (fun g s wr => ∃ (k : Nat) (V : Option Addr) (c : Nat), k ≤ len ∧ g = len - k ∧ s = .int .i64 k ∧ GBox wr w4.heap.size n V k c ∧ wr.frozen? ⟨w4.heap.size, 1, none⟩ = false ∧ wr.ownsRow (w4.heap.size + 1) 39 2 (.slice V k c) k (prs (swapE (ns.take k))) ∧ Below w4.heap.size w4 wr)
  case atStart =>
    exact ⟨0, none, 0, by omega, rfl, rfl, GBox.new w4 24 n none 0 0, World.frozen?_alloc_at _ _ _ _ rfl, World.ownsRow_nil _ _ _ _, (Below.refl _ _).alloc (Nat.le_refl _) _⟩
  case round =>
    obtain ⟨k, V, c, hk, rfl, rfl, hbox, hfr, hown, hb⟩ := hrel
    have x5 := x4.below hb
    have hB5 := below_then hB4 hB4.size hb
    have c0 := x5.c0
    have c1 := x5.c1
    have hsz : w4.heap.size < wr.heap.size := hbox.lt
    have t1 := hbox.c1
    by_cases hlt : k < len
    · have hlt' : k < ns.length := by rw [← hlen.out]; exact hlt
      have hEr : NRow wr A ns := hE.below hB5
      obtain ⟨eb, o, rfl, d1, d2⟩ := hEr k hlt'
      clear hEr
      obtain ⟨u, hu⟩ : ∃ u, (ns.getD k (0, 0)).1 = u := ⟨_, rfl⟩
      obtain ⟨y, hy⟩ : ∃ y, (ns.getD k (0, 0)).2 = y := ⟨_, rfl⟩
      have hxy : ns.getD k (0, 0) = (u, y) := by rw [← hu, ← hy]
      have htk : swapE (ns.take (k + 1)) = swapE (ns.take k) ++ [(y, u)] := by rw [take_snoc ns (0, 0) hlt', hxy]; simp [swapE]
      rw [hu] at d1
      rw [hy] at d2
      have HW := Lib.hid hown
      have HB := Lib.hid hb
      have HTk := Lib.hid htk
      have HBox := Lib.hid hbox
      have e1 : ∀ o, (wr.alloc o).cell? ⟨w4.heap.size, 1, none⟩ = some (.slice V k c) := fun o => (World.cell?_alloc_past _ _ _ (by exact hsz)).trans t1
      clear hu hy hxy htk hown hb hbox
      have hN : ((wr.alloc (Obj.cells #[Value.int IntKind.i64 u, Value.int IntKind.i64 y] 39)).alloc (Obj.cells #[Value.int IntKind.i64 y, Value.int IntKind.i64 u] 39)).heap[wr.heap.size + 1]? = some (.cells #[.int .i64 y, .int .i64 u] 39 (0, 0)) := by
        have := heap_alloc_new (wr.alloc (Obj.cells #[Value.int IntKind.i64 u, Value.int IntKind.i64 y] 39)) (Obj.cells #[Value.int IntKind.i64 y, Value.int IntKind.i64 u] 39)
        rwa [World.size_alloc] at this
      go_wp2_with (at_builtin; refine list_app (w0 := wr) (w4.heap.size + 1) rfl _ _ 22 39 (.agg #[.int .i64 0, .int .i64 0]) 2 16 rfl Tryd.underlying22 info39 rfl (by decide) (by decide) (.slice V k c) k (prs (swapE (ns.take k))) [.int .i64 y, .int .i64 u] (wr.heap.size + 1) rfl rfl rfl (by intro u hu; simp at hu; rcases hu with rfl | rfl <;> rfl) hN ((HW.out.alloc _).alloc _) (((Below.refl _ _).alloc hsz _).alloc (by simp only [World.size_alloc]; omega) _) (by simp only [World.size_alloc]; omega) (by omega) ?_; intro g cap2 w5 q1 q2 q3; have f1 : w5.cell? ⟨w4.heap.size, 1, none⟩ = some (.slice V k c) := (q2.cell (Nat.lt_succ_self _)).trans t1; have f2 : w5.frozen? ⟨w4.heap.size, 1, none⟩ = false := ((bcell q2).2 _ _ (Nat.lt_succ_self _)).trans hfr)
      go_roundg (len - (k + 1))
      case measure => omega
      case rel =>
        have f0 : w5.cell? ⟨w4.heap.size, 0, none⟩ = some (.int .i64 n) := (q2.cell (Nat.lt_succ_self _)).trans HBox.out.c0
        refine ⟨k + 1, some ⟨g, 0, none⟩, cap2, by omega, rfl, by go_num, ⟨?_, ?_⟩, ?_, ?_, ?_⟩
        · exact (World.cell?_setCell_other _ _ _ _ (by simp)).trans f0
        · exact World.cell?_setCell_same' _ _ _ (by rw [f1]; rfl)
        · rw [World.frozen?_setCell]; exact f2
        · exact own_set (by rw [HTk.out, prs_snoc]; exact q1) (Nat.lt_succ_self _)
        · exact (HB.out.trans (q2.mono (Nat.le_succ _))).setCell (Nat.le_refl _) _
    · obtain rfl : k = len := by omega
      rw [hlen.out, List.take_length] at hown
      have HN := Lib.hid (own_nrow hown)
      have y5 := hbox
      have p0 := y5.c0
      have p1 := y5.c1
      clear hown hbox t1
      go_wp2_with fail
      refine (reach_is n A k cap ns hlen hG _ (hE.below hB5)).mono ?_
      rintro e w6 ⟨ra, rfl, hra, hrow6, hb6⟩
      have x6 := x5.below hb6
      have y6 := y5.below hb6
      have hB6 := below_then hB5 hB5.size hb6
      clear c0 c1 p0 p1
      have c0 := x6.c0
      have c1 := x6.c1
      have p0 := y6.c0
      have p1 := y6.c1
      have HN6 := Lib.hid (HN.out.below hb6)
      go_wp2_with fail
      refine (reach_is n V k c (swapE ns) (Lib.hid (by rw [hlen.out]; simp [swapE])) (gok_swap hG) _ HN6.out).mono ?_
      rintro e w7 ⟨rb, rfl, hrb, hrow7, hb7⟩
      have x7 := x6.below hb7
      have y7 := y6.below hb7
      have hB7 := below_then hB6 hB6.size hb7
      clear c0 c1 p0 p1
      have c0 := x7.c0
      have c1 := x7.c1
      have p0 := y7.c0
      have p1 := y7.c1
      have HA7 := Lib.hid (row_below hrow6 hb7 hrow6.lt)
      have HB7 := Lib.hid hrow7
      clear hrow6 hrow7
      go_wp2
      clear p0 p1 c0 c1
      go_loopg [78] n (fun g s wr => wr = w7 ∧ ∃ i : Nat, i ≤ n ∧ g = n - i ∧ s = .int .i64 i)
      case atStart => exact ⟨rfl, 0, by omega, rfl, rfl⟩
      case round =>
        obtain ⟨rfl, i, hi, rfl, rfl⟩ := hrel
        by_cases hlt2 : i < n
        · have d1 : wr.cell? ⟨ra, i, none⟩ = some (.int .u64 (viaF ns n i : Nat)) := HA7.out.cell hlt2
          obtain ⟨s, hs⟩ : ∃ s, viaF ns n i = s := ⟨_, rfl⟩
          rw [hs] at d1
          have HS := Lib.hid hs
          clear hs
          go_wp2
          obtain ⟨wo, rfl⟩ : ∃ wo : World, wo = wr := ⟨_, rfl⟩
          go_loopg [85] n (fun g s wr => wr = wo ∧ ∃ j : Nat, j ≤ n ∧ g = n - j ∧ s = .int .i64 j)
          case atStart => exact ⟨rfl, 0, by omega, rfl, rfl⟩
          case round =>
            clear d1
            obtain ⟨rfl, j, hj, rfl, rfl⟩ := hrel
            by_cases hlt3 : j < n
            · have d2 : wr.cell? ⟨rb, j, none⟩ = some (.int .u64 (viaF (swapE ns) n j : Nat)) := HB7.out.cell hlt3
              have hv := via_swap hG i j
              rw [HS.out] at hv
              obtain ⟨u, hu⟩ : ∃ u, viaF (swapE ns) n j = u := ⟨_, rfl⟩
              rw [hu] at d2 hv
              obtain ⟨z, hz⟩ : ∃ z, s.testBit j = z := ⟨_, rfl⟩
              rw [hz] at hv
              have hj64 : j < 64 := by omega
              have hi64 : i < 64 := by omega
              clear hu
              cases z
              · go_wp2_with fail
                refine (in_no hj64 hz _).mono ?_
                rintro e w8 ⟨rfl, rfl⟩
                go_wp2_with fail
                refine (in_no hi64 hv _).mono ?_
                rintro e w8 ⟨rfl, rfl⟩
                go_wp2
                go_roundg (n - (j + 1))
                case measure => omega
                case rel => exact ⟨rfl, j + 1, by omega, rfl, by go_num⟩
              · go_wp2_with fail
                refine (in_yes hj64 hz _).mono ?_
                rintro e w8 ⟨rfl, rfl⟩
                go_wp2_with fail
                refine (in_yes hi64 hv _).mono ?_
                rintro e w8 ⟨rfl, rfl⟩
                go_wp2
                go_roundg (n - (j + 1))
                case measure => omega
                case rel => exact ⟨rfl, j + 1, by omega, rfl, by go_num⟩
            · obtain rfl : j = n := by omega
              go_wp2
              go_roundg (j - (i + 1))
              case measure => omega
              case rel => exact ⟨rfl, i + 1, by omega, rfl, by go_num⟩
        · obtain rfl : i = n := by omega
          go_wp2
          go_ret
          exact ⟨rfl, hB7⟩

theorem turned_law (N : Int) (A : Option Addr) (len cap : Nat) (es : List (Int × Int)) (hlen : Hid (len = es.length)) (w : World) (hE : ERow w A es) (hT : Tab w) :
    Calls Tryd.prog 5 #[.agg #[.int .i64 N, .slice A len cap]] w (Ret (.bool true) w) := by
  cases hs : smallB N es
  · exact turned_law_big N A len cap es hlen w hE hT (Lib.hid hs)
  · cases hr : rightB N es
    · exact turned_law_wrong N A len cap es hlen w hE hT (Lib.hid hs) (Lib.hid hr)
    · obtain ⟨n, ns, rfl, rfl, hG⟩ := right_nat hr
      exact turned_law_right n A len cap ns (Lib.hid (by rw [← castE_length]; exact hlen.out)) hG w (NRow.of_ints hE) hT (Lib.hid hs) (Lib.hid hr)
end Go.Proofs.YtpdhggfmkmiebaaDoor
