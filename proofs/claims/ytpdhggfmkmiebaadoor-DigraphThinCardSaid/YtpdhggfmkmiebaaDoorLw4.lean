/- The walk of the statement DigraphThin: it answers true for every graph. -/
import Derived.Test.YtpdhggfmkmiebaaDoorLw0
namespace Go.Proofs.YtpdhggfmkmiebaaDoor
open Go.RowKit

set_option maxRecDepth 100000 in
theorem thin_law_big (N : Int) (A : Option Addr) (len cap : Nat) (es : List (Int × Int)) (hlen : Hid (len = es.length)) (w : World) (hE : ERow w A es) (hT : Tab w) (hs : Hid (smallB N es = false)) :
    Calls Tryd.prog 4 #[.agg #[.int .i64 N, .slice A len cap]] w (Ret (.bool true) w) := by
  go_enter Tryd.func4, Tryd.ntmps4
  go_wp2_with fail
  refine (anchor_any _ (hT.below (below_alloc (Below.refl _ _) _))).mono ?_
  rintro e w1 ⟨rfl, hb1⟩
  have x1 : GBox w1 w.heap.size N A len cap := (GBox.new w 24 N A len cap).below hb1
  have hB1 : Below w.heap.size w w1 := below_new (by simpa using hb1)
  have c0 := x1.c0
  have c1 := x1.c1
  clear hb1
  go_wp2_with fail
  refine (small_is false N A len cap es hlen hs _ (hE.below hB1)).mono ?_
  rintro e w2 ⟨rfl, hb2⟩
  have x2 := x1.below hb2
  have hB2 := below_then hB1 hB1.size hb2
  clear c0 c1
  have c0 := x2.c0
  have c1 := x2.c1
  go_wp2
  go_ret
  exact ⟨rfl, hB2⟩

set_option maxRecDepth 100000 in
theorem thin_law_twelve (N : Int) (A : Option Addr) (len cap : Nat) (es : List (Int × Int)) (hlen : Hid (len = es.length)) (w : World) (hE : ERow w A es) (hT : Tab w) (hs : Hid (smallB N es = true)) (hN : 12 < N) :
    Calls Tryd.prog 4 #[.agg #[.int .i64 N, .slice A len cap]] w (Ret (.bool true) w) := by
  go_enter Tryd.func4, Tryd.ntmps4
  go_wp2_with fail
  refine (anchor_any _ (hT.below (below_alloc (Below.refl _ _) _))).mono ?_
  rintro e w1 ⟨rfl, hb1⟩
  have x1 : GBox w1 w.heap.size N A len cap := (GBox.new w 24 N A len cap).below hb1
  have hB1 : Below w.heap.size w w1 := below_new (by simpa using hb1)
  have c0 := x1.c0
  have c1 := x1.c1
  clear hb1
  go_wp2_with fail
  refine (small_is true N A len cap es hlen hs _ (hE.below hB1)).mono ?_
  rintro e w2 ⟨rfl, hb2⟩
  have x2 := x1.below hb2
  have hB2 := below_then hB1 hB1.size hb2
  clear c0 c1
  have c0 := x2.c0
  have c1 := x2.c1
  go_wp2
  go_ret
  exact ⟨rfl, hB2⟩

set_option maxRecDepth 100000 in
theorem thin_law_wrong (N : Int) (A : Option Addr) (len cap : Nat) (es : List (Int × Int)) (hlen : Hid (len = es.length)) (w : World) (hE : ERow w A es) (hT : Tab w) (hs : Hid (smallB N es = true)) (hN : N ≤ 12) (hr : Hid (rightB N es = false)) :
    Calls Tryd.prog 4 #[.agg #[.int .i64 N, .slice A len cap]] w (Ret (.bool true) w) := by
  go_enter Tryd.func4, Tryd.ntmps4
  go_wp2_with fail
  refine (anchor_any _ (hT.below (below_alloc (Below.refl _ _) _))).mono ?_
  rintro e w1 ⟨rfl, hb1⟩
  have x1 : GBox w1 w.heap.size N A len cap := (GBox.new w 24 N A len cap).below hb1
  have hB1 : Below w.heap.size w w1 := below_new (by simpa using hb1)
  have c0 := x1.c0
  have c1 := x1.c1
  clear hb1
  go_wp2_with fail
  refine (small_is true N A len cap es hlen hs _ (hE.below hB1)).mono ?_
  rintro e w2 ⟨rfl, hb2⟩
  have x2 := x1.below hb2
  have hB2 := below_then hB1 hB1.size hb2
  clear c0 c1
  have c0 := x2.c0
  have c1 := x2.c1
  go_wp2_with fail
  refine (thin_wrong N A len cap es hlen hr _ (hE.below hB2)).mono ?_
  rintro e w3 ⟨rfl, hb3⟩
  have x3 := x2.below hb3
  have hB3 := below_then hB2 hB2.size hb3
  clear c0 c1
  have c0 := x3.c0
  have c1 := x3.c1
  go_wp2_with fail
  refine (plain_any N A len cap _).mono ?_
  rintro e w4 ⟨rfl, hb4⟩
  have x4 := x3.below hb4
  have hB4 := below_then hB3 hB3.size hb4
  clear c0 c1
  have xa := x4.alloc (Obj.cells #[Value.int IntKind.i64 N, Value.slice A len cap] 31)
  have ya := GBox.new w4 31 N A len cap
  have hBa := below_alloc hB4 (Obj.cells #[Value.int IntKind.i64 N, Value.slice A len cap] 31)
  obtain ⟨wa, hwa⟩ : ∃ wa, wa = w4.alloc (Obj.cells #[Value.int IntKind.i64 N, Value.slice A len cap] 31) := ⟨_, rfl⟩
  rw [← hwa] at xa ya hBa
  have HWA := Lib.hid hwa
  clear hwa
  have c0 := xa.c0
  have c1 := xa.c1
  have p0 := ya.c0
  have p1 := ya.c1
  go_wp2_with fail
  rw [← HWA.out]
  refine (right_is false N A len cap es hlen hr _ (hE.below hBa)).mono ?_
  rintro e w5 ⟨rfl, hb5⟩
  have x5 := xa.below hb5
  have y5 := ya.below hb5
  have hB5 := below_then hBa hBa.size hb5
  clear c0 c1 p0 p1
  have c0 := x5.c0
  have c1 := x5.c1
  have p0 := y5.c0
  have p1 := y5.c1
  go_wp2
  go_ret
  exact ⟨rfl, hB5⟩

set_option maxRecDepth 100000 in
set_option maxHeartbeats 1000000 in
theorem thin_law_right_circle (n : Nat) (A : Option Addr) (len cap : Nat) (ns : List (Nat × Nat)) (hlen : Hid (len = ns.length)) (hG : GOk n ns) (hN : n ≤ 12) (hA : ¬ Acyclic ns) (w : World) (hE : NRow w A ns) (hT : Tab w) (hs : Hid (smallB n (castE ns) = true)) (hr : Hid (rightB n (castE ns) = true)) :
    Calls Tryd.prog 4 #[.agg #[.int .i64 n, .slice A len cap]] w (Ret (.bool true) w) := by
  have h1 : n ≤ 64 := hG.hn
  have hlen' : Hid (len = (castE ns).length) := Lib.hid (by rw [castE_length]; exact hlen.out)
  have HA := Lib.hid hA
  clear hA
  go_enter Tryd.func4, Tryd.ntmps4
  go_wp2_with fail
  refine (anchor_any _ (hT.below (below_alloc (Below.refl _ _) _))).mono ?_
  rintro e w1 ⟨rfl, hb1⟩
  have x1 : GBox w1 w.heap.size n A len cap := (GBox.new w 24 n A len cap).below hb1
  have hB1 : Below w.heap.size w w1 := below_new (by simpa using hb1)
  have c0 := x1.c0
  have c1 := x1.c1
  clear hb1
  go_wp2_with fail
  refine (small_is true n A len cap (castE ns) hlen' hs _ (hE.below hB1).ints).mono ?_
  rintro e w2 ⟨rfl, hb2⟩
  have x2 := x1.below hb2
  have hB2 := below_then hB1 hB1.size hb2
  clear c0 c1
  have c0 := x2.c0
  have c1 := x2.c1
  go_wp2_with fail
  refine (thin_no n A len cap ns hlen hG HA.out _ (hE.below hB2) (hT.below hB2)).mono ?_
  rintro e w3 ⟨rfl, hb3⟩
  have x3 := x2.below hb3
  have hB3 := below_then hB2 hB2.size hb3
  clear c0 c1
  have c0 := x3.c0
  have c1 := x3.c1
  go_wp2_with fail
  refine (plain_any n A len cap _).mono ?_
  rintro e w4 ⟨rfl, hb4⟩
  have x4 := x3.below hb4
  have hB4 := below_then hB3 hB3.size hb4
  clear c0 c1
  have xa := x4.alloc (Obj.cells #[Value.int IntKind.i64 n, Value.slice A len cap] 31)
  have ya := GBox.new w4 31 n A len cap
  have hBa := below_alloc hB4 (Obj.cells #[Value.int IntKind.i64 n, Value.slice A len cap] 31)
  obtain ⟨wa, hwa⟩ : ∃ wa, wa = w4.alloc (Obj.cells #[Value.int IntKind.i64 n, Value.slice A len cap] 31) := ⟨_, rfl⟩
  rw [← hwa] at xa ya hBa
  have HWA := Lib.hid hwa
  clear hwa
  have c0 := xa.c0
  have c1 := xa.c1
  have p0 := ya.c0
  have p1 := ya.c1
  go_wp2_with fail
  rw [← HWA.out]
  refine (right_is true n A len cap (castE ns) hlen' hr _ (hE.below hBa).ints).mono ?_
  rintro e w5 ⟨rfl, hb5⟩
  have x5 := xa.below hb5
  have y5 := ya.below hb5
  have hB5 := below_then hBa hBa.size hb5
  clear c0 c1 p0 p1
  have c0 := x5.c0
  have c1 := x5.c1
  have p0 := y5.c0
  have p1 := y5.c1
  go_wp2_with fail
  refine (circle_yes n A len cap ns hlen hG HA.out _ (hE.below hB5)).mono ?_
  rintro e w6 ⟨rfl, hb6⟩
  have x6 := x5.below hb6
  have y6 := y5.below hb6
  have hB6 := below_then hB5 hB5.size hb6
  clear c0 c1 p0 p1
  have c0 := x6.c0
  have c1 := x6.c1
  have p0 := y6.c0
  have p1 := y6.c1
  go_wp2
  go_ret
  exact ⟨rfl, hB6⟩

set_option maxRecDepth 100000 in
set_option maxHeartbeats 1000000 in
theorem thin_law_right_plain (n : Nat) (A : Option Addr) (len cap : Nat) (ns : List (Nat × Nat)) (hlen : Hid (len = ns.length)) (hG : GOk n ns) (hN : n ≤ 12) (hA : Acyclic ns) (w : World) (hE : NRow w A ns) (hT : Tab w) (hs : Hid (smallB n (castE ns) = true)) (hr : Hid (rightB n (castE ns) = true)) :
    Calls Tryd.prog 4 #[.agg #[.int .i64 n, .slice A len cap]] w (Ret (.bool true) w) := by
  have h1 : n ≤ 64 := hG.hn
  have hlen' : Hid (len = (castE ns).length) := Lib.hid (by rw [castE_length]; exact hlen.out)
  have HA := Lib.hid hA
  clear hA
  go_enter Tryd.func4, Tryd.ntmps4
  go_wp2_with fail
  refine (anchor_any _ (hT.below (below_alloc (Below.refl _ _) _))).mono ?_
  rintro e w1 ⟨rfl, hb1⟩
  have x1 : GBox w1 w.heap.size n A len cap := (GBox.new w 24 n A len cap).below hb1
  have hB1 : Below w.heap.size w w1 := below_new (by simpa using hb1)
  have c0 := x1.c0
  have c1 := x1.c1
  clear hb1
  go_wp2_with fail
  refine (small_is true n A len cap (castE ns) hlen' hs _ (hE.below hB1).ints).mono ?_
  rintro e w2 ⟨rfl, hb2⟩
  have x2 := x1.below hb2
  have hB2 := below_then hB1 hB1.size hb2
  clear c0 c1
  have c0 := x2.c0
  have c1 := x2.c1
  go_wp2_with fail
  refine (thin_yes n A len cap ns hlen hG HA.out _ (hE.below hB2) (hT.below hB2)).mono ?_
  rintro e w3 ⟨TA, tc, rfl, hI3, hb3⟩
  have x3 := x2.below hb3
  have hB3 := below_then hB2 hB2.size hb3
  clear c0 c1
  have c0 := x3.c0
  have c1 := x3.c1
  have HI3 := Lib.hid hI3
  clear hI3
  go_wp2_with fail
  refine (plain_any n A len cap _).mono ?_
  rintro e w4 ⟨rfl, hb4⟩
  have x4 := x3.below hb4
  have hB4 := below_then hB3 hB3.size hb4
  clear c0 c1
  have xa := x4.alloc (Obj.cells #[Value.int IntKind.i64 n, Value.slice A len cap] 31)
  have ya := GBox.new w4 31 n A len cap
  have hBa := below_alloc hB4 (Obj.cells #[Value.int IntKind.i64 n, Value.slice A len cap] 31)
  obtain ⟨wa, hwa⟩ : ∃ wa, wa = w4.alloc (Obj.cells #[Value.int IntKind.i64 n, Value.slice A len cap] 31) := ⟨_, rfl⟩
  rw [← hwa] at xa ya hBa
  have HWA := Lib.hid hwa
  clear hwa
  have c0 := xa.c0
  have c1 := xa.c1
  have p0 := ya.c0
  have p1 := ya.c1
  go_wp2_with fail
  rw [← HWA.out]
  refine (right_is true n A len cap (castE ns) hlen' hr _ (hE.below hBa).ints).mono ?_
  rintro e w5 ⟨rfl, hb5⟩
  have x5 := xa.below hb5
  have y5 := ya.below hb5
  have hB5 := below_then hBa hBa.size hb5
  clear c0 c1 p0 p1
  have c0 := x5.c0
  have c1 := x5.c1
  have p0 := y5.c0
  have p1 := y5.c1
  go_wp2_with fail
  refine (circle_no n A len cap ns hlen hG HA.out _ (hE.below hB5)).mono ?_
  rintro e w6 ⟨rfl, hb6⟩
  have x6 := x5.below hb6
  have y6 := y5.below hb6
  have hB6 := below_then hB5 hB5.size hb6
  clear c0 c1 p0 p1
  have c0 := x6.c0
  have c1 := x6.c1
  have p0 := y6.c0
  have p1 := y6.c1
  go_wp2_with fail
  refine (thinR_any n A len cap ns hlen hG _ (hE.below hB6)).mono ?_
  rintro e w7 ⟨hb7, RA, rc, rfl, hI7⟩
  have x7 := x6.below hb7
  have y7 := y6.below hb7
  have hB7 := below_then hB6 hB6.size hb7
  clear c0 c1 p0 p1
  have c0 := x7.c0
  have c1 := x7.c1
  have p0 := y7.c0
  have p1 := y7.c1
  have hb37 : Below w3.heap.size w3 w7 := by
    have ha : Below w3.heap.size w3 wa := by rw [HWA.out]; exact below_alloc hb4 _
    exact below_then (below_then (below_then ha ha.size hb5) (by have := ha.size; have := hb5.size; omega) hb6) (by have := ha.size; have := hb5.size; have := hb6.size; omega) hb7
  have HI7 := Lib.hid hI7
  have HT7 := Lib.hid (HI3.out.below hb37)
  have hll : (thinL n ns n).length ≤ 4096 := Nat.le_trans (thinL_le n ns n) (Nat.le_trans (Nat.mul_le_mul h1 h1) (by omega))
  obtain ⟨m, hm⟩ : ∃ m, (thinL n ns n).length = m := ⟨_, rfl⟩
  have HM := Lib.hid hm
  rw [hm] at hll ⊢
  clear hI7 hm p0 p1
  go_wp2
  go_loopg [59] m (fun g s wr => ∃ i : Nat, i ≤ m ∧ g = m - i ∧ s = .int .i64 i ∧ Below w7.heap.size w7 wr)
  case atStart => exact ⟨0, by omega, rfl, rfl, Below.refl _ _⟩
  case round =>
    clear c0 c1
    obtain ⟨i, hi, rfl, rfl, hb⟩ := hrel
    by_cases hlt : i < m
    · obtain ⟨b1, o1, rfl, d1, d2⟩ := HT7.out.below hb i (by rw [HM.out]; exact hlt)
      obtain ⟨b2, o2, rfl, d3, d4⟩ := HI7.out.below hb i (by rw [HM.out]; exact hlt)
      obtain ⟨x, hx⟩ : ∃ x, ((thinL n ns n).getD i (0, 0)).1 = x := ⟨_, rfl⟩
      obtain ⟨y, hy⟩ : ∃ y, ((thinL n ns n).getD i (0, 0)).2 = y := ⟨_, rfl⟩
      rw [hx] at d1 d3
      rw [hy] at d2 d4
      have hbl := World.block_lt_of_cell? _ _ d3
      have e3 : ∀ o, (wr.alloc o).cell? ⟨b2, o2 + i * 2, none⟩ = some (.int .i64 x) := fun o => (World.cell?_alloc_past _ _ _ (by exact hbl)).trans d3
      have e4 : ∀ o, (wr.alloc o).cell? ⟨b2, o2 + i * 2 + 1, none⟩ = some (.int .i64 y) := fun o => (World.cell?_alloc_past _ _ _ (by exact hbl)).trans d4
      have hneq := neq_pair x y
      clear hx hy hbl
      go_wp2
      go_quiet (fail)
      go_wp2
      go_roundg (m - (i + 1))
      case measure => omega
      case rel => exact ⟨i + 1, by omega, rfl, by go_num, below_drewN (hb.alloc hb.size _) _⟩
    · obtain rfl : i = m := by omega
      have x8 := x7.below hb
      have hB8 := below_then hB7 hB7.size hb
      have HT8 := Lib.hid (HT7.out.below hb)
      have c0 := x8.c0
      have c1 := x8.c1
      clear hb
      go_wp2_with fail
      refine (reach_is n A len cap ns hlen hG _ (hE.below hB8)).mono ?_
      rintro e w9 ⟨ra, rfl, hra, hrow9, hb9⟩
      have x9 := x8.below hb9
      have hB9 := below_then hB8 hB8.size hb9
      clear c0 c1
      have c0 := x9.c0
      have c1 := x9.c1
      go_wp2_with fail
      refine (reach_is n TA i tc (thinL n ns n) (Lib.hid HM.out.symm) (gok_thin hG (by omega)) _ (HT8.out.below hb9)).mono ?_
      rintro e w10 ⟨rb, rfl, hrb, hrow10, hb10⟩
      have x10 := x9.below hb10
      have hB10 := below_then hB9 hB9.size hb10
      clear c0 c1
      have c0 := x10.c0
      have c1 := x10.c1
      have HA9 := Lib.hid (row_below hrow9 hb10 hrow9.lt)
      have HB10 := Lib.hid hrow10
      clear hrow9 hrow10 c1
      go_wp2
      go_loopg [95] n (fun g s wr => wr = w10 ∧ ∃ k : Nat, k ≤ n ∧ g = n - k ∧ s = .int .i64 k)
      case atStart => exact ⟨rfl, 0, by omega, rfl, rfl⟩
      case round =>
        obtain ⟨rfl, k, hk, rfl, rfl⟩ := hrel
        by_cases hlt2 : k < n
        · have d1 : wr.cell? ⟨ra, k, none⟩ = some (.int .u64 (viaF ns n k : Nat)) := HA9.out.cell hlt2
          have d2 : wr.cell? ⟨rb, k, none⟩ = some (.int .u64 (viaF ns n k : Nat)) := by have := HB10.out.cell hlt2; rwa [u64F, via_thin hG (by omega) HA.out] at this
          go_wp2
          go_roundg (n - (k + 1))
          case measure => omega
          case rel => exact ⟨rfl, k + 1, by omega, rfl, by go_num⟩
        · obtain rfl : k = n := by omega
          go_wp2
          go_ret
          exact ⟨rfl, hB10⟩

theorem thin_law_right (n : Nat) (A : Option Addr) (len cap : Nat) (ns : List (Nat × Nat)) (hlen : Hid (len = ns.length)) (hG : GOk n ns) (w : World) (hE : NRow w A ns) (hT : Tab w) (hs : Hid (smallB n (castE ns) = true)) (hr : Hid (rightB n (castE ns) = true)) (hN : n ≤ 12) :
    Calls Tryd.prog 4 #[.agg #[.int .i64 n, .slice A len cap]] w (Ret (.bool true) w) := by
  by_cases hA : Acyclic ns
  · exact thin_law_right_plain n A len cap ns hlen hG hN hA w hE hT hs hr
  · exact thin_law_right_circle n A len cap ns hlen hG hN hA w hE hT hs hr

theorem thin_law (N : Int) (A : Option Addr) (len cap : Nat) (es : List (Int × Int)) (hlen : Hid (len = es.length)) (w : World) (hE : ERow w A es) (hT : Tab w) :
    Calls Tryd.prog 4 #[.agg #[.int .i64 N, .slice A len cap]] w (Ret (.bool true) w) := by
  cases hs : smallB N es
  · exact thin_law_big N A len cap es hlen w hE hT (Lib.hid hs)
  · by_cases hN : 12 < N
    · exact thin_law_twelve N A len cap es hlen w hE hT (Lib.hid hs) hN
    · cases hr : rightB N es
      · exact thin_law_wrong N A len cap es hlen w hE hT (Lib.hid hs) (by omega) (Lib.hid hr)
      · obtain ⟨n, ns, rfl, rfl, hG⟩ := right_nat hr
        exact thin_law_right n A len cap ns (Lib.hid (by rw [← castE_length]; exact hlen.out)) hG w (NRow.of_ints hE) hT (Lib.hid hs) (Lib.hid hr) (by omega)
end Go.Proofs.YtpdhggfmkmiebaaDoor
