/- The walk of the statement DigraphEdges: it answers true for every graph and pair. -/
import Derived.Test.YtpdhggfmkmiebaaDoorLw5
import Derived.Deep.RegionWith
namespace Go.Proofs.YtpdhggfmkmiebaaDoor
open Go.RowKit

set_option maxRecDepth 100000 in
theorem edges_law_big (N : Int) (A : Option Addr) (len cap : Nat) (I J : Int) (es : List (Int × Int)) (hlen : Hid (len = es.length)) (w : World) (hE : ERow w A es) (hT : Tab w) (hs : Hid (smallB N es = false)) :
    Calls Tryd.prog 9 #[.agg #[.int .i64 N, .slice A len cap], .int .i64 I, .int .i64 J] w (Ret (.bool true) w) := by
  go_enter Tryd.func9, Tryd.ntmps9
  go_wp2_with fail
  refine (anchor_any _ (hT.below (below_alloc (Below.refl _ _) _))).mono ?_
  rintro e w1 ⟨rfl, hb1⟩
  have x1 : GBox w1 w.heap.size N A len cap := (GBox.new w 24 N A len cap).below hb1
  have hB1 : Below w.heap.size w w1 := below_new (by simpa using hb1)
  have c0 := x1.c0
  have c1 := x1.c1
  clear hb1
  go_wp2_with fail
  refine (small_is false N A len cap es hlen hs _ (hE.below hB1)).mono ?_
  rintro e w2 ⟨rfl, hb2⟩
  have x2 := x1.below hb2
  have hB2 := below_then hB1 hB1.size hb2
  clear c0 c1
  have c0 := x2.c0
  have c1 := x2.c1
  go_wp2
  go_ret
  exact ⟨rfl, hB2⟩

set_option maxRecDepth 100000 in
theorem edges_law_twelve (N : Int) (A : Option Addr) (len cap : Nat) (I J : Int) (es : List (Int × Int)) (hlen : Hid (len = es.length)) (w : World) (hE : ERow w A es) (hT : Tab w) (hs : Hid (smallB N es = true)) (hN : 12 < N) :
    Calls Tryd.prog 9 #[.agg #[.int .i64 N, .slice A len cap], .int .i64 I, .int .i64 J] w (Ret (.bool true) w) := by
  go_enter Tryd.func9, Tryd.ntmps9
  go_wp2_with fail
  refine (anchor_any _ (hT.below (below_alloc (Below.refl _ _) _))).mono ?_
  rintro e w1 ⟨rfl, hb1⟩
  have x1 : GBox w1 w.heap.size N A len cap := (GBox.new w 24 N A len cap).below hb1
  have hB1 : Below w.heap.size w w1 := below_new (by simpa using hb1)
  have c0 := x1.c0
  have c1 := x1.c1
  clear hb1
  go_wp2_with fail
  refine (small_is true N A len cap es hlen hs _ (hE.below hB1)).mono ?_
  rintro e w2 ⟨rfl, hb2⟩
  have x2 := x1.below hb2
  have hB2 := below_then hB1 hB1.size hb2
  clear c0 c1
  have c0 := x2.c0
  have c1 := x2.c1
  go_wp2
  go_ret
  exact ⟨rfl, hB2⟩

set_option maxRecDepth 100000 in
theorem edges_law_off (N : Int) (A : Option Addr) (len cap : Nat) (I J : Int) (es : List (Int × Int)) (hlen : Hid (len = es.length)) (w : World) (hE : ERow w A es) (hT : Tab w) (hs : Hid (smallB N es = true)) (hN : N ≤ 12) (hoff : I < 0 ∨ (0 ≤ I ∧ J < 0) ∨ (0 ≤ I ∧ 0 ≤ J ∧ N ≤ I) ∨ (0 ≤ I ∧ 0 ≤ J ∧ I < N ∧ N ≤ J)) :
    Calls Tryd.prog 9 #[.agg #[.int .i64 N, .slice A len cap], .int .i64 I, .int .i64 J] w (Ret (.bool true) w) := by
  go_enter Tryd.func9, Tryd.ntmps9
  go_wp2_with fail
  refine (anchor_any _ (hT.below (below_alloc (Below.refl _ _) _))).mono ?_
  rintro e w1 ⟨rfl, hb1⟩
  have x1 : GBox w1 w.heap.size N A len cap := (GBox.new w 24 N A len cap).below hb1
  have hB1 : Below w.heap.size w w1 := below_new (by simpa using hb1)
  have c0 := x1.c0
  have c1 := x1.c1
  clear hb1
  go_wp2_with fail
  refine (small_is true N A len cap es hlen hs _ (hE.below hB1)).mono ?_
  rintro e w2 ⟨rfl, hb2⟩
  have x2 := x1.below hb2
  have hB2 := below_then hB1 hB1.size hb2
  clear c0 c1
  have c0 := x2.c0
  have c1 := x2.c1
  rcases hoff with h1 | ⟨h1, h2⟩ | ⟨h1, h2, h3⟩ | ⟨h1, h2, h3, h4⟩
  all_goals
    go_wp2
    go_ret
    exact ⟨rfl, hB2⟩

set_option maxRecDepth 100000 in
theorem edges_law_wrong (N : Int) (A : Option Addr) (len cap : Nat) (I J : Int) (es : List (Int × Int)) (hlen : Hid (len = es.length)) (hN : N ≤ 12) (h3 : 0 ≤ I) (h4 : 0 ≤ J) (h5 : I < N) (h6 : J < N) (w : World) (hE : ERow w A es) (hT : Tab w) (hs : Hid (smallB N es = true)) (hr : Hid (rightB N es = false)) :
    Calls Tryd.prog 9 #[.agg #[.int .i64 N, .slice A len cap], .int .i64 I, .int .i64 J] w (Ret (.bool true) w) := by
  go_enter Tryd.func9, Tryd.ntmps9
  go_wp2_with fail
  refine (anchor_any _ (hT.below (below_alloc (Below.refl _ _) _))).mono ?_
  rintro e w1 ⟨rfl, hb1⟩
  have x1 : GBox w1 w.heap.size N A len cap := (GBox.new w 24 N A len cap).below hb1
  have hB1 : Below w.heap.size w w1 := below_new (by simpa using hb1)
  have c0 := x1.c0
  have c1 := x1.c1
  clear hb1
  go_wp2_with fail
  refine (small_is true N A len cap es hlen hs _ (hE.below hB1)).mono ?_
  rintro e w2 ⟨rfl, hb2⟩
  have x2 := x1.below hb2
  have hB2 := below_then hB1 hB1.size hb2
  clear c0 c1
  have c0 := x2.c0
  have c1 := x2.c1
  go_wp2_with fail
  refine (reach_wrong N A len cap es hlen hr _ (hE.below hB2)).mono ?_
  rintro e w3 ⟨rfl, hb3⟩
  have x3 := x2.below hb3
  have hB3 := below_then hB2 hB2.size hb3
  clear c0 c1
  have c0 := x3.c0
  have c1 := x3.c1
  go_wp2_with fail
  refine (levels_wrong N A len cap es hlen hr _ (hE.below hB3)).mono ?_
  rintro e w4 ⟨rfl, hb4⟩
  have x4 := x3.below hb4
  have hB4 := below_then hB3 hB3.size hb4
  clear c0 c1
  have c0 := x4.c0
  have c1 := x4.c1
  go_wp2_with fail
  refine (thin_wrong N A len cap es hlen hr _ (hE.below hB4)).mono ?_
  rintro e w5 ⟨rfl, hb5⟩
  have x5 := x4.below hb5
  have hB5 := below_then hB4 hB4.size hb5
  clear c0 c1
  have c0 := x5.c0
  have c1 := x5.c1
  go_wp2
  go_ret
  exact ⟨rfl, hB5⟩

set_option maxRecDepth 100000 in
set_option maxHeartbeats 1000000 in
theorem edges_law_right_circle (n : Nat) (A : Option Addr) (len cap i j : Nat) (ns : List (Nat × Nat)) (hlen : Hid (len = ns.length)) (hG : GOk n ns) (hN : n ≤ 12) (hi : i < n) (hj : j < n) (hA : ¬ Acyclic ns) (w : World) (hE : NRow w A ns) (hT : Tab w) (hs : Hid (smallB n (castE ns) = true)) (_hr : Hid (rightB n (castE ns) = true)) :
    Calls Tryd.prog 9 #[.agg #[.int .i64 n, .slice A len cap], .int .i64 i, .int .i64 j] w (Ret (.bool true) w) := by
  have h1 : n ≤ 64 := hG.hn
  have hlen' : Hid (len = (castE ns).length) := Lib.hid (by rw [castE_length]; exact hlen.out)
  have HA := Lib.hid hA
  clear hA
  go_enter Tryd.func9, Tryd.ntmps9
  go_wp2_with fail
  refine (anchor_any _ (hT.below (below_alloc (Below.refl _ _) _))).mono ?_
  rintro e w1 ⟨rfl, hb1⟩
  have x1 : GBox w1 w.heap.size n A len cap := (GBox.new w 24 n A len cap).below hb1
  have hB1 : Below w.heap.size w w1 := below_new (by simpa using hb1)
  have c0 := x1.c0
  have c1 := x1.c1
  clear hb1
  go_wp2_with fail
  refine (small_is true n A len cap (castE ns) hlen' hs _ (hE.below hB1).ints).mono ?_
  rintro e w2 ⟨rfl, hb2⟩
  have x2 := x1.below hb2
  have hB2 := below_then hB1 hB1.size hb2
  clear c0 c1
  have c0 := x2.c0
  have c1 := x2.c1
  go_wp2_with fail
  refine (reach_is n A len cap ns hlen hG _ (hE.below hB2)).mono ?_
  rintro e w3 ⟨ra, rfl, hra, hrow3, hb3⟩
  have x3 := x2.below hb3
  have hB3 := below_then hB2 hB2.size hb3
  clear c0 c1
  have c0 := x3.c0
  have c1 := x3.c1
  clear hrow3
  go_wp2_with fail
  refine (levels_no n A len cap ns hlen hG HA.out _ (hE.below hB3) (hT.below hB3)).mono ?_
  rintro e w4 ⟨rfl, hb4⟩
  have x4 := x3.below hb4
  have hB4 := below_then hB3 hB3.size hb4
  clear c0 c1
  have c0 := x4.c0
  have c1 := x4.c1
  go_wp2_with fail
  refine (thin_no n A len cap ns hlen hG HA.out _ (hE.below hB4) (hT.below hB4)).mono ?_
  rintro e w5 ⟨rfl, hb5⟩
  have x5 := x4.below hb5
  have hB5 := below_then hB4 hB4.size hb5
  clear c0 c1
  have c0 := x5.c0
  have c1 := x5.c1
  go_wp2
  go_ret
  exact ⟨rfl, hB5⟩

set_option maxRecDepth 100000 in
set_option maxHeartbeats 1000000 in
theorem edges_law_right_no (n : Nat) (A : Option Addr) (len cap i j : Nat) (ns : List (Nat × Nat)) (hlen : Hid (len = ns.length)) (hG : GOk n ns) (hN : n ≤ 12) (hi : i < n) (hj : j < n) (hA : Acyclic ns) (hw : ¬ Way ns i j) (w : World) (hE : NRow w A ns) (hT : Tab w) (hs : Hid (smallB n (castE ns) = true)) (_hr : Hid (rightB n (castE ns) = true)) :
    Calls Tryd.prog 9 #[.agg #[.int .i64 n, .slice A len cap], .int .i64 i, .int .i64 j] w (Ret (.bool true) w) := by
  have h1 : n ≤ 64 := hG.hn
  have hlen' : Hid (len = (castE ns).length) := Lib.hid (by rw [castE_length]; exact hlen.out)
  have HA := Lib.hid hA
  clear hA
  have hi64 : i < 64 := by omega
  have hv : (viaF ns n i).testBit j = false := by rw [← Bool.not_eq_true]; exact fun h => hw ((viaF_way (fun e he => (hG.mem he).2) i j).1 h)
  have hj64 : j < 64 := by omega
  go_enter Tryd.func9, Tryd.ntmps9
  go_wp2_with fail
  refine (anchor_any _ (hT.below (below_alloc (Below.refl _ _) _))).mono ?_
  rintro e w1 ⟨rfl, hb1⟩
  have x1 : GBox w1 w.heap.size n A len cap := (GBox.new w 24 n A len cap).below hb1
  have hB1 : Below w.heap.size w w1 := below_new (by simpa using hb1)
  have c0 := x1.c0
  have c1 := x1.c1
  clear hb1
  go_wp2_with fail
  refine (small_is true n A len cap (castE ns) hlen' hs _ (hE.below hB1).ints).mono ?_
  rintro e w2 ⟨rfl, hb2⟩
  have x2 := x1.below hb2
  have hB2 := below_then hB1 hB1.size hb2
  clear c0 c1
  have c0 := x2.c0
  have c1 := x2.c1
  go_wp2_with fail
  refine (reach_is n A len cap ns hlen hG _ (hE.below hB2)).mono ?_
  rintro e w3 ⟨ra, rfl, hra, hrow3, hb3⟩
  have x3 := x2.below hb3
  have hB3 := below_then hB2 hB2.size hb3
  clear c0 c1
  have c0 := x3.c0
  have c1 := x3.c1
  have HR3 := Lib.hid hrow3
  clear hrow3
  go_wp2_with fail
  refine (levels_yes n A len cap ns hlen hG HA.out _ (hE.below hB3) (hT.below hB3)).mono ?_
  rintro e w4 ⟨lb, rfl, hrow4, hb4⟩
  have x4 := x3.below hb4
  have hB4 := below_then hB3 hB3.size hb4
  clear c0 c1
  have c0 := x4.c0
  have c1 := x4.c1
  have HR4 := Lib.hid hrow4
  clear hrow4
  go_wp2_with fail
  refine (thin_yes n A len cap ns hlen hG HA.out _ (hE.below hB4) (hT.below hB4)).mono ?_
  rintro e w5 ⟨TA, tc, rfl, hI5, hb5⟩
  have x5 := x4.below hb5
  have hB5 := below_then hB4 hB4.size hb5
  clear c0 c1
  have c0 := x5.c0
  have c1 := x5.c1
  have HI5 := Lib.hid hI5
  have hll : (thinL n ns n).length ≤ 4096 := Nat.le_trans (thinL_le n ns n) (Nat.le_trans (Nat.mul_le_mul h1 h1) (by omega))
  obtain ⟨m, hm⟩ : ∃ m, (thinL n ns n).length = m := ⟨_, rfl⟩
  have HM := Lib.hid hm
  rw [hm] at hll ⊢
  clear hI5 hm
  have HL4 := Lib.hid (row_below HR4.out hb5 HR4.out.lt)
  have hR4 := row_below HR3.out hb4 HR3.out.lt
  have HA5 := Lib.hid (row_below hR4 hb5 hR4.lt)
  have d1 : w5.cell? ⟨ra, i, none⟩ = some (.int .u64 (viaF ns n i : Nat)) := HA5.out.cell hi
  clear hR4
  go_wp2_with fail
  refine (in_no hj64 hv _).mono ?_
  rintro e w6 ⟨rfl, rfl⟩
  go_wp2
  go_ret
  exact ⟨rfl, hB5⟩

end Go.Proofs.YtpdhggfmkmiebaaDoor
