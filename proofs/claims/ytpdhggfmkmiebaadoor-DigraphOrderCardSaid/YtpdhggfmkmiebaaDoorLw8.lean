/- The walk of the statement DigraphOrder: it answers true for every graph. -/
import Derived.Test.YtpdhggfmkmiebaaDoorLw0
namespace Go.Proofs.YtpdhggfmkmiebaaDoor
open Go.RowKit

set_option maxRecDepth 100000 in
theorem order_law_big (N : Int) (A : Option Addr) (len cap : Nat) (es : List (Int × Int)) (hlen : Hid (len = es.length)) (w : World) (hE : ERow w A es) (hT : Tab w) (hs : Hid (smallB N es = false)) :
    Calls Tryd.prog 8 #[.agg #[.int .i64 N, .slice A len cap]] w (Ret (.bool true) w) := by
  go_enter Tryd.func8, Tryd.ntmps8
  go_wp2_with fail
  refine (anchor_any _ (hT.below (below_alloc (Below.refl _ _) _))).mono ?_
  rintro e w1 ⟨rfl, hb1⟩
  have x1 : GBox w1 w.heap.size N A len cap := (GBox.new w 24 N A len cap).below hb1
  have hB1 : Below w.heap.size w w1 := below_new (by simpa using hb1)
  have c0 := x1.c0
  have c1 := x1.c1
  clear hb1
  go_wp2_with fail
  refine (small_is false N A len cap es hlen hs _ (hE.below hB1)).mono ?_
  rintro e w2 ⟨rfl, hb2⟩
  have x2 := x1.below hb2
  have hB2 := below_then hB1 hB1.size hb2
  clear c0 c1
  have c0 := x2.c0
  have c1 := x2.c1
  go_wp2
  go_ret
  exact ⟨rfl, hB2⟩

set_option maxRecDepth 100000 in
theorem order_law_wrong (N : Int) (A : Option Addr) (len cap : Nat) (es : List (Int × Int)) (hlen : Hid (len = es.length)) (w : World) (hE : ERow w A es) (hT : Tab w) (hs : Hid (smallB N es = true)) (hr : Hid (rightB N es = false)) :
    Calls Tryd.prog 8 #[.agg #[.int .i64 N, .slice A len cap]] w (Ret (.bool true) w) := by
  go_enter Tryd.func8, Tryd.ntmps8
  go_wp2_with fail
  refine (anchor_any _ (hT.below (below_alloc (Below.refl _ _) _))).mono ?_
  rintro e w1 ⟨rfl, hb1⟩
  have x1 : GBox w1 w.heap.size N A len cap := (GBox.new w 24 N A len cap).below hb1
  have hB1 : Below w.heap.size w w1 := below_new (by simpa using hb1)
  have c0 := x1.c0
  have c1 := x1.c1
  clear hb1
  go_wp2_with fail
  refine (small_is true N A len cap es hlen hs _ (hE.below hB1)).mono ?_
  rintro e w2 ⟨rfl, hb2⟩
  have x2 := x1.below hb2
  have hB2 := below_then hB1 hB1.size hb2
  clear c0 c1
  have c0 := x2.c0
  have c1 := x2.c1
  go_wp2_with fail
  refine (order_wrong N A len cap es hlen hr _ (hE.below hB2)).mono ?_
  rintro e w3 ⟨rfl, hb3⟩
  have x3 := x2.below hb3
  have hB3 := below_then hB2 hB2.size hb3
  clear c0 c1
  have c0 := x3.c0
  have c1 := x3.c1
  go_wp2_with fail
  refine (levels_wrong N A len cap es hlen hr _ (hE.below hB3)).mono ?_
  rintro e w4 ⟨rfl, hb4⟩
  have x4 := x3.below hb4
  have hB4 := below_then hB3 hB3.size hb4
  clear c0 c1
  have c0 := x4.c0
  have c1 := x4.c1
  go_wp2_with fail
  refine (plain_any N A len cap _).mono ?_
  rintro e w5 ⟨rfl, hb5⟩
  have x5 := x4.below hb5
  have hB5 := below_then hB4 hB4.size hb5
  clear c0 c1
  have xa := x5.alloc (Obj.cells #[Value.int IntKind.i64 N, Value.slice A len cap] 31)
  have ya := GBox.new w5 31 N A len cap
  have hBa := below_alloc hB5 (Obj.cells #[Value.int IntKind.i64 N, Value.slice A len cap] 31)
  obtain ⟨wa, hwa⟩ : ∃ wa, wa = w5.alloc (Obj.cells #[Value.int IntKind.i64 N, Value.slice A len cap] 31) := ⟨_, rfl⟩
  rw [← hwa] at xa ya hBa
  have HWA := Lib.hid hwa
  clear hwa
  have c0 := xa.c0
  have c1 := xa.c1
  have p0 := ya.c0
  have p1 := ya.c1
  go_wp2_with fail
  rw [← HWA.out]
  refine (right_is false N A len cap es hlen hr _ (hE.below hBa)).mono ?_
  rintro e w6 ⟨rfl, hb6⟩
  have x6 := xa.below hb6
  have y6 := ya.below hb6
  have hB6 := below_then hBa hBa.size hb6
  clear c0 c1 p0 p1
  have c0 := x6.c0
  have c1 := x6.c1
  have p0 := y6.c0
  have p1 := y6.c1
  go_wp2_with fail
  refine (check_wrong N A len cap es hlen hr _ (hE.below hB6)).mono ?_
  rintro e w7 ⟨rfl, hb7⟩
  have x7 := x6.below hb7
  have y7 := y6.below hb7
  have hB7 := below_then hB6 hB6.size hb7
  clear c0 c1 p0 p1
  have c0 := x7.c0
  have c1 := x7.c1
  have p0 := y7.c0
  have p1 := y7.c1
  go_wp2
  go_ret
  exact ⟨rfl, hB7⟩

set_option maxRecDepth 100000 in
set_option maxHeartbeats 1000000 in
theorem order_law_right_circle (n : Nat) (A : Option Addr) (len cap : Nat) (ns : List (Nat × Nat)) (hlen : Hid (len = ns.length)) (hG : GOk n ns) (hA : ¬ Acyclic ns) (w : World) (hE : NRow w A ns) (hT : Tab w) (hs : Hid (smallB n (castE ns) = true)) (hr : Hid (rightB n (castE ns) = true)) :
    Calls Tryd.prog 8 #[.agg #[.int .i64 n, .slice A len cap]] w (Ret (.bool true) w) := by
  have h1 : n ≤ 64 := hG.hn
  have hlen' : Hid (len = (castE ns).length) := Lib.hid (by rw [castE_length]; exact hlen.out)
  have HA := Lib.hid hA
  clear hA
  go_enter Tryd.func8, Tryd.ntmps8
  go_wp2_with fail
  refine (anchor_any _ (hT.below (below_alloc (Below.refl _ _) _))).mono ?_
  rintro e w1 ⟨rfl, hb1⟩
  have x1 : GBox w1 w.heap.size n A len cap := (GBox.new w 24 n A len cap).below hb1
  have hB1 : Below w.heap.size w w1 := below_new (by simpa using hb1)
  have c0 := x1.c0
  have c1 := x1.c1
  clear hb1
  go_wp2_with fail
  refine (small_is true n A len cap (castE ns) hlen' hs _ (hE.below hB1).ints).mono ?_
  rintro e w2 ⟨rfl, hb2⟩
  have x2 := x1.below hb2
  have hB2 := below_then hB1 hB1.size hb2
  clear c0 c1
  have c0 := x2.c0
  have c1 := x2.c1
  go_wp2_with fail
  refine (order_no n A len cap ns hlen hG HA.out _ (hE.below hB2) (hT.below hB2)).mono ?_
  rintro e w3 ⟨rfl, hb3⟩
  have x3 := x2.below hb3
  have hB3 := below_then hB2 hB2.size hb3
  clear c0 c1
  have c0 := x3.c0
  have c1 := x3.c1
  go_wp2_with fail
  refine (levels_no n A len cap ns hlen hG HA.out _ (hE.below hB3) (hT.below hB3)).mono ?_
  rintro e w4 ⟨rfl, hb4⟩
  have x4 := x3.below hb4
  have hB4 := below_then hB3 hB3.size hb4
  clear c0 c1
  have c0 := x4.c0
  have c1 := x4.c1
  go_wp2_with fail
  refine (plain_any n A len cap _).mono ?_
  rintro e w5 ⟨rfl, hb5⟩
  have x5 := x4.below hb5
  have hB5 := below_then hB4 hB4.size hb5
  clear c0 c1
  have xa := x5.alloc (Obj.cells #[Value.int IntKind.i64 n, Value.slice A len cap] 31)
  have ya := GBox.new w5 31 n A len cap
  have hBa := below_alloc hB5 (Obj.cells #[Value.int IntKind.i64 n, Value.slice A len cap] 31)
  obtain ⟨wa, hwa⟩ : ∃ wa, wa = w5.alloc (Obj.cells #[Value.int IntKind.i64 n, Value.slice A len cap] 31) := ⟨_, rfl⟩
  rw [← hwa] at xa ya hBa
  have HWA := Lib.hid hwa
  clear hwa
  have c0 := xa.c0
  have c1 := xa.c1
  have p0 := ya.c0
  have p1 := ya.c1
  go_wp2_with fail
  rw [← HWA.out]
  refine (right_is true n A len cap (castE ns) hlen' hr _ (hE.below hBa).ints).mono ?_
  rintro e w6 ⟨rfl, hb6⟩
  have x6 := xa.below hb6
  have y6 := ya.below hb6
  have hB6 := below_then hBa hBa.size hb6
  clear c0 c1 p0 p1
  have c0 := x6.c0
  have c1 := x6.c1
  have p0 := y6.c0
  have p1 := y6.c1
  go_wp2_with fail
  refine (circle_yes n A len cap ns hlen hG HA.out _ (hE.below hB6)).mono ?_
  rintro e w7 ⟨rfl, hb7⟩
  have x7 := x6.below hb7
  have y7 := y6.below hb7
  have hB7 := below_then hB6 hB6.size hb7
  clear c0 c1 p0 p1
  have c0 := x7.c0
  have c1 := x7.c1
  have p0 := y7.c0
  have p1 := y7.c1
  go_wp2_with fail
  refine (check_ok n A len cap ns hlen hG _ (hE.below hB7)).mono ?_
  rintro e w8 ⟨rfl, hb8⟩
  have x8 := x7.below hb8
  have y8 := y7.below hb8
  have hB8 := below_then hB7 hB7.size hb8
  clear c0 c1 p0 p1
  have c0 := x8.c0
  have c1 := x8.c1
  have p0 := y8.c0
  have p1 := y8.c1
  go_wp2
  go_ret
  exact ⟨rfl, hB8⟩

set_option maxRecDepth 100000 in
set_option maxHeartbeats 1000000 in
theorem order_law_right_plain (n : Nat) (A : Option Addr) (len cap : Nat) (ns : List (Nat × Nat)) (hlen : Hid (len = ns.length)) (hG : GOk n ns) (hA : Acyclic ns) (w : World) (hE : NRow w A ns) (hT : Tab w) (hs : Hid (smallB n (castE ns) = true)) (hr : Hid (rightB n (castE ns) = true)) :
    Calls Tryd.prog 8 #[.agg #[.int .i64 n, .slice A len cap]] w (Ret (.bool true) w) := by
  have h1 : n ≤ 64 := hG.hn
  have hlen' : Hid (len = (castE ns).length) := Lib.hid (by rw [castE_length]; exact hlen.out)
  have HA := Lib.hid hA
  have hn20 := (small_n hs.out hr.out).1
  clear hA
  go_enter Tryd.func8, Tryd.ntmps8
  go_wp2_with fail
  refine (anchor_any _ (hT.below (below_alloc (Below.refl _ _) _))).mono ?_
  rintro e w1 ⟨rfl, hb1⟩
  have x1 : GBox w1 w.heap.size n A len cap := (GBox.new w 24 n A len cap).below hb1
  have hB1 : Below w.heap.size w w1 := below_new (by simpa using hb1)
  have c0 := x1.c0
  have c1 := x1.c1
  clear hb1
  go_wp2_with fail
  refine (small_is true n A len cap (castE ns) hlen' hs _ (hE.below hB1).ints).mono ?_
  rintro e w2 ⟨rfl, hb2⟩
  have x2 := x1.below hb2
  have hB2 := below_then hB1 hB1.size hb2
  clear c0 c1
  have c0 := x2.c0
  have c1 := x2.c1
  go_wp2_with fail
  refine (order_yes n A len cap ns hlen hG HA.out _ (hE.below hB2) (hT.below hB2)).mono ?_
  rintro e w3 ⟨OB, oc, rfl, hI3, hb3⟩
  have x3 := x2.below hb3
  have hB3 := below_then hB2 hB2.size hb3
  clear c0 c1
  have c0 := x3.c0
  have c1 := x3.c1
  have HI3 := Lib.hid hI3
  clear hI3
  go_wp2_with fail
  refine (levels_yes n A len cap ns hlen hG HA.out _ (hE.below hB3) (hT.below hB3)).mono ?_
  rintro e w4 ⟨lb, rfl, hrow4, hb4⟩
  have x4 := x3.below hb4
  have hB4 := below_then hB3 hB3.size hb4
  clear c0 c1
  have c0 := x4.c0
  have c1 := x4.c1
  have HI4 := Lib.hid (HI3.out.below hb4)
  have HR4 := Lib.hid hrow4
  clear hrow4
  go_wp2_with fail
  refine (plain_any n A len cap _).mono ?_
  rintro e w5 ⟨rfl, hb5⟩
  have x5 := x4.below hb5
  have hB5 := below_then hB4 hB4.size hb5
  clear c0 c1
  have xa := x5.alloc (Obj.cells #[Value.int IntKind.i64 n, Value.slice A len cap] 31)
  have ya := GBox.new w5 31 n A len cap
  have hBa := below_alloc hB5 (Obj.cells #[Value.int IntKind.i64 n, Value.slice A len cap] 31)
  obtain ⟨wa, hwa⟩ : ∃ wa, wa = w5.alloc (Obj.cells #[Value.int IntKind.i64 n, Value.slice A len cap] 31) := ⟨_, rfl⟩
  rw [← hwa] at xa ya hBa
  have HWA := Lib.hid hwa
  clear hwa
  have c0 := xa.c0
  have c1 := xa.c1
  have p0 := ya.c0
  have p1 := ya.c1
  go_wp2_with fail
  rw [← HWA.out]
  refine (right_is true n A len cap (castE ns) hlen' hr _ (hE.below hBa).ints).mono ?_
  rintro e w6 ⟨rfl, hb6⟩
  have x6 := xa.below hb6
  have y6 := ya.below hb6
  have hB6 := below_then hBa hBa.size hb6
  clear c0 c1 p0 p1
  have c0 := x6.c0
  have c1 := x6.c1
  have p0 := y6.c0
  have p1 := y6.c1
  go_wp2_with fail
  refine (circle_no n A len cap ns hlen hG HA.out _ (hE.below hB6)).mono ?_
  rintro e w7 ⟨rfl, hb7⟩
  have x7 := x6.below hb7
  have y7 := y6.below hb7
  have hB7 := below_then hB6 hB6.size hb7
  clear c0 c1 p0 p1
  have c0 := x7.c0
  have c1 := x7.c1
  have p0 := y7.c0
  have p1 := y7.c1
  go_wp2_with fail
  refine (orderR_any n A len cap ns hlen hG _ (hE.below hB7) ((order_iff hG).2 HA.out)).mono ?_
  rintro e w8 ⟨hb8, RA, rc, he, hI8, -⟩
  rw [(order_iff hG).2 HA.out] at he
  subst he
  have x8 := x7.below hb8
  have y8 := y7.below hb8
  have hB8 := below_then hB7 hB7.size hb8
  clear c0 c1 p0 p1
  have c0 := x8.c0
  have c1 := x8.c1
  have p0 := y8.c0
  have p1 := y8.c1
  have hb48 : Below w4.heap.size w4 w8 := by
    have h5 : Below w4.heap.size w4 w5 := hb5
    have ha : Below w4.heap.size w4 wa := by rw [HWA.out]; exact below_alloc h5 _
    exact below_then (below_then (below_then ha ha.size hb6) (by have := ha.size; have := hb6.size; omega) hb7) (by have := ha.size; have := hb6.size; have := hb7.size; omega) hb8
  have HI8 := Lib.hid hI8
  have HL8 := Lib.hid (HI4.out.below hb48)
  have HR8 := Lib.hid (row_below HR4.out hb48 HR4.out.lt)
  clear hI8
  go_wp2_with fail
  refine (same_yes (orderV n ns) OB RA n oc rc (Lib.hid ((order_iff hG).2 HA.out)) (by omega) _ HL8.out HI8.out).mono ?_
  rintro e w9 ⟨rfl, hb9⟩
  have x9 := x8.below hb9
  have y9 := y8.below hb9
  have hB9 := below_then hB8 hB8.size hb9
  clear c0 c1 p0 p1
  have c0 := x9.c0
  have c1 := x9.c1
  have p0 := y9.c0
  have p1 := y9.c1
  go_wp2_with fail
  refine (levelsR_any n A len cap ns hlen hG _ (hE.below hB9) ((order_iff hG).2 HA.out)).mono ?_
  rintro e w10 ⟨rb, rfl, -, hrow10, hb10⟩
  have x10 := x9.below hb10
  have y10 := y9.below hb10
  have hB10 := below_then hB9 hB9.size hb10
  clear c0 c1 p0 p1
  have c0 := x10.c0
  have c1 := x10.c1
  have p0 := y10.c0
  have p1 := y10.c1
  have HQ1 : Hid (IRow w10 (some ⟨lb, 0, none⟩) ((List.range n).map (lvAll n ns (orderV n ns)))) :=
    Lib.hid (row_irow (row_below (row_below HR8.out hb9 HR8.out.lt) hb10 (by have := HR8.out.lt; have := hb9.size; omega)) (by simp) (fun k hk => by rw [getD_in _ _ (by simpa using hk)]; simp))
  have HQ2 : Hid (IRow w10 (some ⟨rb, 0, none⟩) ((List.range n).map (lvAll n ns (orderV n ns)))) :=
    Lib.hid (row_irow hrow10 (by simp) (fun k hk => by rw [getD_in _ _ (by simpa using hk), lvAll_eq hG HA.out]; simp))
  clear hrow10
  go_wp2_with fail
  refine (same_yes _ _ _ n n n (Lib.hid (by simp)) (by omega) _ HQ1.out HQ2.out).mono ?_
  rintro e w11 ⟨rfl, hb11⟩
  have x11 := x10.below hb11
  have y11 := y10.below hb11
  have hB11 := below_then hB10 hB10.size hb11
  clear c0 c1 p0 p1
  have c0 := x11.c0
  have c1 := x11.c1
  have p0 := y11.c0
  have p1 := y11.c1
  go_wp2
  go_ret
  exact ⟨rfl, hB11⟩

theorem order_law_right (n : Nat) (A : Option Addr) (len cap : Nat) (ns : List (Nat × Nat)) (hlen : Hid (len = ns.length)) (hG : GOk n ns) (w : World) (hE : NRow w A ns) (hT : Tab w) (hs : Hid (smallB n (castE ns) = true)) (hr : Hid (rightB n (castE ns) = true)) :
    Calls Tryd.prog 8 #[.agg #[.int .i64 n, .slice A len cap]] w (Ret (.bool true) w) := by
  by_cases hA : Acyclic ns
  · exact order_law_right_plain n A len cap ns hlen hG hA w hE hT hs hr
  · exact order_law_right_circle n A len cap ns hlen hG hA w hE hT hs hr

theorem order_law (N : Int) (A : Option Addr) (len cap : Nat) (es : List (Int × Int)) (hlen : Hid (len = es.length)) (w : World) (hE : ERow w A es) (hT : Tab w) :
    Calls Tryd.prog 8 #[.agg #[.int .i64 N, .slice A len cap]] w (Ret (.bool true) w) := by
  cases hs : smallB N es
  · exact order_law_big N A len cap es hlen w hE hT (Lib.hid hs)
  · cases hr : rightB N es
    · exact order_law_wrong N A len cap es hlen w hE hT (Lib.hid hs) (Lib.hid hr)
    · obtain ⟨n, ns, rfl, rfl, hG⟩ := right_nat hr
      exact order_law_right n A len cap ns (Lib.hid (by rw [← castE_length]; exact hlen.out)) hG w (NRow.of_ints hE) hT (Lib.hid hs) (Lib.hid hr)
end Go.Proofs.YtpdhggfmkmiebaaDoor
