/- The walk of the statement DigraphEdges, where j is reached from i: it answers true. -/
import Derived.Test.YtpdhggfmkmiebaaDoorLw9
import Derived.Test.YtpdhggfmkmiebaaDoorMor
import Derived.Deep.DeepCutAuto
namespace Go.Proofs.YtpdhggfmkmiebaaDoor
open Go.RowKit

set_option maxRecDepth 100000 in
set_option maxHeartbeats 4000000 in
theorem edges_law_right_yes (n : Nat) (A : Option Addr) (len cap i j : Nat) (ns : List (Nat × Nat)) (hlen : Hid (len = ns.length)) (hG : GOk n ns) (hN : n ≤ 12) (hi : i < n) (hj : j < n) (hA : Acyclic ns) (hw : Way ns i j) (w : World) (hE : NRow w A ns) (hT : Tab w) (hs : Hid (smallB n (castE ns) = true)) (_hr : Hid (rightB n (castE ns) = true)) :
    Calls Tryd.prog 9 #[.agg #[.int .i64 n, .slice A len cap], .int .i64 i, .int .i64 j] w (Ret (.bool true) w) := by
  have h1 : n ≤ 64 := hG.hn
  have hlen' : Hid (len = (castE ns).length) := Lib.hid (by rw [castE_length]; exact hlen.out)
  have hpos : 0 < len := by
    rw [hlen.out]
    rcases hw.first with h | ⟨b, h, _⟩
    · exact List.length_pos_of_mem h
    · exact List.length_pos_of_mem h
  obtain ⟨eb, off, rfl, -, -⟩ := hE 0 (by rw [← hlen.out]; exact hpos)
  have h2 := (small_n hs.out _hr.out).2
  rw [castE_length, ← hlen.out] at h2
  have HA := Lib.hid hA
  clear hA
  have hi64 : i < 64 := by omega
  have hv : (viaF ns n i).testBit j = true := (viaF_way (fun e he => (hG.mem he).2) i j).2 hw
  have hj64 : j < 64 := by omega
  go_enter Tryd.func9, Tryd.ntmps9
  go_wp2_with fail
  refine (anchor_any _ (hT.below (below_alloc (Below.refl _ _) _))).mono ?_
  rintro e w1 ⟨rfl, hb1⟩
  have x1 : GBox w1 w.heap.size n (some ⟨eb, off, none⟩) len cap := (GBox.new w 24 n (some ⟨eb, off, none⟩) len cap).below hb1
  have hB1 : Below w.heap.size w w1 := below_new (by simpa using hb1)
  have c0 := x1.c0
  have c1 := x1.c1
  clear hb1
  go_wp2_with fail
  refine (small_is true n (some ⟨eb, off, none⟩) len cap (castE ns) hlen' hs _ (hE.below hB1).ints).mono ?_
  rintro e w2 ⟨rfl, hb2⟩
  have x2 := x1.below hb2
  have hB2 := below_then hB1 hB1.size hb2
  clear c0 c1
  have c0 := x2.c0
  have c1 := x2.c1
  go_wp2_with fail
  refine (reach_is n (some ⟨eb, off, none⟩) len cap ns hlen hG _ (hE.below hB2)).mono ?_
  rintro e w3 ⟨ra, rfl, hra, hrow3, hb3⟩
  have x3 := x2.below hb3
  have hB3 := below_then hB2 hB2.size hb3
  clear c0 c1
  have c0 := x3.c0
  have c1 := x3.c1
  have HR3 := Lib.hid hrow3
  clear hrow3
  go_wp2_with fail
  refine (levels_yes n (some ⟨eb, off, none⟩) len cap ns hlen hG HA.out _ (hE.below hB3) (hT.below hB3)).mono ?_
  rintro e w4 ⟨lb, rfl, hrow4, hb4⟩
  have x4 := x3.below hb4
  have hB4 := below_then hB3 hB3.size hb4
  clear c0 c1
  have c0 := x4.c0
  have c1 := x4.c1
  have HR4 := Lib.hid hrow4
  clear hrow4
  go_wp2_with fail
  refine (thin_yes n (some ⟨eb, off, none⟩) len cap ns hlen hG HA.out _ (hE.below hB4) (hT.below hB4)).mono ?_
  rintro e w5 ⟨TA, tc, rfl, hI5, hb5⟩
  have x5 := x4.below hb5
  have hB5 := below_then hB4 hB4.size hb5
  clear c0 c1
  have c0 := x5.c0
  have c1 := x5.c1
  have HI5 := Lib.hid hI5
  have hll : (thinL n ns n).length ≤ 4096 := Nat.le_trans (thinL_le n ns n) (Nat.le_trans (Nat.mul_le_mul h1 h1) (by omega))
  obtain ⟨m, hm⟩ : ∃ m, (thinL n ns n).length = m := ⟨_, rfl⟩
  have HM := Lib.hid hm
  rw [hm] at hll ⊢
  clear hI5 hm
  have HL4 := Lib.hid (row_below HR4.out hb5 HR4.out.lt)
  have hR4 := row_below HR3.out hb4 HR3.out.lt
  have HA5 := Lib.hid (row_below hR4 hb5 hR4.lt)
  have d1 : w5.cell? ⟨ra, i, none⟩ = some (.int .u64 (viaF ns n i : Nat)) := HA5.out.cell hi
  clear hR4
  go_wp2_with fail
  refine (in_yes hj64 hv _).mono ?_
  rintro e w6 ⟨rfl, rfl⟩
  go_wp2
  have hE5 := hE.below hB5
  have lt5 := x5.lt
  have v0 : w5.heap.size ≠ w.heap.size := by omega
  have v1 : w5.heap.size + 1 ≠ w.heap.size := by omega
  have v2 : w5.heap.size + 2 ≠ w.heap.size := by omega
  have v3 : w5.heap.size + 1 + 1 ≠ w.heap.size := by omega
  go_cut [13] (fun s wx => MoreAt w5 n len (ns ++ [(i, j)]) s wx)
  case first =>
    go_region_held3 (fun w' => w'.cell? ⟨w.heap.size, 0, none⟩ = some (.int .i64 n) ∧ w'.cell? ⟨w.heap.size, 1, none⟩ = some (.slice (some ⟨eb, off, none⟩) len cap)) (first | (refine keepS x5 ?_; (repeat (first | assumption | refine below_alloc ?_ _ | refine Below.drew ?_ | exact Below.refl _ _)); done) | go_keep)
     (first
      | ((first | (refine step_edges (w5 := w5) (by rfl) _ _ (by rfl) (w5.heap.size) eb off cap ns len hlen.out hpos h2 ?_ ?_ ?_ ?_ ?_ hE5 ?_; (· rfl); (· rfl); (· ((try simp only [heap_drew']); (repeat (first | assumption | exact at_new rfl | exact at_new (sz1 _ _) | exact at_new (sz2 _ _ _) | refine lift_alloc _ ?_)))); (· omega); (· (repeat (first | assumption | refine below_alloc ?_ _ | refine Below.drew ?_ | exact Below.refl _ _))); intro g1 c1 wa1 own1 hba1 carry1 type1; have s10 := (x5.below hba1).c0; have s11 := (x5.below hba1).c1; have e10 := World.new_ne wa1 _ s10; have e11 : wa1.heap.size + 1 ≠ w.heap.size := (by have := lt5; have := hba1.size; omega)) | (refine step_edges (w5 := w5) (by rfl) _ _ (by rfl) (w5.heap.size + 1) eb off cap ns len hlen.out hpos h2 ?_ ?_ ?_ ?_ ?_ hE5 ?_; (· rfl); (· rfl); (· ((try simp only [heap_drew']); (repeat (first | assumption | exact at_new rfl | exact at_new (sz1 _ _) | exact at_new (sz2 _ _ _) | refine lift_alloc _ ?_)))); (· omega); (· (repeat (first | assumption | refine below_alloc ?_ _ | refine Below.drew ?_ | exact Below.refl _ _))); intro g1 c1 wa1 own1 hba1 carry1 type1; have s10 := (x5.below hba1).c0; have s11 := (x5.below hba1).c1; have e10 := World.new_ne wa1 _ s10; have e11 : wa1.heap.size + 1 ≠ w.heap.size := (by have := lt5; have := hba1.size; omega)) | (refine step_edges (w5 := w5) (by rfl) _ _ (by rfl) (w5.heap.size + 2) eb off cap ns len hlen.out hpos h2 ?_ ?_ ?_ ?_ ?_ hE5 ?_; (· rfl); (· rfl); (· ((try simp only [heap_drew']); (repeat (first | assumption | exact at_new rfl | exact at_new (sz1 _ _) | exact at_new (sz2 _ _ _) | refine lift_alloc _ ?_)))); (· omega); (· (repeat (first | assumption | refine below_alloc ?_ _ | refine Below.drew ?_ | exact Below.refl _ _))); intro g1 c1 wa1 own1 hba1 carry1 type1; have s10 := (x5.below hba1).c0; have s11 := (x5.below hba1).c1; have e10 := World.new_ne wa1 _ s10; have e11 : wa1.heap.size + 1 ≠ w.heap.size := (by have := lt5; have := hba1.size; omega))); (first | (refine (fun (m1 : wa1.heap[w5.heap.size]? = some (.cells #[.int .i64 0, .slice none 0 0] 24 (0, 0))) => ?_) (type1 _ _ _ (by decide) ?_); rotate_left; (· ((try simp only [heap_drew']); (repeat (first | assumption | exact at_new rfl | exact at_new (sz1 _ _) | exact at_new (sz2 _ _ _) | refine lift_alloc _ ?_))))) | (refine (fun (m1 : wa1.heap[w5.heap.size + 1]? = some (.cells #[.int .i64 0, .slice none 0 0] 24 (0, 0))) => ?_) (type1 _ _ _ (by decide) ?_); rotate_left; (· ((try simp only [heap_drew']); (repeat (first | assumption | exact at_new rfl | exact at_new (sz1 _ _) | exact at_new (sz2 _ _ _) | refine lift_alloc _ ?_))))) | (refine (fun (m1 : wa1.heap[w5.heap.size + 2]? = some (.cells #[.int .i64 0, .slice none 0 0] 24 (0, 0))) => ?_) (type1 _ _ _ (by decide) ?_); rotate_left; (· ((try simp only [heap_drew']); (repeat (first | assumption | exact at_new rfl | exact at_new (sz1 _ _) | exact at_new (sz2 _ _ _) | refine lift_alloc _ ?_))))) | skip); (first | (refine (fun (n1 : wa1.heap[w5.heap.size]? = some (.cells #[.int .i64 i, .int .i64 j] 39 (0, 0))) => ?_) (carry1 _ _ ?_ ?_); rotate_left; (· omega); (· ((try simp only [heap_drew']); (repeat (first | assumption | exact at_new rfl | exact at_new (sz1 _ _) | exact at_new (sz2 _ _ _) | refine lift_alloc _ ?_))))) | (refine (fun (n1 : wa1.heap[w5.heap.size + 1]? = some (.cells #[.int .i64 i, .int .i64 j] 39 (0, 0))) => ?_) (carry1 _ _ ?_ ?_); rotate_left; (· omega); (· ((try simp only [heap_drew']); (repeat (first | assumption | exact at_new rfl | exact at_new (sz1 _ _) | exact at_new (sz2 _ _ _) | refine lift_alloc _ ?_))))) | (refine (fun (n1 : wa1.heap[w5.heap.size + 2]? = some (.cells #[.int .i64 i, .int .i64 j] 39 (0, 0))) => ?_) (carry1 _ _ ?_ ?_); rotate_left; (· omega); (· ((try simp only [heap_drew']); (repeat (first | assumption | exact at_new rfl | exact at_new (sz1 _ _) | exact at_new (sz2 _ _ _) | refine lift_alloc _ ?_))))) | skip))
      | ((first | (refine step_pair (w5 := w5) (by rfl) _ _ (by rfl) g1 c1 (w5.heap.size) i j ns len h2 ?_ ?_ ?_ ?_ ?_ ?_; (· rfl); (· rfl); (· ((try simp only [heap_drew']); (repeat (first | assumption | exact at_new rfl | exact at_new (sz1 _ _) | exact at_new (sz2 _ _ _) | refine lift_alloc _ ?_)))); (· (repeat (first | assumption | refine World.ownsRow.drew ?_ | refine World.ownsRow.alloc ?_ _))); (· (repeat (first | assumption | refine below_alloc ?_ _ | refine Below.drew ?_ | exact Below.refl _ _))); intro g2 c2 wa2 own2 hba2 type2; have s20 := (x5.below hba2).c0; have s21 := (x5.below hba2).c1; have e20 := World.new_ne wa2 _ s20) | (refine step_pair (w5 := w5) (by rfl) _ _ (by rfl) g1 c1 (w5.heap.size + 1) i j ns len h2 ?_ ?_ ?_ ?_ ?_ ?_; (· rfl); (· rfl); (· ((try simp only [heap_drew']); (repeat (first | assumption | exact at_new rfl | exact at_new (sz1 _ _) | exact at_new (sz2 _ _ _) | refine lift_alloc _ ?_)))); (· (repeat (first | assumption | refine World.ownsRow.drew ?_ | refine World.ownsRow.alloc ?_ _))); (· (repeat (first | assumption | refine below_alloc ?_ _ | refine Below.drew ?_ | exact Below.refl _ _))); intro g2 c2 wa2 own2 hba2 type2; have s20 := (x5.below hba2).c0; have s21 := (x5.below hba2).c1; have e20 := World.new_ne wa2 _ s20) | (refine step_pair (w5 := w5) (by rfl) _ _ (by rfl) g1 c1 (w5.heap.size + 2) i j ns len h2 ?_ ?_ ?_ ?_ ?_ ?_; (· rfl); (· rfl); (· ((try simp only [heap_drew']); (repeat (first | assumption | exact at_new rfl | exact at_new (sz1 _ _) | exact at_new (sz2 _ _ _) | refine lift_alloc _ ?_)))); (· (repeat (first | assumption | refine World.ownsRow.drew ?_ | refine World.ownsRow.alloc ?_ _))); (· (repeat (first | assumption | refine below_alloc ?_ _ | refine Below.drew ?_ | exact Below.refl _ _))); intro g2 c2 wa2 own2 hba2 type2; have s20 := (x5.below hba2).c0; have s21 := (x5.below hba2).c1; have e20 := World.new_ne wa2 _ s20) | (refine step_pair (w5 := w5) (by rfl) _ _ (by rfl) g1 c1 (wa1.heap.size) i j ns len h2 ?_ ?_ ?_ ?_ ?_ ?_; (· rfl); (· rfl); (· ((try simp only [heap_drew']); (repeat (first | assumption | exact at_new rfl | exact at_new (sz1 _ _) | exact at_new (sz2 _ _ _) | refine lift_alloc _ ?_)))); (· (repeat (first | assumption | refine World.ownsRow.drew ?_ | refine World.ownsRow.alloc ?_ _))); (· (repeat (first | assumption | refine below_alloc ?_ _ | refine Below.drew ?_ | exact Below.refl _ _))); intro g2 c2 wa2 own2 hba2 type2; have s20 := (x5.below hba2).c0; have s21 := (x5.below hba2).c1; have e20 := World.new_ne wa2 _ s20) | (refine step_pair (w5 := w5) (by rfl) _ _ (by rfl) g1 c1 (wa1.heap.size + 1) i j ns len h2 ?_ ?_ ?_ ?_ ?_ ?_; (· rfl); (· rfl); (· ((try simp only [heap_drew']); (repeat (first | assumption | exact at_new rfl | exact at_new (sz1 _ _) | exact at_new (sz2 _ _ _) | refine lift_alloc _ ?_)))); (· (repeat (first | assumption | refine World.ownsRow.drew ?_ | refine World.ownsRow.alloc ?_ _))); (· (repeat (first | assumption | refine below_alloc ?_ _ | refine Below.drew ?_ | exact Below.refl _ _))); intro g2 c2 wa2 own2 hba2 type2; have s20 := (x5.below hba2).c0; have s21 := (x5.below hba2).c1; have e20 := World.new_ne wa2 _ s20)); (first | (refine (fun (m2 : wa2.heap[w5.heap.size]? = some (.cells #[.int .i64 0, .slice none 0 0] 24 (0, 0))) => ?_) (type2 _ _ _ (by decide) ?_); rotate_left; (· ((try simp only [heap_drew']); (repeat (first | assumption | exact at_new rfl | exact at_new (sz1 _ _) | exact at_new (sz2 _ _ _) | refine lift_alloc _ ?_)))); have mm2 := own_type own2 m2 (by decide); obtain ⟨b0, b1, b2, b3⟩ := box_facts m2; have dm : w5.heap.size ≠ w.heap.size := (by have := x5.lt; have := hba1.size; omega)) | (refine (fun (m2 : wa2.heap[w5.heap.size + 1]? = some (.cells #[.int .i64 0, .slice none 0 0] 24 (0, 0))) => ?_) (type2 _ _ _ (by decide) ?_); rotate_left; (· ((try simp only [heap_drew']); (repeat (first | assumption | exact at_new rfl | exact at_new (sz1 _ _) | exact at_new (sz2 _ _ _) | refine lift_alloc _ ?_)))); have mm2 := own_type own2 m2 (by decide); obtain ⟨b0, b1, b2, b3⟩ := box_facts m2; have dm : w5.heap.size + 1 ≠ w.heap.size := (by have := x5.lt; have := hba1.size; omega)) | (refine (fun (m2 : wa2.heap[w5.heap.size + 2]? = some (.cells #[.int .i64 0, .slice none 0 0] 24 (0, 0))) => ?_) (type2 _ _ _ (by decide) ?_); rotate_left; (· ((try simp only [heap_drew']); (repeat (first | assumption | exact at_new rfl | exact at_new (sz1 _ _) | exact at_new (sz2 _ _ _) | refine lift_alloc _ ?_)))); have mm2 := own_type own2 m2 (by decide); obtain ⟨b0, b1, b2, b3⟩ := box_facts m2; have dm : w5.heap.size + 2 ≠ w.heap.size := (by have := x5.lt; have := hba1.size; omega)) | (refine (fun (m2 : wa2.heap[wa1.heap.size]? = some (.cells #[.int .i64 0, .slice none 0 0] 24 (0, 0))) => ?_) (type2 _ _ _ (by decide) ?_); rotate_left; (· ((try simp only [heap_drew']); (repeat (first | assumption | exact at_new rfl | exact at_new (sz1 _ _) | exact at_new (sz2 _ _ _) | refine lift_alloc _ ?_)))); have mm2 := own_type own2 m2 (by decide); obtain ⟨b0, b1, b2, b3⟩ := box_facts m2; have dm : wa1.heap.size ≠ w.heap.size := (by have := x5.lt; have := hba1.size; omega)) | (refine (fun (m2 : wa2.heap[wa1.heap.size + 1]? = some (.cells #[.int .i64 0, .slice none 0 0] 24 (0, 0))) => ?_) (type2 _ _ _ (by decide) ?_); rotate_left; (· ((try simp only [heap_drew']); (repeat (first | assumption | exact at_new rfl | exact at_new (sz1 _ _) | exact at_new (sz2 _ _ _) | refine lift_alloc _ ?_)))); have mm2 := own_type own2 m2 (by decide); obtain ⟨b0, b1, b2, b3⟩ := box_facts m2; have dm : wa1.heap.size + 1 ≠ w.heap.size := (by have := x5.lt; have := hba1.size; omega)) | skip)))
    all_goals
      go_wp2_with fail
      go_meet
      case rel => first | exact MoreAt.of_alloc own2 hba2 | exact MoreAt.of_set own2 hba2 m2 mm2 (by have := hba1.size; omega)
  case rest =>
    obtain ⟨M, V, c, rfl, y6, hN6, hb6⟩ := hcut
    have x6 := x5.below hb6
    have hB6 := below_then hB5 hB5.size hb6
    have HN6 := Lib.hid hN6
    clear hN6 c0 c1 d1 hE5 lt5 v0 v1 v2 v3
    have c0 := x6.c0
    have c1 := x6.c1
    have p0 := y6.c0
    have p1 := y6.c1
    have hns : ns.length ≤ 100 := by rw [← hlen.out]; exact h2
    have hG' := gok_more hG (by omega) hi hj
    have HA' := Lib.hid (acyclic_more HA.out hw)
    have HL' : Hid (len + 1 = (ns ++ [(i, j)]).length) := Lib.hid (by simp [hlen.out])
    go_wp2_with fail
    refine (reach_is n V (len + 1) c (ns ++ [(i, j)]) HL' hG' _ HN6.out).mono ?_
    rintro e w7 ⟨rb, rfl, hrb, hrow7, hb7⟩
    have x7 := x6.below hb7
    have y7 := y6.below hb7
    have hB7 := below_then hB6 hB6.size hb7
    clear c0 c1 p0 p1
    have c0 := x7.c0
    have c1 := x7.c1
    have p0 := y7.c0
    have p1 := y7.c1
    have HR7 := Lib.hid hrow7
    clear hrow7
    go_wp2_with fail
    refine (levels_yes n V (len + 1) c (ns ++ [(i, j)]) HL' hG' HA'.out _ (HN6.out.below hb7) (hT.below hB7)).mono ?_
    rintro e w8 ⟨lb2, rfl, hrow8, hb8⟩
    have x8 := x7.below hb8
    have y8 := y7.below hb8
    have hB8 := below_then hB7 hB7.size hb8
    clear c0 c1 p0 p1
    have c0 := x8.c0
    have c1 := x8.c1
    have p0 := y8.c0
    have p1 := y8.c1
    have HR8 := Lib.hid hrow8
    clear hrow8
    have hb68 := below_then hb7 hb7.size hb8
    go_wp2_with fail
    refine (thin_yes n V (len + 1) c (ns ++ [(i, j)]) HL' hG' HA'.out _ (HN6.out.below hb68) (hT.below hB8)).mono ?_
    rintro e w9 ⟨TB, tc2, rfl, hI9, hb9⟩
    have hte := thin_more hG hG' hw n
    rw [hte] at hI9
    rw [hte, HM.out]
    clear hte
    have x9 := x8.below hb9
    have y9 := y8.below hb9
    have hB9 := below_then hB8 hB8.size hb9
    clear c0 c1 p0 p1
    have c0 := x9.c0
    have c1 := x9.c1
    have p0 := y9.c0
    have p1 := y9.c1
    have hb69 := below_then hb68 (by have := hb7.size; have := hb8.size; omega) hb9
    have hb59 := below_then hb6 hb6.size hb69
    have hle := LevOk.unique (levels_more hw (levels_ok' hG' HA'.out)) (levels_ok' hG HA.out)
    have hr8 := row_below HR8.out hb9 HR8.out.lt
    rw [hle] at hr8
    have hr7 := row_below (row_below HR7.out hb8 HR7.out.lt) hb9 (by have := HR7.out.lt; have := hb8.size; omega)
    have HQ1 : Hid (IRow w9 (some ⟨lb, 0, none⟩) ((List.range n).map (lvAll n ns (orderV n ns)))) :=
      Lib.hid (row_irow (row_below HL4.out hb59 HL4.out.lt) (by simp) (fun k hk => by rw [getD_in _ _ (by simpa using hk)]; simp))
    have HQ2 : Hid (IRow w9 (some ⟨lb2, 0, none⟩) ((List.range n).map (lvAll n ns (orderV n ns)))) :=
      Lib.hid (row_irow hr8 (by simp) (fun k hk => by rw [getD_in _ _ (by simpa using hk)]; simp))
    have HB9 : Hid (w9.rowIs rb 33 n (u64F (viaF ns n))) := Lib.hid (hr7.congr (fun k _ => by simp only [u64F]; rw [via_more hG hG' hw]))
    have HA9 := Lib.hid (row_below HA5.out hb59 HA5.out.lt)
    have HT9 := Lib.hid (HI5.out.below hb59)
    have HU9 := Lib.hid hI9
    clear hr8 hr7 hle hI9
    go_wp2_with fail
    refine (same_yes _ _ _ n n n (Lib.hid (by simp)) (by omega) _ HQ1.out HQ2.out).mono ?_
    rintro e w10 ⟨rfl, hb10⟩
    have x10 := x9.below hb10
    have y10 := y9.below hb10
    have hB10 := below_then hB9 hB9.size hb10
    clear c0 c1 p0 p1
    have c0 := x10.c0
    have c1 := x10.c1
    have p0 := y10.c0
    have p1 := y10.c1
    have HA10 := Lib.hid (row_below HA9.out hb10 HA9.out.lt)
    have HB10 := Lib.hid (row_below HB9.out hb10 HB9.out.lt)
    have HT10 := Lib.hid (HT9.out.below hb10)
    have HU10 := Lib.hid (HU9.out.below hb10)
    clear c0 c1 p0 p1
    go_wp2
    go_loopg [137] n (fun g s wr => wr = w10 ∧ ∃ k : Nat, k ≤ n ∧ g = n - k ∧ s = .int .i64 k)
    case atStart => exact ⟨rfl, 0, by omega, rfl, rfl⟩
    case round =>
      obtain ⟨rfl, k, hk, rfl, rfl⟩ := hrel
      by_cases hlt : k < n
      · have d1 : wr.cell? ⟨ra, k, none⟩ = some (.int .u64 (viaF ns n k : Nat)) := HA10.out.cell hlt
        have d2 : wr.cell? ⟨rb, k, none⟩ = some (.int .u64 (viaF ns n k : Nat)) := HB10.out.cell hlt
        go_wp2
        go_roundg (n - (k + 1))
        case measure => omega
        case rel => exact ⟨rfl, k + 1, by omega, rfl, by go_num⟩
      · obtain rfl : k = n := by omega
        go_wp2
        obtain ⟨wo, rfl⟩ : ∃ wo : World, wo = wr := ⟨_, rfl⟩
        go_loopg [151] m (fun g s wr => ∃ i : Nat, i ≤ m ∧ g = m - i ∧ s = .int .i64 i ∧ Below wo.heap.size wo wr)
        case atStart => exact ⟨0, by omega, rfl, rfl, Below.refl _ _⟩
        case round =>
          obtain ⟨i, hi, rfl, rfl, hb⟩ := hrel
          by_cases hlt2 : i < m
          · obtain ⟨b1, o1, rfl, d1, d2⟩ := HT10.out.below hb i (by rw [HM.out]; exact hlt2)
            obtain ⟨b2, o2, rfl, d3, d4⟩ := HU10.out.below hb i (by rw [HM.out]; exact hlt2)
            obtain ⟨x, hx⟩ : ∃ x, ((thinL k ns k).getD i (0, 0)).1 = x := ⟨_, rfl⟩
            obtain ⟨y, hy⟩ : ∃ y, ((thinL k ns k).getD i (0, 0)).2 = y := ⟨_, rfl⟩
            rw [hx] at d1 d3
            rw [hy] at d2 d4
            have hbl := World.block_lt_of_cell? _ _ d3
            have e3 : ∀ o, (wr.alloc o).cell? ⟨b2, o2 + i * 2, none⟩ = some (.int .i64 x) := fun o => (World.cell?_alloc_past _ _ _ (by exact hbl)).trans d3
            have e4 : ∀ o, (wr.alloc o).cell? ⟨b2, o2 + i * 2 + 1, none⟩ = some (.int .i64 y) := fun o => (World.cell?_alloc_past _ _ _ (by exact hbl)).trans d4
            have hneq := neq_pair x y
            clear hx hy hbl
            go_wp2
            go_quiet (fail)
            go_wp2
            go_roundg (m - (i + 1))
            case measure => omega
            case rel => exact ⟨i + 1, by omega, rfl, by go_num, below_drewN (hb.alloc hb.size _) _⟩
          · obtain rfl : i = m := by omega
            have hB11 := below_then hB10 hB10.size hb
            go_wp2
            go_ret
            exact ⟨rfl, hB11⟩

theorem edges_law (N : Int) (A : Option Addr) (len cap : Nat) (I J : Int) (es : List (Int × Int)) (hlen : Hid (len = es.length)) (w : World) (hE : ERow w A es) (hT : Tab w) :
    Calls Tryd.prog 9 #[.agg #[.int .i64 N, .slice A len cap], .int .i64 I, .int .i64 J] w (Ret (.bool true) w) := by
  cases hs : smallB N es
  · exact edges_law_big N A len cap I J es hlen w hE hT (Lib.hid hs)
  · by_cases hN : 12 < N
    · exact edges_law_twelve N A len cap I J es hlen w hE hT (Lib.hid hs) hN
    · by_cases hon : 0 ≤ I ∧ 0 ≤ J ∧ I < N ∧ J < N
      · obtain ⟨h3, h4, h5, h6⟩ := hon
        cases hr : rightB N es
        · exact edges_law_wrong N A len cap I J es hlen (by omega) h3 h4 h5 h6 w hE hT (Lib.hid hs) (Lib.hid hr)
        · obtain ⟨n, ns, rfl, rfl, hG⟩ := right_nat hr
          obtain ⟨i, rfl⟩ : ∃ i : Nat, I = i := ⟨I.toNat, by omega⟩
          obtain ⟨j, rfl⟩ : ∃ j : Nat, J = j := ⟨J.toNat, by omega⟩
          have hl : Hid (len = ns.length) := Lib.hid (by rw [← castE_length]; exact hlen.out)
          by_cases hA : Acyclic ns
          · by_cases hw : Way ns i j
            · exact edges_law_right_yes n A len cap i j ns hl hG (by omega) (by omega) (by omega) hA hw w (NRow.of_ints hE) hT (Lib.hid hs) (Lib.hid hr)
            · exact edges_law_right_no n A len cap i j ns hl hG (by omega) (by omega) (by omega) hA hw w (NRow.of_ints hE) hT (Lib.hid hs) (Lib.hid hr)
          · exact edges_law_right_circle n A len cap i j ns hl hG (by omega) (by omega) (by omega) hA w (NRow.of_ints hE) hT (Lib.hid hs) (Lib.hid hr)
      · exact edges_law_off N A len cap I J es hlen w hE hT (Lib.hid hs) (by omega) (by omega)
end Go.Proofs.YtpdhggfmkmiebaaDoor
