/- The walk of the statement DigraphSets: it answers true for every graph and set. -/
import Derived.Test.YtpdhggfmkmiebaaDoorLw0
import Derived.Deep.RegionWith
namespace Go.Proofs.YtpdhggfmkmiebaaDoor
open Go.RowKit

set_option maxRecDepth 100000 in
theorem sets_law_big (N : Int) (A : Option Addr) (len cap set : Nat) (es : List (Int × Int)) (hlen : Hid (len = es.length)) (w : World) (hE : ERow w A es) (hT : Tab w) (hs : Hid (smallB N es = false)) :
    Calls Tryd.prog 6 #[.agg #[.int .i64 N, .slice A len cap], .int .u64 set] w (Ret (.bool true) w) := by
  go_enter Tryd.func6, Tryd.ntmps6
  go_wp2_with fail
  refine (anchor_any _ (hT.below (below_alloc (Below.refl _ _) _))).mono ?_
  rintro e w1 ⟨rfl, hb1⟩
  have x1 : GBox w1 w.heap.size N A len cap := (GBox.new w 24 N A len cap).below hb1
  have hB1 : Below w.heap.size w w1 := below_new (by simpa using hb1)
  have c0 := x1.c0
  have c1 := x1.c1
  clear hb1
  go_wp2_with fail
  refine (small_is false N A len cap es hlen hs _ (hE.below hB1)).mono ?_
  rintro e w2 ⟨rfl, hb2⟩
  have x2 := x1.below hb2
  have hB2 := below_then hB1 hB1.size hb2
  clear c0 c1
  have c0 := x2.c0
  have c1 := x2.c1
  go_wp2
  go_ret
  exact ⟨rfl, hB2⟩

set_option maxRecDepth 100000 in
theorem sets_law_wrong (N : Int) (A : Option Addr) (len cap set : Nat) (es : List (Int × Int)) (hlen : Hid (len = es.length)) (w : World) (hE : ERow w A es) (hT : Tab w) (hs : Hid (smallB N es = true)) (hr : Hid (rightB N es = false)) :
    Calls Tryd.prog 6 #[.agg #[.int .i64 N, .slice A len cap], .int .u64 set] w (Ret (.bool true) w) := by
  go_enter Tryd.func6, Tryd.ntmps6
  go_wp2_with fail
  refine (anchor_any _ (hT.below (below_alloc (Below.refl _ _) _))).mono ?_
  rintro e w1 ⟨rfl, hb1⟩
  have x1 : GBox w1 w.heap.size N A len cap := (GBox.new w 24 N A len cap).below hb1
  have hB1 : Below w.heap.size w w1 := below_new (by simpa using hb1)
  have c0 := x1.c0
  have c1 := x1.c1
  clear hb1
  go_wp2_with fail
  refine (small_is true N A len cap es hlen hs _ (hE.below hB1)).mono ?_
  rintro e w2 ⟨rfl, hb2⟩
  have x2 := x1.below hb2
  have hB2 := below_then hB1 hB1.size hb2
  clear c0 c1
  have c0 := x2.c0
  have c1 := x2.c1
  go_wp2_with fail
  refine (closed_wrong N A len cap es hlen hr _ (hE.below hB2) set).mono ?_
  rintro e w3 ⟨rfl, hb3⟩
  have x3 := x2.below hb3
  have hB3 := below_then hB2 hB2.size hb3
  clear c0 c1
  have c0 := x3.c0
  have c1 := x3.c1
  go_wp2_with fail
  refine (Ready_wrong N A len cap es hlen hr _ (hE.below hB3) set).mono ?_
  rintro e w4 ⟨rfl, hb4⟩
  have x4 := x3.below hb4
  have hB4 := below_then hB3 hB3.size hb4
  clear c0 c1
  have c0 := x4.c0
  have c1 := x4.c1
  go_wp2_with fail
  refine (plain_any N A len cap _).mono ?_
  rintro e w5 ⟨rfl, hb5⟩
  have x5 := x4.below hb5
  have hB5 := below_then hB4 hB4.size hb5
  clear c0 c1
  have xa := x5.alloc (Obj.cells #[Value.int IntKind.i64 N, Value.slice A len cap] 31)
  have ya := GBox.new w5 31 N A len cap
  have hBa := below_alloc hB5 (Obj.cells #[Value.int IntKind.i64 N, Value.slice A len cap] 31)
  obtain ⟨wa, hwa⟩ : ∃ wa, wa = w5.alloc (Obj.cells #[Value.int IntKind.i64 N, Value.slice A len cap] 31) := ⟨_, rfl⟩
  rw [← hwa] at xa ya hBa
  have HWA := Lib.hid hwa
  clear hwa
  have c0 := xa.c0
  have c1 := xa.c1
  have p0 := ya.c0
  have p1 := ya.c1
  go_wp2_with fail
  rw [← HWA.out]
  refine (right_is false N A len cap es hlen hr _ (hE.below hBa)).mono ?_
  rintro e w6 ⟨rfl, hb6⟩
  have x6 := xa.below hb6
  have y6 := ya.below hb6
  have hB6 := below_then hBa hBa.size hb6
  clear c0 c1 p0 p1
  have c0 := x6.c0
  have c1 := x6.c1
  have p0 := y6.c0
  have p1 := y6.c1
  go_wp2
  go_ret
  exact ⟨rfl, hB6⟩

theorem shift_out {n set : Nat} (h : n < Lib.bitLen set) (hs : set < 2 ^ 64) : ((set : Int) / 2 ^ n == 0) = false := by
  have : ¬ set < 2 ^ n := fun k => by have := (bitLen_le hs n).2 k; omega
  have h0 := Nat.two_pow_pos n
  have h2 : set / 2 ^ n ≠ 0 := fun e => this (by rw [Nat.div_eq_zero_iff] at e; omega)
  have h3 : ((set : Int) / 2 ^ n) = ((set / 2 ^ n : Nat) : Int) := natcast_div_pow set n
  rw [h3]
  simp only [beq_eq_false_iff_ne]
  omega
theorem shift_in {n r : Nat} (h : r < 2 ^ n) : (r : Int) / 2 ^ n = 0 := by
  have h3 : ((r : Int) / 2 ^ n) = ((r / 2 ^ n : Nat) : Int) := natcast_div_pow r n
  rw [h3, Nat.div_eq_of_lt h]
  rfl
theorem closedB_iff {n : Nat} {ns : List (Nat × Nat)} (hG : GOk n ns) {set : Nat} (h64 : set < 2 ^ 64) : closedB n ns set = true ↔ Shut ns set := by
  have hl := fun i => lt64 (aheadF_lt (fun e he => (hG.mem he).1) i) hG.hn
  constructor
  · intro h x hx y hy
    have h2 := (allB_iff _ n).1 h x (hG.mem hy).2
    unfold closedAt at h2
    rw [hx] at h2
    exact (subB_iff (hl x) h64).1 h2 y ((aheadF_bit ns y x).2 hy)
  · intro h
    refine (allB_iff _ n).2 fun i _ => ?_
    unfold closedAt
    cases hb : set.testBit i
    · rfl
    · rw [(subB_iff (hl i) h64).2 (fun x hx => h i hb x ((aheadF_bit ns x i).1 hx))]
      rfl
theorem closedR_iff {ns : List (Nat × Nat)} {set : Nat} : closedR ns set = true ↔ Shut ns set := by
  unfold closedR
  rw [Bool.not_eq_true', List.any_eq_false]
  constructor
  · intro h x hx y hy
    have := h (y, x) hy
    simp only [opensE, hx, Bool.true_and, Bool.not_eq_true'] at this
    simpa using this
  · intro h e he
    simp only [opensE]
    cases hb : set.testBit e.2
    · simp
    · rw [h e.2 hb e.1 he]; simp
theorem closedR_eq {n : Nat} {ns : List (Nat × Nat)} (hG : GOk n ns) {set : Nat} (h64 : set < 2 ^ 64) : closedR ns set = closedB n ns set := by
  rw [Bool.eq_iff_iff, closedR_iff, closedB_iff hG h64]

set_option maxRecDepth 100000 in
set_option maxHeartbeats 1000000 in
theorem sets_law_right_out (n : Nat) (A : Option Addr) (len cap set : Nat) (ns : List (Nat × Nat)) (hset : Hid (set < 2 ^ 64)) (hlen : Hid (len = ns.length)) (hG : GOk n ns) (hin : n < Lib.bitLen set) (w : World) (hE : NRow w A ns) (hT : Tab w) (hs : Hid (smallB n (castE ns) = true)) (hr : Hid (rightB n (castE ns) = true)) :
    Calls Tryd.prog 6 #[.agg #[.int .i64 n, .slice A len cap], .int .u64 set] w (Ret (.bool true) w) := by
  have h1 : n ≤ 64 := hG.hn
  have hlen' : Hid (len = (castE ns).length) := Lib.hid (by rw [castE_length]; exact hlen.out)
  have hn20 := (small_n hs.out hr.out).1
  have t0 := shift_out hin hset.out
  go_enter Tryd.func6, Tryd.ntmps6
  go_wp2_with fail
  refine (anchor_any _ (hT.below (below_alloc (Below.refl _ _) _))).mono ?_
  rintro e w1 ⟨rfl, hb1⟩
  have x1 : GBox w1 w.heap.size n A len cap := (GBox.new w 24 n A len cap).below hb1
  have hB1 : Below w.heap.size w w1 := below_new (by simpa using hb1)
  have c0 := x1.c0
  have c1 := x1.c1
  clear hb1
  go_wp2_with fail
  refine (small_is true n A len cap (castE ns) hlen' hs _ (hE.below hB1).ints).mono ?_
  rintro e w2 ⟨rfl, hb2⟩
  have x2 := x1.below hb2
  have hB2 := below_then hB1 hB1.size hb2
  clear c0 c1
  have c0 := x2.c0
  have c1 := x2.c1
  go_wp2_with fail
  refine (closed_out n A len cap ns hlen hG _ (hE.below hB2) set hset hin).mono ?_
  rintro e w3 ⟨rfl, hb3⟩
  have x3 := x2.below hb3
  have hB3 := below_then hB2 hB2.size hb3
  clear c0 c1
  have c0 := x3.c0
  have c1 := x3.c1
  go_wp2_with fail
  refine (Ready_out n A len cap ns hlen hG _ (hE.below hB3) set hset hin).mono ?_
  rintro e w4 ⟨rfl, hb4⟩
  have x4 := x3.below hb4
  have hB4 := below_then hB3 hB3.size hb4
  clear c0 c1
  have c0 := x4.c0
  have c1 := x4.c1
  go_wp2_with fail
  refine (plain_any n A len cap _).mono ?_
  rintro e w5 ⟨rfl, hb5⟩
  have x5 := x4.below hb5
  have hB5 := below_then hB4 hB4.size hb5
  clear c0 c1
  have xa := x5.alloc (Obj.cells #[Value.int IntKind.i64 n, Value.slice A len cap] 31)
  have ya := GBox.new w5 31 n A len cap
  have hBa := below_alloc hB5 (Obj.cells #[Value.int IntKind.i64 n, Value.slice A len cap] 31)
  obtain ⟨wa, hwa⟩ : ∃ wa, wa = w5.alloc (Obj.cells #[Value.int IntKind.i64 n, Value.slice A len cap] 31) := ⟨_, rfl⟩
  rw [← hwa] at xa ya hBa
  have HWA := Lib.hid hwa
  clear hwa
  have c0 := xa.c0
  have c1 := xa.c1
  have p0 := ya.c0
  have p1 := ya.c1
  go_wp2_with fail
  rw [← HWA.out]
  refine (right_is true n A len cap (castE ns) hlen' hr _ (hE.below hBa).ints).mono ?_
  rintro e w6 ⟨rfl, hb6⟩
  have x6 := xa.below hb6
  have y6 := ya.below hb6
  have hB6 := below_then hBa hBa.size hb6
  clear c0 c1 p0 p1
  have c0 := x6.c0
  have c1 := x6.c1
  have p0 := y6.c0
  have p1 := y6.c1
  go_wp2
  go_ret
  exact ⟨rfl, hB6⟩

set_option maxRecDepth 100000 in
set_option maxHeartbeats 1000000 in
theorem sets_law_right_in (n : Nat) (A : Option Addr) (len cap set : Nat) (ns : List (Nat × Nat)) (hset : Hid (set < 2 ^ 64)) (hlen : Hid (len = ns.length)) (hG : GOk n ns) (hin : ¬ n < Lib.bitLen set) (w : World) (hE : NRow w A ns) (hT : Tab w) (hs : Hid (smallB n (castE ns) = true)) (hr : Hid (rightB n (castE ns) = true)) :
    Calls Tryd.prog 6 #[.agg #[.int .i64 n, .slice A len cap], .int .u64 set] w (Ret (.bool true) w) := by
  have h1 : n ≤ 64 := hG.hn
  have hlen' : Hid (len = (castE ns).length) := Lib.hid (by rw [castE_length]; exact hlen.out)
  have hn20 := (small_n hs.out hr.out).1
  have hsn : set < 2 ^ n := (bitLen_le hset.out n).1 (by omega)
  have HSN := Lib.hid hsn
  have t0 := shift_in hsn
  clear hsn
  go_enter Tryd.func6, Tryd.ntmps6
  go_wp2_with fail
  refine (anchor_any _ (hT.below (below_alloc (Below.refl _ _) _))).mono ?_
  rintro e w1 ⟨rfl, hb1⟩
  have x1 : GBox w1 w.heap.size n A len cap := (GBox.new w 24 n A len cap).below hb1
  have hB1 : Below w.heap.size w w1 := below_new (by simpa using hb1)
  have c0 := x1.c0
  have c1 := x1.c1
  clear hb1
  go_wp2_with fail
  refine (small_is true n A len cap (castE ns) hlen' hs _ (hE.below hB1).ints).mono ?_
  rintro e w2 ⟨rfl, hb2⟩
  have x2 := x1.below hb2
  have hB2 := below_then hB1 hB1.size hb2
  clear c0 c1
  have c0 := x2.c0
  have c1 := x2.c1
  go_wp2_with fail
  refine (closed_in n A len cap ns hlen hG _ (hE.below hB2) set hset hin).mono ?_
  rintro e w3 ⟨rfl, hb3⟩
  have x3 := x2.below hb3
  have hB3 := below_then hB2 hB2.size hb3
  clear c0 c1
  have c0 := x3.c0
  have c1 := x3.c1
  go_wp2_with fail
  refine (Ready_in n A len cap ns hlen hG _ (hE.below hB3) set hset hin).mono ?_
  rintro e w4 ⟨rfl, hb4⟩
  have x4 := x3.below hb4
  have hB4 := below_then hB3 hB3.size hb4
  clear c0 c1
  have c0 := x4.c0
  have c1 := x4.c1
  go_wp2_with fail
  refine (plain_any n A len cap _).mono ?_
  rintro e w5 ⟨rfl, hb5⟩
  have x5 := x4.below hb5
  have hB5 := below_then hB4 hB4.size hb5
  clear c0 c1
  have xa := x5.alloc (Obj.cells #[Value.int IntKind.i64 n, Value.slice A len cap] 31)
  have ya := GBox.new w5 31 n A len cap
  have hBa := below_alloc hB5 (Obj.cells #[Value.int IntKind.i64 n, Value.slice A len cap] 31)
  obtain ⟨wa, hwa⟩ : ∃ wa, wa = w5.alloc (Obj.cells #[Value.int IntKind.i64 n, Value.slice A len cap] 31) := ⟨_, rfl⟩
  rw [← hwa] at xa ya hBa
  have HWA := Lib.hid hwa
  clear hwa
  have c0 := xa.c0
  have c1 := xa.c1
  have p0 := ya.c0
  have p1 := ya.c1
  go_wp2_with fail
  rw [← HWA.out]
  refine (right_is true n A len cap (castE ns) hlen' hr _ (hE.below hBa).ints).mono ?_
  rintro e w6 ⟨rfl, hb6⟩
  have x6 := xa.below hb6
  have y6 := ya.below hb6
  have hB6 := below_then hBa hBa.size hb6
  clear c0 c1 p0 p1
  have c0 := x6.c0
  have c1 := x6.c1
  have p0 := y6.c0
  have p1 := y6.c1
  have HCR := Lib.hid (closedR_eq hG hset.out)
  obtain ⟨c, hc⟩ : ∃ c, closedB n ns set = c := ⟨_, rfl⟩
  obtain ⟨r, hrr⟩ : ∃ r, readyF n ns set = r := ⟨_, rfl⟩
  rw [hc] at HCR ⊢
  rw [hrr]
  have HC := Lib.hid hc
  have HRR := Lib.hid hrr
  clear hc hrr
  go_wp2_with fail
  refine (closedR_any n A len cap ns hlen hG _ (hE.below hB6) set).mono ?_
  rintro e w7 ⟨rfl, hb7⟩
  have x7 := x6.below hb7
  have y7 := y6.below hb7
  have hB7 := below_then hB6 hB6.size hb7
  clear c0 c1 p0 p1
  have c0 := x7.c0
  have c1 := x7.c1
  have p0 := y7.c0
  have p1 := y7.c1
  rw [HCR.out]
  have HSet := hset.out
  have hr64 : r < 2 ^ 64 := HRR.out ▸ readyF_lt ns set h1
  have hrn : r < 2 ^ n := HRR.out ▸ setOf_lt _ n
  have t2 := shift_in hrn
  clear hrn
  go_wp2
  clear c0 c1 p0 p1
  go_loopg [10] n (fun g s wr => ∃ i : Nat, i ≤ n ∧ g = n - i ∧ s = .int .i64 i ∧ Below w7.heap.size w7 wr)
  case atStart => exact ⟨0, by omega, rfl, rfl, Below.refl _ _⟩
  case round =>
    obtain ⟨i, hi, rfl, rfl, hb⟩ := hrel
    have x8 := x7.below hb
    have y8 := y7.below hb
    have hB8 := below_then hB7 hB7.size hb
    have c0 := x8.c0
    have c1 := x8.c1
    have p0 := y8.c0
    have p1 := y8.c1
    by_cases hlt : i < n
    · have hi64 : i < 64 := by omega
      have hz0 : readyR ns set i = r.testBit i := by rw [← HRR.out, readyF_bit, readyR_eq hG HSet]; simp [hlt]
      obtain ⟨z, hz⟩ : ∃ z, r.testBit i = z := ⟨_, rfl⟩
      rw [hz] at hz0
      have hcall : ∀ W, NRow W A ns → Calls Tryd.prog 24 #[.agg #[.int .i64 n, .slice A len cap], .int .u64 set, .int .i64 i] W (Ret (.bool z) W) := fun W hW => hz0 ▸ readyR_any n A len cap ns hlen hG W hW set i hi64
      have hin2 : ∀ W, Calls Tryd.prog 20 #[.int .u64 r, .int .i64 i] W fun e w' => e = .returned (.bool z) ∧ W = w' := fun W => hz ▸ in_any r i hi64 W
      have HCall := Lib.hid hcall
      have HIn := Lib.hid hin2
      have hv := or_pow HSet hi64
      have hp : set ||| 2 ^ i < 2 ^ n := Nat.or_lt_two_pow HSN.out (Nat.pow_lt_pow_right (by omega) hlt)
      have hp64 := lt64 hp h1
      obtain ⟨d, hd⟩ : ∃ d, closedB n ns (set ||| 2 ^ i) = d := ⟨_, rfl⟩
      have hcl : ∀ W, NRow W A ns → Calls Tryd.prog 21 #[.agg #[.int .i64 n, .slice A len cap], .int .u64 (bits .or .u64 (set : Int) (IntKind.u64.wrap (2 ^ i)))] W (Ret (.tuple #[.bool d, .int .i64 0]) W) := fun W hW => by
        rw [hv, ← hd]
        exact closed_in n A len cap ns hlen hG W hW _ (Lib.hid hp64) (by have := (bitLen_le hp64 n).2 hp; omega)
      have HD : Hid (c = true → z = true → d = true) := Lib.hid (fun h5 h6 => by
        have h7 : readyB ns set i = true := by rw [← readyR_eq hG HSet, hz0]; exact h6
        have h8 := (closedB_iff hG HSet).1 (HC.out.trans h5)
        rw [← hd]
        exact (closedB_iff hG hp64).2 (h8.add hG HSet h7))
      have HCl := Lib.hid hcl
      clear hcall hin2 hcl hd hp hp64 hv hz0 hz
      go_wp2
      go_region_with (first
        | (go_at_call 20; refine (HIn.out _).mono ?_; rintro e w9 ⟨rfl, rfl⟩)
        | (go_at_call 24; refine (HCall.out _ (hE.below (below_drewN hB8 _))).mono ?_; rintro e w9 ⟨rfl, hb9⟩))
      all_goals
        have x9 := (x8.drewN 1).below hb9
        have hB9 := below_then (below_drewN hB8 1) hB8.size hb9
        have hb79 := below_then (below_drewN hb 1) hb.size hb9
        clear c0 c1 p0 p1
        have c0 := x9.c0
        have c1 := x9.c1
        go_wp2
        go_region_with (go_at_call 21; refine (HCl.out _ (hE.below (below_drewN hB9 _))).mono ?_; rintro e w10 ⟨rfl, hb10⟩)
      all_goals
        have hbx : Below w7.heap.size w7 w10 := below_then (below_drewN hb79 _) hb79.size hb10
        clear c0 c1
        cases c
        · go_wp2
          go_roundg (n - (i + 1))
          case measure => omega
          case rel => exact ⟨i + 1, by omega, rfl, by go_num, hbx⟩
        · cases z
          · go_wp2_with fail
            refine (HIn.out _).mono ?_
            rintro e w11 ⟨rfl, rfl⟩
            go_wp2
            go_roundg (n - (i + 1))
            case measure => omega
            case rel => exact ⟨i + 1, by omega, rfl, by go_num, hbx⟩
          · obtain rfl : d = true := HD.out rfl rfl
            go_wp2_with fail
            refine (HIn.out _).mono ?_
            rintro e w11 ⟨rfl, rfl⟩
            go_wp2
            go_roundg (n - (i + 1))
            case measure => omega
            case rel => exact ⟨i + 1, by omega, rfl, by go_num, hbx⟩
    · obtain rfl : i = n := by omega
      go_wp2
      go_ret
      exact ⟨rfl, hB8⟩

theorem sets_law (N : Int) (A : Option Addr) (len cap set : Nat) (es : List (Int × Int)) (hset : Hid (set < 2 ^ 64)) (hlen : Hid (len = es.length)) (w : World) (hE : ERow w A es) (hT : Tab w) :
    Calls Tryd.prog 6 #[.agg #[.int .i64 N, .slice A len cap], .int .u64 set] w (Ret (.bool true) w) := by
  cases hs : smallB N es
  · exact sets_law_big N A len cap set es hlen w hE hT (Lib.hid hs)
  · cases hr : rightB N es
    · exact sets_law_wrong N A len cap set es hlen w hE hT (Lib.hid hs) (Lib.hid hr)
    · obtain ⟨n, ns, rfl, rfl, hG⟩ := right_nat hr
      by_cases hin : n < Lib.bitLen set
      · exact sets_law_right_out n A len cap set ns hset (Lib.hid (by rw [← castE_length]; exact hlen.out)) hG hin w (NRow.of_ints hE) hT (Lib.hid hs) (Lib.hid hr)
      · exact sets_law_right_in n A len cap set ns hset (Lib.hid (by rw [← castE_length]; exact hlen.out)) hG hin w (NRow.of_ints hE) hT (Lib.hid hs) (Lib.hid hr)
theorem nat_of_u64 {x : Int} (h : (Lit.int .u64 x).wf = true) : ∃ s : Nat, x = s ∧ s < 2 ^ 64 := by
  simp only [Lit.wf, Bool.and_eq_true, decide_eq_true_eq] at h
  obtain ⟨h1, h2⟩ := h
  rw [show IntKind.u64.min = 0 by rfl] at h1
  rw [show IntKind.u64.max = 18446744073709551615 by rfl] at h2
  exact ⟨x.toNat, by omega, by omega⟩
theorem sets_law_int (N : Int) (A : Option Addr) (len cap : Nat) (es : List (Int × Int)) (x : Int) (hx : (Lit.int .u64 x).wf = true) (hlen : Hid (len = es.length)) (w : World) (hE : ERow w A es) (hT : Tab w) :
    Calls Tryd.prog 6 #[.agg #[.int .i64 N, .slice A len cap], .int .u64 x] w (Ret (.bool true) w) := by
  obtain ⟨s, rfl, hs⟩ := nat_of_u64 hx
  exact sets_law N A len cap s es (Lib.hid hs) hlen w hE hT
end Go.Proofs.YtpdhggfmkmiebaaDoor
