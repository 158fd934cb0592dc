/- The walk of the statement DigraphPrefixes: it answers true for every graph. -/
import Derived.Test.YtpdhggfmkmiebaaDoorLw0
namespace Go.Proofs.YtpdhggfmkmiebaaDoor
open Go.RowKit

theorem closed_yes (n : Nat) (A : Option Addr) (len cap : Nat) (ns : List (Nat × Nat)) (hlen : Hid (len = ns.length)) (hG : GOk n ns) (w : World) (hE : NRow w A ns) (set : Nat) (hset : Hid (set < 2 ^ n)) (hc : Hid (Shut ns set)) :
    Calls Tryd.prog 21 #[.agg #[.int .i64 n, .slice A len cap], .int .u64 set] w (Ret (.tuple #[.bool true, .int .i64 0]) w) := by
  have h64 := lt64 hset.out hG.hn
  have hcb : closedB n ns set = true := (allB_iff _ n).2 fun i hi => by
    unfold closedAt
    cases hb : set.testBit i
    · rfl
    · rw [(subB_iff (lt64 (aheadF_lt (fun e he => (hG.mem he).1) i) hG.hn) h64).2 (fun x hx => hc.out i hb x ((aheadF_bit ns x i).1 hx))]
      rfl
  have := closed_in n A len cap ns hlen hG w hE set (Lib.hid h64) (by have := (bitLen_le h64 n).2 hset.out; omega)
  rwa [hcb] at this
theorem Ready_yes (n : Nat) (A : Option Addr) (len cap : Nat) (ns : List (Nat × Nat)) (hlen : Hid (len = ns.length)) (hG : GOk n ns) (w : World) (hE : NRow w A ns) (set : Nat) (hset : Hid (set < 2 ^ n)) :
    Calls Tryd.prog 22 #[.agg #[.int .i64 n, .slice A len cap], .int .u64 set] w (Ret (.tuple #[.int .u64 (readyF n ns set), .int .i64 0]) w) := by
  have h64 := lt64 hset.out hG.hn
  exact Ready_in n A len cap ns hlen hG w hE set (Lib.hid h64) (by have := (bitLen_le h64 n).2 hset.out; omega)
theorem low_none {r i : Nat} (hr : r < 2 ^ 64) (hi : i < 64) (h : ∀ j, j < i → r.testBit j = false) : (bits .and .u64 (r : Int) (IntKind.u64.wrap (IntKind.u64.wrap (2 ^ i) - 1)) != 0) = false := by
  have hp : 2 ^ i < 2 ^ 64 := Nat.pow_lt_pow_right (by omega) hi
  have h0 : 0 < 2 ^ i := Nat.two_pow_pos i
  have e1 : IntKind.u64.wrap (2 ^ i) = ((2 ^ i : Nat) : Int) := wrap_pow hi
  have e2 : IntKind.u64.wrap (((2 ^ i : Nat) : Int) - 1) = ((2 ^ i - 1 : Nat) : Int) := by
    rw [IntKind.wrap_u64]
    generalize 2 ^ i = m at *
    omega
  have e3 : r &&& (2 ^ i - 1) = 0 := by
    apply Nat.eq_of_testBit_eq
    intro j
    rw [Nat.testBit_and, Nat.testBit_two_pow_sub_one, Nat.zero_testBit]
    by_cases hj : j < i
    · rw [h j hj]; rfl
    · simp [hj]
  rw [e1, e2, u64_and_nat r (2 ^ i - 1) (by omega) (by omega), e3]
  rfl
set_option maxRecDepth 100000 in
theorem prefixes_law_big (N : Int) (A : Option Addr) (len cap : Nat) (es : List (Int × Int)) (hlen : Hid (len = es.length)) (w : World) (hE : ERow w A es) (hT : Tab w) (hs : Hid (smallB N es = false)) :
    Calls Tryd.prog 7 #[.agg #[.int .i64 N, .slice A len cap]] w (Ret (.bool true) w) := by
  go_enter Tryd.func7, Tryd.ntmps7
  go_wp2_with fail
  refine (anchor_any _ (hT.below (below_alloc (Below.refl _ _) _))).mono ?_
  rintro e w1 ⟨rfl, hb1⟩
  have x1 : GBox w1 w.heap.size N A len cap := (GBox.new w 24 N A len cap).below hb1
  have hB1 : Below w.heap.size w w1 := below_new (by simpa using hb1)
  have c0 := x1.c0
  have c1 := x1.c1
  clear hb1
  go_wp2_with fail
  refine (small_is false N A len cap es hlen hs _ (hE.below hB1)).mono ?_
  rintro e w2 ⟨rfl, hb2⟩
  have x2 := x1.below hb2
  have hB2 := below_then hB1 hB1.size hb2
  clear c0 c1
  have c0 := x2.c0
  have c1 := x2.c1
  go_wp2
  go_ret
  exact ⟨rfl, hB2⟩

set_option maxRecDepth 100000 in
theorem prefixes_law_wrong (N : Int) (A : Option Addr) (len cap : Nat) (es : List (Int × Int)) (hlen : Hid (len = es.length)) (w : World) (hE : ERow w A es) (hT : Tab w) (hs : Hid (smallB N es = true)) (hr : Hid (rightB N es = false)) :
    Calls Tryd.prog 7 #[.agg #[.int .i64 N, .slice A len cap]] w (Ret (.bool true) w) := by
  go_enter Tryd.func7, Tryd.ntmps7
  go_wp2_with fail
  refine (anchor_any _ (hT.below (below_alloc (Below.refl _ _) _))).mono ?_
  rintro e w1 ⟨rfl, hb1⟩
  have x1 : GBox w1 w.heap.size N A len cap := (GBox.new w 24 N A len cap).below hb1
  have hB1 : Below w.heap.size w w1 := below_new (by simpa using hb1)
  have c0 := x1.c0
  have c1 := x1.c1
  clear hb1
  go_wp2_with fail
  refine (small_is true N A len cap es hlen hs _ (hE.below hB1)).mono ?_
  rintro e w2 ⟨rfl, hb2⟩
  have x2 := x1.below hb2
  have hB2 := below_then hB1 hB1.size hb2
  clear c0 c1
  have c0 := x2.c0
  have c1 := x2.c1
  go_wp2_with fail
  refine (order_wrong N A len cap es hlen hr _ (hE.below hB2)).mono ?_
  rintro e w3 ⟨rfl, hb3⟩
  have x3 := x2.below hb3
  have hB3 := below_then hB2 hB2.size hb3
  clear c0 c1
  have c0 := x3.c0
  have c1 := x3.c1
  go_wp2
  go_ret
  exact ⟨rfl, hB3⟩

set_option maxRecDepth 100000 in
set_option maxHeartbeats 1000000 in
theorem prefixes_law_right_circle (n : Nat) (A : Option Addr) (len cap : Nat) (ns : List (Nat × Nat)) (hlen : Hid (len = ns.length)) (hG : GOk n ns) (hA : ¬ Acyclic ns) (w : World) (hE : NRow w A ns) (hT : Tab w) (hs : Hid (smallB n (castE ns) = true)) (_hr : Hid (rightB n (castE ns) = true)) :
    Calls Tryd.prog 7 #[.agg #[.int .i64 n, .slice A len cap]] w (Ret (.bool true) w) := by
  have h1 : n ≤ 64 := hG.hn
  have hlen' : Hid (len = (castE ns).length) := Lib.hid (by rw [castE_length]; exact hlen.out)
  have HA := Lib.hid hA
  clear hA
  go_enter Tryd.func7, Tryd.ntmps7
  go_wp2_with fail
  refine (anchor_any _ (hT.below (below_alloc (Below.refl _ _) _))).mono ?_
  rintro e w1 ⟨rfl, hb1⟩
  have x1 : GBox w1 w.heap.size n A len cap := (GBox.new w 24 n A len cap).below hb1
  have hB1 : Below w.heap.size w w1 := below_new (by simpa using hb1)
  have c0 := x1.c0
  have c1 := x1.c1
  clear hb1
  go_wp2_with fail
  refine (small_is true n A len cap (castE ns) hlen' hs _ (hE.below hB1).ints).mono ?_
  rintro e w2 ⟨rfl, hb2⟩
  have x2 := x1.below hb2
  have hB2 := below_then hB1 hB1.size hb2
  clear c0 c1
  have c0 := x2.c0
  have c1 := x2.c1
  go_wp2_with fail
  refine (order_no n A len cap ns hlen hG HA.out _ (hE.below hB2) (hT.below hB2)).mono ?_
  rintro e w3 ⟨rfl, hb3⟩
  have x3 := x2.below hb3
  have hB3 := below_then hB2 hB2.size hb3
  clear c0 c1
  have c0 := x3.c0
  have c1 := x3.c1
  go_wp2
  go_ret
  exact ⟨rfl, hB3⟩

set_option maxRecDepth 100000 in
set_option maxHeartbeats 1000000 in
theorem prefixes_law_right_plain (n : Nat) (A : Option Addr) (len cap : Nat) (ns : List (Nat × Nat)) (hlen : Hid (len = ns.length)) (hG : GOk n ns) (hA : Acyclic ns) (w : World) (hE : NRow w A ns) (hT : Tab w) (hs : Hid (smallB n (castE ns) = true)) (_hr : Hid (rightB n (castE ns) = true)) :
    Calls Tryd.prog 7 #[.agg #[.int .i64 n, .slice A len cap]] w (Ret (.bool true) w) := by
  have h1 : n ≤ 64 := hG.hn
  have hlen' : Hid (len = (castE ns).length) := Lib.hid (by rw [castE_length]; exact hlen.out)
  have HA := Lib.hid hA
  clear hA
  go_enter Tryd.func7, Tryd.ntmps7
  go_wp2_with fail
  refine (anchor_any _ (hT.below (below_alloc (Below.refl _ _) _))).mono ?_
  rintro e w1 ⟨rfl, hb1⟩
  have x1 : GBox w1 w.heap.size n A len cap := (GBox.new w 24 n A len cap).below hb1
  have hB1 : Below w.heap.size w w1 := below_new (by simpa using hb1)
  have c0 := x1.c0
  have c1 := x1.c1
  clear hb1
  go_wp2_with fail
  refine (small_is true n A len cap (castE ns) hlen' hs _ (hE.below hB1).ints).mono ?_
  rintro e w2 ⟨rfl, hb2⟩
  have x2 := x1.below hb2
  have hB2 := below_then hB1 hB1.size hb2
  clear c0 c1
  have c0 := x2.c0
  have c1 := x2.c1
  go_wp2_with fail
  refine (order_yes n A len cap ns hlen hG HA.out _ (hE.below hB2) (hT.below hB2)).mono ?_
  rintro e w3 ⟨OB, oc, rfl, hI3, hb3⟩
  have x3 := x2.below hb3
  have hB3 := below_then hB2 hB2.size hb3
  clear c0 c1
  have c0 := x3.c0
  have c1 := x3.c1
  have HI3 := Lib.hid hI3
  clear hI3
  have hl := (order_iff hG).2 HA.out
  have hst := orderV_steps n ns
  obtain ⟨l, hl'⟩ : ∃ l, orderV n ns = l := ⟨_, rfl⟩
  rw [hl'] at hl hst HI3
  have HLen := Lib.hid hl
  have HSt := Lib.hid hst
  clear hl hst hl'
  go_wp2
  clear c0 c1
  go_loopg [5, 31] n (fun g s5 s wr => ∃ p : Nat, p ≤ n ∧ g = n - p ∧ s = .int .i64 p ∧ s5 = .int .u64 (setL (l.take p) : Nat) ∧ Below w3.heap.size w3 wr)
  case atStart => exact ⟨0, by omega, rfl, rfl, rfl, Below.refl _ _⟩
  case round =>
    obtain ⟨p, hp, rfl, rfl, rfl, hb⟩ := hrel
    have x4 := x3.below hb
    have hB4 := below_then hB3 hB3.size hb
    have c0 := x4.c0
    have c1 := x4.c1
    obtain ⟨hsh, hslt⟩ := steps_shut hG HSt.out p (by rw [HLen.out]; exact hp)
    obtain ⟨set, hset⟩ : ∃ set, setL (l.take p) = set := ⟨_, rfl⟩
    rw [hset] at hsh hslt ⊢
    have HSet := Lib.hid hset
    have HSh := Lib.hid hsh
    have HSlt := Lib.hid hslt
    clear hset hsh hslt
    by_cases hlt : p < n
    · obtain ⟨hr1, hr2⟩ := HSt.out p (by rw [HLen.out]; exact hlt)
      rw [HSet.out] at hr1 hr2
      obtain ⟨q1, q2, q3⟩ := nextF_spec h1 hr1
      obtain ⟨ob, oo, rfl, d1⟩ := HI3.out.below hb p (by rw [HLen.out]; exact hlt)
      have HTK : Hid (setL (l.take (p + 1)) = set ||| 2 ^ nextF n ns set) := Lib.hid (by rw [take_snoc l 0 (by rw [HLen.out]; exact hlt), hr2, setL_snoc, HSet.out])
      rw [hr2] at d1
      have HL : Hid (∀ j, j < nextF n ns set → (readyF n ns set).testBit j = false) := Lib.hid (fun j hj => by rw [readyF_bit, q3 j hj, Bool.and_false])
      have HB1 : Hid ((readyF n ns set).testBit (nextF n ns set) = true) := Lib.hid (by rw [readyF_bit, q2]; simp [q1])
      obtain ⟨i, hi⟩ : ∃ i, nextF n ns set = i := ⟨_, rfl⟩
      rw [hi] at q1 d1 HTK HL HB1
      have hi64 : i < 64 := by omega
      have HV := Lib.hid (or_pow (lt64 HSlt.out h1) hi64)
      clear hr1 hr2 q2 q3 hi
      go_wp2_with fail
      refine (closed_yes n A len cap ns hlen hG _ (hE.below hB4) set HSlt HSh).mono ?_
      rintro e w5 ⟨rfl, hb5⟩
      have x5 := x4.below hb5
      have hB5 := below_then hB4 hB4.size hb5
      have hb35 := below_then hb hb.size hb5
      clear c0 c1
      have c0 := x5.c0
      have c1 := x5.c1
      go_wp2_with fail
      refine (Ready_yes n A len cap ns hlen hG _ (hE.below hB5) set HSlt).mono ?_
      rintro e w6 ⟨rfl, hb6⟩
      have x6 := x5.below hb6
      have hB6 := below_then hB5 hB5.size hb6
      have hb36 := below_then hb35 (by have := hb.size; have := hb5.size; omega) hb6
      clear c0 c1
      have c0 := x6.c0
      have c1 := x6.c1
      obtain ⟨r, hr⟩ : ∃ r, readyF n ns set = r := ⟨_, rfl⟩
      rw [hr] at HL HB1 ⊢
      have HR := Lib.hid hr
      clear hr
      go_wp2_with fail
      refine (in_yes hi64 HB1.out _).mono ?_
      rintro e w7 ⟨rfl, rfl⟩
      have t0 := low_none (HR.out ▸ readyF_lt ns set h1) hi64 HL.out
      have q1a : ¬ ((i : Int) < 0) := by omega
      have q1b : ¬ (n ≤ i) := by omega
      go_wp2
      go_roundg (n - (p + 1))
      case measure => omega
      case rel => exact ⟨p + 1, by omega, rfl, rfl, by rw [HTK.out, HV.out], hb36⟩
    · have hpn : p = n := by omega
      have hz : readyF n ns set = 0 := by
        have := setL_free hG HSt.out p (by rw [HLen.out]; exact hp)
        rw [HSet.out] at this
        have hf : free set n = 0 := by omega
        apply Nat.eq_of_testBit_eq
        intro j
        rw [readyF_bit, Nat.zero_testBit]
        by_cases hj : j < n
        · rw [show readyB ns set j = false by simp [readyB, free_none hf j hj]]; simp
        · simp [hj]
      have HZ := Lib.hid hz
      clear hz
      go_wp2_with fail
      refine (Ready_yes n A len cap ns hlen hG _ (hE.below hB4) set HSlt).mono ?_
      rintro e w6 ⟨rfl, hb6⟩
      have x6 := x4.below hb6
      have hB6 := below_then hB4 hB4.size hb6
      clear c0 c1
      have c0 := x6.c0
      have c1 := x6.c1
      rw [HZ.out]
      go_wp2
      go_ret
      exact ⟨rfl, hB6⟩

theorem prefixes_law_right (n : Nat) (A : Option Addr) (len cap : Nat) (ns : List (Nat × Nat)) (hlen : Hid (len = ns.length)) (hG : GOk n ns) (w : World) (hE : NRow w A ns) (hT : Tab w) (hs : Hid (smallB n (castE ns) = true)) (hr : Hid (rightB n (castE ns) = true)) :
    Calls Tryd.prog 7 #[.agg #[.int .i64 n, .slice A len cap]] w (Ret (.bool true) w) := by
  by_cases hA : Acyclic ns
  · exact prefixes_law_right_plain n A len cap ns hlen hG hA w hE hT hs hr
  · exact prefixes_law_right_circle n A len cap ns hlen hG hA w hE hT hs hr

theorem prefixes_law (N : Int) (A : Option Addr) (len cap : Nat) (es : List (Int × Int)) (hlen : Hid (len = es.length)) (w : World) (hE : ERow w A es) (hT : Tab w) :
    Calls Tryd.prog 7 #[.agg #[.int .i64 N, .slice A len cap]] w (Ret (.bool true) w) := by
  cases hs : smallB N es
  · exact prefixes_law_big N A len cap es hlen w hE hT (Lib.hid hs)
  · cases hr : rightB N es
    · exact prefixes_law_wrong N A len cap es hlen w hE hT (Lib.hid hs) (Lib.hid hr)
    · obtain ⟨n, ns, rfl, rfl, hG⟩ := right_nat hr
      exact prefixes_law_right n A len cap ns (Lib.hid (by rw [← castE_length]; exact hlen.out)) hG w (NRow.of_ints hE) hT (Lib.hid hs) (Lib.hid hr)
end Go.Proofs.YtpdhggfmkmiebaaDoor
