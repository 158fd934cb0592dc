/- The contracts of digraph's ready, inside, Closed and Ready. -/
import Derived.Test.YtpdhggfmkmiebaaDoorB
import Derived.Test.YtpdhggfmkmiebaaDoorBits
import Derived.Test.YtpdhggfmkmiebaaDoorLib
namespace Go.Proofs.YtpdhggfmkmiebaaDoor
open Go.RowKit

/-- may node i come next behind a set? -/
def readyB (ns : List (Nat × Nat)) (set i : Nat) : Bool := !set.testBit i && subB (aheadF ns i) set
def readyF (n : Nat) (ns : List (Nat × Nat)) (set : Nat) : Nat := setOf (readyB ns set) n

theorem readyF_lt {n : Nat} (ns : List (Nat × Nat)) (set : Nat) (hn : n ≤ 64) : readyF n ns set < 2 ^ 64 := lt64 (setOf_lt _ n) hn
theorem setOf_yes {p : Nat → Bool} {k : Nat} (h : p k = true) : setOf p (k + 1) = setOf p k ||| 2 ^ k := by simp [setOf, h]
theorem setOf_no {p : Nat → Bool} {k : Nat} (h : p k = false) : setOf p (k + 1) = setOf p k := by simp [setOf, h]

set_option maxRecDepth 100000 in
theorem ready_walk (n : Nat) (A : Option Addr) (len cap : Nat) (ns : List (Nat × Nat)) (hlen : Hid (len = ns.length)) (hG : GOk n ns) (w : World) (hE : NRow w A ns) (set : Nat) (hset : Hid (set < 2 ^ 64)) :
    Calls Tryd.prog 34 #[.agg #[.int .i64 n, .slice A len cap], .int .u64 set] w (Ret (.int .u64 (readyF n ns set)) w) := by
  have h1 : n ≤ 64 := hG.hn
  have h2 : len ≤ 4096 := by rw [hlen.out]; exact hG.hl
  go_enter Tryd.func34, Tryd.ntmps34
  go_wp2_with fail
  refine (ahead_walk n A len cap ns hlen hG _ (hE.below (below_alloc (Below.refl _ _) _))).mono ?_
  rintro e w1 ⟨b, rfl, hb1, hrow, hb2⟩
  simp only [World.size_alloc] at hb1 hb2
  have hB := below_new hb2
  have HR := Lib.hid hrow
  clear hrow hb1 hb2
  go_wp2
  go_loopg [5, 11] n (fun g s i wr => wr = w1 ∧ ∃ k : Nat, k ≤ n ∧ g = n - k ∧ i = .int .i64 k ∧ s = .int .u64 (setOf (readyB ns set) k : Nat))
  case atStart => exact ⟨rfl, 0, by omega, rfl, rfl, rfl⟩
  case round =>
    obtain ⟨rfl, k, hk, rfl, rfl, rfl⟩ := hrel
    by_cases hlt : k < n
    · have d1 : wr.cell? ⟨b, k, none⟩ = some (.int .u64 (aheadF ns k : Nat)) := HR.out.cell hlt
      have hA64 : aheadF ns k < 2 ^ 64 := lt64 (aheadF_lt (fun e he => (hG.mem he).1) k) h1
      have HV := Lib.hid (or_pow (s := setOf (readyB ns set) k) (lt64 (setOf_lt _ k) (by omega)) (show k < 64 by omega))
      have t2 := andNot_sub hA64 hset.out
      clear hA64
      cases hq : set.testBit k
      · have t1 := bit_false hset.out hq
        cases hs : subB (aheadF ns k) set
        · rw [hs] at t2
          have HN := Lib.hid (setOf_no (p := readyB ns set) (k := k) (by simp [readyB, hq, hs]))
          clear hq hs
          go_wp2
          go_roundg (n - (k + 1))
          case measure => omega
          case rel => exact ⟨rfl, k + 1, by omega, rfl, by go_num, by rw [HN.out]⟩
        · rw [hs] at t2
          have HN := Lib.hid (setOf_yes (p := readyB ns set) (k := k) (by simp [readyB, hq, hs]))
          clear hq hs
          go_wp2
          go_roundg (n - (k + 1))
          case measure => omega
          case rel => exact ⟨rfl, k + 1, by omega, rfl, by go_num, by rw [HN.out, HV.out]⟩
      · have t1 := bit_true hset.out hq
        have HN := Lib.hid (setOf_no (p := readyB ns set) (k := k) (by simp [readyB, hq]))
        clear hq t2
        go_wp2
        go_roundg (n - (k + 1))
        case measure => omega
        case rel => exact ⟨rfl, k + 1, by omega, rfl, by go_num, by rw [HN.out]⟩
    · obtain rfl : k = n := by omega
      go_wp2
      go_ret
      exact ⟨rfl, hB⟩

/-! ### inside -/
theorem checkV_wrong {N : Int} {es : List (Int × Int)} (h : rightB N es = false) : checkV N es = 20 := by simp [checkV, h]
theorem check_wrong (N : Int) (A : Option Addr) (len cap : Nat) (es : List (Int × Int)) (hlen : Hid (len = es.length)) (hbad : Hid (rightB N es = false)) (w : World) (hE : ERow w A es) :
    Calls Tryd.prog 27 #[.agg #[.int .i64 N, .slice A len cap]] w (Ret (.int .i64 20) w) := by
  have := check_any N A len cap es hlen w hE
  rwa [checkV_wrong hbad.out] at this

set_option maxRecDepth 100000 in
theorem inside_wrong (N : Int) (A : Option Addr) (len cap : Nat) (es : List (Int × Int)) (hlen : Hid (len = es.length)) (hbad : Hid (rightB N es = false)) (w : World) (hE : ERow w A es) (set : Nat) :
    Calls Tryd.prog 32 #[.agg #[.int .i64 N, .slice A len cap], .int .u64 set] w (Ret (.int .i64 20) w) := by
  go_enter Tryd.func32, Tryd.ntmps32
  go_wp2_with fail
  refine (check_wrong N A len cap es hlen hbad _ (hE.below (below_alloc (Below.refl _ _) _))).mono ?_
  rintro e w1 ⟨rfl, hb2⟩
  simp only [World.size_alloc] at hb2
  have hB := below_new hb2
  go_wp2_with fail
  go_quiet (fail)
  go_wp2
  go_ret
  exact ⟨rfl, below_drewN hB _⟩

set_option maxRecDepth 100000 in
theorem inside_in (n : Nat) (A : Option Addr) (len cap : Nat) (ns : List (Nat × Nat)) (hlen : Hid (len = ns.length)) (hG : GOk n ns) (w : World) (hE : NRow w A ns) (set : Nat) (hset : Hid (set < 2 ^ 64))
    (hin : ¬ n < Lib.bitLen set) :
    Calls Tryd.prog 32 #[.agg #[.int .i64 n, .slice A len cap], .int .u64 set] w (Ret (.int .i64 0) w) := by
  go_enter Tryd.func32, Tryd.ntmps32
  go_wp2_with fail
  refine (check_ok n A len cap ns hlen hG _ (hE.below (below_alloc (Below.refl _ _) _))).mono ?_
  rintro e w1 ⟨rfl, hb2⟩
  simp only [World.size_alloc] at hb2
  have hB := below_new hb2
  have d3 : w1.cell? ⟨w.heap.size, 0, none⟩ = some (.int .i64 n) := (hb2.cell (show w.heap.size < w.heap.size + 1 by omega)).trans (World.cell?_alloc_at _ _ _ _ rfl)
  go_wp2_with fail
  go_quiet ((go_at_call 36; exact Calls.quiet_of_same ((len64 set hset.out _).mono fun _ _ ⟨a, b⟩ => ⟨a, b.symm⟩)))
  go_wp2
  go_ret
  exact ⟨rfl, below_drewN hB _⟩

set_option maxRecDepth 100000 in
theorem inside_out (n : Nat) (A : Option Addr) (len cap : Nat) (ns : List (Nat × Nat)) (hlen : Hid (len = ns.length)) (hG : GOk n ns) (w : World) (hE : NRow w A ns) (set : Nat) (hset : Hid (set < 2 ^ 64))
    (hin : n < Lib.bitLen set) :
    Calls Tryd.prog 32 #[.agg #[.int .i64 n, .slice A len cap], .int .u64 set] w (Ret (.int .i64 20) w) := by
  go_enter Tryd.func32, Tryd.ntmps32
  go_wp2_with fail
  refine (check_ok n A len cap ns hlen hG _ (hE.below (below_alloc (Below.refl _ _) _))).mono ?_
  rintro e w1 ⟨rfl, hb2⟩
  simp only [World.size_alloc] at hb2
  have hB := below_new hb2
  have d3 : w1.cell? ⟨w.heap.size, 0, none⟩ = some (.int .i64 n) := (hb2.cell (show w.heap.size < w.heap.size + 1 by omega)).trans (World.cell?_alloc_at _ _ _ _ rfl)
  go_wp2_with fail
  go_quiet ((go_at_call 36; exact Calls.quiet_of_same ((len64 set hset.out _).mono fun _ _ ⟨a, b⟩ => ⟨a, b.symm⟩)))
  go_wp2
  go_ret
  exact ⟨rfl, below_drewN hB _⟩


/-! ### Closed -/
def closedAt (ns : List (Nat × Nat)) (set i : Nat) : Bool := !set.testBit i || subB (aheadF ns i) set
/-- is a set closed? -/
def closedB (n : Nat) (ns : List (Nat × Nat)) (set : Nat) : Bool := allB (closedAt ns set) n

set_option maxRecDepth 100000 in
theorem closed_wrong (N : Int) (A : Option Addr) (len cap : Nat) (es : List (Int × Int)) (hlen : Hid (len = es.length)) (hbad : Hid (rightB N es = false)) (w : World) (hE : ERow w A es) (set : Nat) :
    Calls Tryd.prog 21 #[.agg #[.int .i64 N, .slice A len cap], .int .u64 set] w (Ret (.tuple #[.bool false, .int .i64 20]) w) := by
  go_enter Tryd.func21, Tryd.ntmps21
  go_wp2_with fail
  refine (inside_wrong N A len cap es hlen hbad _ (hE.below (below_alloc (Below.refl _ _) _)) _).mono ?_
  rintro e w1 ⟨rfl, hb2⟩
  simp only [World.size_alloc] at hb2
  have hB := below_new hb2
  go_wp2
  go_ret2
  exact ⟨rfl, hB⟩
set_option maxRecDepth 100000 in
theorem closed_out (n : Nat) (A : Option Addr) (len cap : Nat) (ns : List (Nat × Nat)) (hlen : Hid (len = ns.length)) (hG : GOk n ns) (w : World) (hE : NRow w A ns) (set : Nat) (hset : Hid (set < 2 ^ 64))
    (hin : n < Lib.bitLen set) :
    Calls Tryd.prog 21 #[.agg #[.int .i64 n, .slice A len cap], .int .u64 set] w (Ret (.tuple #[.bool false, .int .i64 20]) w) := by
  go_enter Tryd.func21, Tryd.ntmps21
  go_wp2_with fail
  refine (inside_out n A len cap ns hlen hG _ (hE.below (below_alloc (Below.refl _ _) _)) _ hset hin).mono ?_
  rintro e w1 ⟨rfl, hb2⟩
  simp only [World.size_alloc] at hb2
  have hB := below_new hb2
  go_wp2
  go_ret2
  exact ⟨rfl, hB⟩
set_option maxRecDepth 100000 in
theorem closed_in (n : Nat) (A : Option Addr) (len cap : Nat) (ns : List (Nat × Nat)) (hlen : Hid (len = ns.length)) (hG : GOk n ns) (w : World) (hE : NRow w A ns) (set : Nat) (hset : Hid (set < 2 ^ 64))
    (hin : ¬ n < Lib.bitLen set) :
    Calls Tryd.prog 21 #[.agg #[.int .i64 n, .slice A len cap], .int .u64 set] w (Ret (.tuple #[.bool (closedB n ns set), .int .i64 0]) w) := by
  have h1 : n ≤ 64 := hG.hn
  go_enter Tryd.func21, Tryd.ntmps21
  go_wp2_with fail
  refine (inside_in n A len cap ns hlen hG _ (hE.below (below_alloc (Below.refl _ _) _)) _ hset hin).mono ?_
  rintro e w1 ⟨rfl, hb2⟩
  simp only [World.size_alloc] at hb2
  have hB := below_new hb2
  have d0 : w1.cell? ⟨w.heap.size, 0, none⟩ = some (.int .i64 n) := (hb2.cell (show w.heap.size < w.heap.size + 1 by omega)).trans (World.cell?_alloc_at _ _ _ _ rfl)
  have d1 : w1.cell? ⟨w.heap.size, 1, none⟩ = some (.slice A len cap) := (hb2.cell (show w.heap.size < w.heap.size + 1 by omega)).trans (World.cell?_alloc_at _ _ _ _ rfl)
  go_wp2_with fail
  refine (ahead_walk n A len cap ns hlen hG _ (hE.below hB)).mono ?_
  rintro e w2 ⟨b, rfl, hb3, hrow, hb4⟩
  have hB2 := below_then hB hB.size hb4
  have HR := Lib.hid hrow
  clear hrow hb3 hb4 hb2 hB d0 d1
  go_wp2
  go_loopg [18] n (fun g i wr => wr = w2 ∧ ∃ k : Nat, k ≤ n ∧ g = n - k ∧ i = .int .i64 k ∧ allB (closedAt ns set) k = true)
  case atStart => exact ⟨rfl, 0, by omega, rfl, rfl, rfl⟩
  case round =>
    obtain ⟨rfl, k, hk, rfl, rfl, hall⟩ := hrel
    have HL := Lib.hid hall
    clear hall
    by_cases hlt : k < n
    · have d1 : wr.cell? ⟨b, k, none⟩ = some (.int .u64 (aheadF ns k : Nat)) := HR.out.cell hlt
      have hA64 : aheadF ns k < 2 ^ 64 := lt64 (aheadF_lt (fun e he => (hG.mem he).1) k) h1
      have t2 := andNot_sub hA64 hset.out
      clear hA64
      cases hq : set.testBit k
      · have t1 := bit_false hset.out hq
        have HN : Hid (allB (closedAt ns set) (k + 1) = true) := Lib.hid (by simp [allB, HL.out, closedAt, hq])
        clear hq t2
        go_wp2
        go_roundg (n - (k + 1))
        case measure => omega
        case rel => exact ⟨rfl, k + 1, by omega, rfl, by go_num, HN.out⟩
      · have t1 := bit_true hset.out hq
        cases hs : subB (aheadF ns k) set
        · rw [hs] at t2
          have t3 : (bits .andNot .u64 ((aheadF ns k : Nat) : Int) (set : Int) != 0) = true := by rw [bne, t2]; rfl
          have HN : Hid (closedB n ns set = false) := Lib.hid (allB_no hlt (by simp [closedAt, hq, hs]))
          clear hq hs
          go_wp2
          go_ret2
          exact ⟨by rw [HN.out]; rfl, hB2⟩
        · rw [hs] at t2
          have t3 : (bits .andNot .u64 ((aheadF ns k : Nat) : Int) (set : Int) != 0) = false := by rw [bne, t2]; rfl
          have HN : Hid (allB (closedAt ns set) (k + 1) = true) := Lib.hid (by simp [allB, HL.out, closedAt, hs])
          clear hq hs
          go_wp2
          go_roundg (n - (k + 1))
          case measure => omega
          case rel => exact ⟨rfl, k + 1, by omega, rfl, by go_num, HN.out⟩
    · obtain rfl : k = n := by omega
      go_wp2
      go_ret2
      exact ⟨by rw [closedB, HL.out]; rfl, hB2⟩

/-! ### Ready -/
set_option maxRecDepth 100000 in
theorem Ready_wrong (N : Int) (A : Option Addr) (len cap : Nat) (es : List (Int × Int)) (hlen : Hid (len = es.length)) (hbad : Hid (rightB N es = false)) (w : World) (hE : ERow w A es) (set : Nat) :
    Calls Tryd.prog 22 #[.agg #[.int .i64 N, .slice A len cap], .int .u64 set] w (Ret (.tuple #[.int .u64 0, .int .i64 20]) w) := by
  go_enter Tryd.func22, Tryd.ntmps22
  go_wp2_with fail
  refine (inside_wrong N A len cap es hlen hbad _ (hE.below (below_alloc (Below.refl _ _) _)) _).mono ?_
  rintro e w1 ⟨rfl, hb2⟩
  simp only [World.size_alloc] at hb2
  have hB := below_new hb2
  go_wp2
  go_ret2
  exact ⟨rfl, hB⟩
set_option maxRecDepth 100000 in
theorem Ready_out (n : Nat) (A : Option Addr) (len cap : Nat) (ns : List (Nat × Nat)) (hlen : Hid (len = ns.length)) (hG : GOk n ns) (w : World) (hE : NRow w A ns) (set : Nat) (hset : Hid (set < 2 ^ 64))
    (hin : n < Lib.bitLen set) :
    Calls Tryd.prog 22 #[.agg #[.int .i64 n, .slice A len cap], .int .u64 set] w (Ret (.tuple #[.int .u64 0, .int .i64 20]) w) := by
  go_enter Tryd.func22, Tryd.ntmps22
  go_wp2_with fail
  refine (inside_out n A len cap ns hlen hG _ (hE.below (below_alloc (Below.refl _ _) _)) _ hset hin).mono ?_
  rintro e w1 ⟨rfl, hb2⟩
  simp only [World.size_alloc] at hb2
  have hB := below_new hb2
  go_wp2
  go_ret2
  exact ⟨rfl, hB⟩
set_option maxRecDepth 100000 in
theorem Ready_in (n : Nat) (A : Option Addr) (len cap : Nat) (ns : List (Nat × Nat)) (hlen : Hid (len = ns.length)) (hG : GOk n ns) (w : World) (hE : NRow w A ns) (set : Nat) (hset : Hid (set < 2 ^ 64))
    (hin : ¬ n < Lib.bitLen set) :
    Calls Tryd.prog 22 #[.agg #[.int .i64 n, .slice A len cap], .int .u64 set] w (Ret (.tuple #[.int .u64 (readyF n ns set), .int .i64 0]) w) := by
  go_enter Tryd.func22, Tryd.ntmps22
  go_wp2_with fail
  refine (inside_in n A len cap ns hlen hG _ (hE.below (below_alloc (Below.refl _ _) _)) _ hset hin).mono ?_
  rintro e w1 ⟨rfl, hb2⟩
  simp only [World.size_alloc] at hb2
  have hB := below_new hb2
  have d0 : w1.cell? ⟨w.heap.size, 0, none⟩ = some (.int .i64 n) := (hb2.cell (show w.heap.size < w.heap.size + 1 by omega)).trans (World.cell?_alloc_at _ _ _ _ rfl)
  have d1 : w1.cell? ⟨w.heap.size, 1, none⟩ = some (.slice A len cap) := (hb2.cell (show w.heap.size < w.heap.size + 1 by omega)).trans (World.cell?_alloc_at _ _ _ _ rfl)
  go_wp2_with fail
  refine (ready_walk n A len cap ns hlen hG _ (hE.below hB) set hset).mono ?_
  rintro e w2 ⟨rfl, hb4⟩
  have hB2 := below_then hB hB.size hb4
  go_wp2
  go_ret2
  exact ⟨rfl, hB2⟩

end Go.Proofs.YtpdhggfmkmiebaaDoor
