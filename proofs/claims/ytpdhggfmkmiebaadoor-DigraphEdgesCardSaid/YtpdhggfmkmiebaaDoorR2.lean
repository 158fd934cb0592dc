/- The contracts of small, In, Has, and the document's Closed and Ready. -/
import Derived.Test.YtpdhggfmkmiebaaDoorR1
namespace Go.Proofs.YtpdhggfmkmiebaaDoor
open Go.RowKit

/-- does a play go through with it? -/
def smallB (N : Int) (es : List (Int × Int)) : Bool := decide (es.length ≤ 100) && (decide (N ≤ 20) || !rightB N es)
set_option maxRecDepth 100000 in
theorem small_any (N : Int) (A : Option Addr) (len cap : Nat) (es : List (Int × Int)) (hlen : Hid (len = es.length)) (w : World) (hE : ERow w A es) :
    Calls Tryd.prog 12 #[.agg #[.int .i64 N, .slice A len cap]] w (Ret (.bool (smallB N es)) w) := by
  by_cases h1 : len ≤ 100
  · by_cases h2 : N ≤ 20
    · have HS : Hid (smallB N es = true) := Lib.hid (by rw [smallB, ← hlen.out]; simp [h1, h2])
      go_enter Tryd.func12, Tryd.ntmps12
      go_wp2
      go_ret
      exact ⟨by rw [HS.out]; rfl, below_alloc (Below.refl _ _) _⟩
    · have HS : Hid (smallB N es = !rightB N es) := Lib.hid (by rw [smallB, ← hlen.out]; simp [h1, h2])
      go_enter Tryd.func12, Tryd.ntmps12
      go_wp2_with fail
      refine (plain_any N A len cap _).mono ?_
      rintro e w1 ⟨rfl, hb1⟩
      simp only [World.size_alloc] at hb1
      have hB := below_new hb1
      go_wp2_with fail
      refine (right_any N A len cap es hlen _ (hE.below hB)).mono ?_
      rintro e w2 ⟨rfl, hb2⟩
      have hB2 := below_then hB hB.size hb2
      go_wp2
      go_ret
      exact ⟨by rw [HS.out]; rfl, hB2⟩
  · have HS : Hid (smallB N es = false) := Lib.hid (by rw [smallB, ← hlen.out]; simp [h1])
    go_enter Tryd.func12, Tryd.ntmps12
    go_wp2
    go_ret
    exact ⟨by rw [HS.out]; rfl, below_alloc (Below.refl _ _) _⟩

/-! ### In -/
theorem testBit_mod (s i : Nat) : (((s : Int) / 2 ^ i).tmod 2 == 1) = s.testBit i := by
  rw [Nat.testBit_eq_decide_div_mod_eq, natcast_div_pow]
  generalize s / 2 ^ i = m
  rw [Int.tmod_eq_emod_of_nonneg (by omega)]
  rw [Bool.eq_iff_iff]
  simp only [beq_iff_eq, decide_eq_true_eq]
  omega
set_option maxRecDepth 100000 in
theorem in_any (set i : Nat) (hi : i < 64) (w : World) :
    Calls Tryd.prog 20 #[.int .u64 set, .int .i64 i] w fun e w' => e = .returned (.bool (set.testBit i)) ∧ w = w' := by
  go_enter Tryd.func20, Tryd.ntmps20
  go_wp2
  go_ret
  exact ⟨by rw [← testBit_mod]; rfl, rfl⟩
theorem in_yes {set i : Nat} (hi : i < 64) (h : set.testBit i = true) (w : World) :
    Calls Tryd.prog 20 #[.int .u64 set, .int .i64 i] w fun e w' => e = .returned (.bool true) ∧ w = w' := by rw [← h]; exact in_any set i hi w
theorem in_no {set i : Nat} (hi : i < 64) (h : set.testBit i = false) (w : World) :
    Calls Tryd.prog 20 #[.int .u64 set, .int .i64 i] w fun e w' => e = .returned (.bool false) ∧ w = w' := by rw [← h]; exact in_any set i hi w

/-! ### Has -/
def isE (a b : Nat) (e : Nat × Nat) : Bool := e.1 == a && e.2 == b
/-- is there an edge? -/
def hasB (ns : List (Nat × Nat)) (a b : Nat) : Bool := ns.any (isE a b)
theorem any_step {p : Nat × Nat → Bool} {ns : List (Nat × Nat)} {k : Nat} (hk : k < ns.length) (h : p (ns.getD k (0, 0)) = false) (ha : (ns.take k).any p = false) : (ns.take (k + 1)).any p = false := by
  rw [take_snoc ns (0, 0) hk, List.any_append, ha]
  simp only [List.any_cons, List.any_nil, h, Bool.or_false]
theorem any_hit {p : Nat × Nat → Bool} {ns : List (Nat × Nat)} {k : Nat} (hk : k < ns.length) (h : p (ns.getD k (0, 0)) = true) : ns.any p = true :=
  List.any_eq_true.2 ⟨_, getD_mem ns (0, 0) hk, h⟩
theorem isE_eq (a b x y : Nat) : isE a b (x, y) = (decide ((x : Int) = a) && decide ((y : Int) = b)) := by
  unfold isE
  rw [Bool.eq_iff_iff]
  simp only [Bool.and_eq_true, beq_iff_eq, decide_eq_true_eq]
  omega

set_option maxRecDepth 100000 in
theorem has_any (n : Nat) (A : Option Addr) (len cap : Nat) (ns : List (Nat × Nat)) (hlen : Hid (len = ns.length)) (hG : GOk n ns) (w : World) (hE : NRow w A ns) (a b : Nat) :
    Calls Tryd.prog 31 #[.agg #[.int .i64 n, .slice A len cap], .int .i64 a, .int .i64 b] w (Ret (.bool (hasB ns a b)) w) := by
  have h2 : len ≤ 4096 := by rw [hlen.out]; exact hG.hl
  have HC := Lib.hid (hE.below (below_alloc (Below.refl _ _) (Obj.cells #[Value.int IntKind.i64 n, Value.slice A len cap] 31)))
  go_enter Tryd.func31, Tryd.ntmps31
  go_wp2
  go_loopg [7] len (fun g i wr => wr = (w.alloc (Obj.cells #[Value.int IntKind.i64 n, Value.slice A len cap] 31)) ∧ ∃ k : Nat, k ≤ len ∧ g = len - k ∧ i = .int .i64 k ∧ (ns.take k).any (isE a b) = false)
  case atStart => exact ⟨rfl, 0, by omega, rfl, rfl, rfl⟩
  case round =>
    obtain ⟨rfl, k, hk, rfl, rfl, hall⟩ := hrel
    have HA := Lib.hid hall
    clear hall
    by_cases hlt : k < len
    · have hlt' : k < ns.length := by rw [← hlen.out]; exact hlt
      obtain ⟨eb, o, rfl, d1, d2⟩ := HC.out k hlt'
      obtain ⟨x, hx⟩ : ∃ x, (ns.getD k (0, 0)).1 = x := ⟨_, rfl⟩
      obtain ⟨y, hy⟩ : ∃ y, (ns.getD k (0, 0)).2 = y := ⟨_, rfl⟩
      have hxy : ns.getD k (0, 0) = (x, y) := by rw [← hx, ← hy]
      rw [hx] at d1
      rw [hy] at d2
      have HX := Lib.hid hxy
      clear hx hy hxy
      by_cases e1 : x = a
      · by_cases e2 : y = b
        · have HO : Hid (hasB ns a b = true) := Lib.hid (any_hit hlt' (by rw [HX.out, isE_eq]; simp; omega))
          have t1 : ((x : Int) == a) = true := by simp; omega
          have t2 : ((y : Int) == b) = true := by simp; omega
          clear e1 e2
          go_wp2
          go_ret
          exact ⟨by rw [HO.out]; rfl, below_alloc (Below.refl _ _) _⟩
        · have HO := Lib.hid (any_step (p := isE a b) hlt' (by rw [HX.out, isE_eq]; simp; omega) HA.out)
          have t1 : ((x : Int) == a) = true := by simp; omega
          have t2 : ((y : Int) == b) = false := by simp; omega
          clear e1 e2
          go_wp2
          go_roundg (len - (k + 1))
          case measure => omega
          case rel => exact ⟨rfl, k + 1, by omega, rfl, by go_num, HO.out⟩
      · have HO := Lib.hid (any_step (p := isE a b) hlt' (by rw [HX.out, isE_eq]; simp; omega) HA.out)
        have t1 : ((x : Int) == a) = false := by simp; omega
        clear e1
        go_wp2
        go_roundg (len - (k + 1))
        case measure => omega
        case rel => exact ⟨rfl, k + 1, by omega, rfl, by go_num, HO.out⟩
    · obtain rfl : k = len := by omega
      have HG : Hid (hasB ns a b = false) := Lib.hid (by have := HA.out; rwa [hlen.out, List.take_length] at this)
      go_wp2
      go_ret
      exact ⟨by rw [HG.out]; rfl, below_alloc (Below.refl _ _) _⟩

/-! ### the document's Closed -/
def opensE (set : Nat) (e : Nat × Nat) : Bool := set.testBit e.2 && !set.testBit e.1
def closedR (ns : List (Nat × Nat)) (set : Nat) : Bool := !ns.any (opensE set)
set_option maxRecDepth 100000 in
theorem closedR_any (n : Nat) (A : Option Addr) (len cap : Nat) (ns : List (Nat × Nat)) (hlen : Hid (len = ns.length)) (hG : GOk n ns) (w : World) (hE : NRow w A ns) (set : Nat) :
    Calls Tryd.prog 23 #[.agg #[.int .i64 n, .slice A len cap], .int .u64 set] w (Ret (.bool (closedR ns set)) w) := by
  have h1 : n ≤ 64 := hG.hn
  have h2 : len ≤ 4096 := by rw [hlen.out]; exact hG.hl
  have HC := Lib.hid (hE.below (below_alloc (Below.refl _ _) (Obj.cells #[Value.int IntKind.i64 n, Value.slice A len cap] 31)))
  go_enter Tryd.func23, Tryd.ntmps23
  go_wp2
  go_loopg [5] len (fun g i wr => wr = (w.alloc (Obj.cells #[Value.int IntKind.i64 n, Value.slice A len cap] 31)) ∧ ∃ k : Nat, k ≤ len ∧ g = len - k ∧ i = .int .i64 k ∧ (ns.take k).any (opensE set) = false)
  case atStart => exact ⟨rfl, 0, by omega, rfl, rfl, rfl⟩
  case round =>
    obtain ⟨rfl, k, hk, rfl, rfl, hall⟩ := hrel
    have HA := Lib.hid hall
    clear hall
    by_cases hlt : k < len
    · have hlt' : k < ns.length := by rw [← hlen.out]; exact hlt
      obtain ⟨eb, o, rfl, d1, d2⟩ := HC.out k hlt'
      obtain ⟨q1, q2⟩ := hG.hk k hlt'
      obtain ⟨x, hx⟩ : ∃ x, (ns.getD k (0, 0)).1 = x := ⟨_, rfl⟩
      obtain ⟨y, hy⟩ : ∃ y, (ns.getD k (0, 0)).2 = y := ⟨_, rfl⟩
      have hxy : ns.getD k (0, 0) = (x, y) := by rw [← hx, ← hy]
      rw [hx] at d1 q1
      rw [hy] at d2 q2
      have HX := Lib.hid hxy
      have hx64 : x < 64 := by omega
      have hy64 : y < 64 := by omega
      clear hx hy hxy
      cases hq : set.testBit y
      · have HO := Lib.hid (any_step (p := opensE set) hlt' (by rw [HX.out]; simp [opensE, hq]) HA.out)
        have HI := Lib.hid (in_no hy64 hq)
        clear hq
        go_wp2_with fail
        refine (HI.out _).mono ?_
        rintro e w1 ⟨rfl, rfl⟩
        go_wp2
        go_roundg (len - (k + 1))
        case measure => omega
        case rel => exact ⟨rfl, k + 1, by omega, rfl, by go_num, HO.out⟩
      · have HI := Lib.hid (in_yes hy64 hq)
        cases hp : set.testBit x
        · have HO : Hid (closedR ns set = false) := Lib.hid (by rw [closedR, any_hit hlt' (by rw [HX.out]; simp [opensE, hq, hp])]; rfl)
          have HJ := Lib.hid (in_no hx64 hp)
          clear hq hp
          go_wp2_with fail
          refine (HI.out _).mono ?_
          rintro e w1 ⟨rfl, rfl⟩
          go_wp2_with fail
          refine (HJ.out _).mono ?_
          rintro e w1 ⟨rfl, rfl⟩
          go_wp2
          go_ret
          exact ⟨by rw [HO.out]; rfl, below_alloc (Below.refl _ _) _⟩
        · have HO := Lib.hid (any_step (p := opensE set) hlt' (by rw [HX.out]; simp [opensE, hq, hp]) HA.out)
          have HJ := Lib.hid (in_yes hx64 hp)
          clear hq hp
          go_wp2_with fail
          refine (HI.out _).mono ?_
          rintro e w1 ⟨rfl, rfl⟩
          go_wp2_with fail
          refine (HJ.out _).mono ?_
          rintro e w1 ⟨rfl, rfl⟩
          go_wp2
          go_roundg (len - (k + 1))
          case measure => omega
          case rel => exact ⟨rfl, k + 1, by omega, rfl, by go_num, HO.out⟩
    · obtain rfl : k = len := by omega
      have HG : Hid (closedR ns set = true) := Lib.hid (by have := HA.out; rw [hlen.out, List.take_length] at this; simp [closedR, this])
      go_wp2
      go_ret
      exact ⟨by rw [HG.out]; rfl, below_alloc (Below.refl _ _) _⟩

/-! ### the document's Ready -/
def barsE (set i : Nat) (e : Nat × Nat) : Bool := e.2 == i && !set.testBit e.1
def readyR (ns : List (Nat × Nat)) (set i : Nat) : Bool := !set.testBit i && !ns.any (barsE set i)
set_option maxRecDepth 100000 in
theorem readyR_any (n : Nat) (A : Option Addr) (len cap : Nat) (ns : List (Nat × Nat)) (hlen : Hid (len = ns.length)) (hG : GOk n ns) (w : World) (hE : NRow w A ns) (set i : Nat) (hi : i < 64) :
    Calls Tryd.prog 24 #[.agg #[.int .i64 n, .slice A len cap], .int .u64 set, .int .i64 i] w (Ret (.bool (readyR ns set i)) w) := by
  have h1 : n ≤ 64 := hG.hn
  have h2 : len ≤ 4096 := by rw [hlen.out]; exact hG.hl
  have HC := Lib.hid (hE.below (below_alloc (Below.refl _ _) (Obj.cells #[Value.int IntKind.i64 n, Value.slice A len cap] 31)))
  cases h0 : set.testBit i
  · have HI0 := Lib.hid (in_no hi h0)
    have H0 := Lib.hid h0
    clear h0
    go_enter Tryd.func24, Tryd.ntmps24
    go_wp2_with fail
    refine (HI0.out _).mono ?_
    rintro e w1 ⟨rfl, rfl⟩
    go_wp2
    go_loopg [7] len (fun g s wr => wr = (w.alloc (Obj.cells #[Value.int IntKind.i64 n, Value.slice A len cap] 31)) ∧ ∃ k : Nat, k ≤ len ∧ g = len - k ∧ s = .int .i64 k ∧ (ns.take k).any (barsE set i) = false)
    case atStart => exact ⟨rfl, 0, by omega, rfl, rfl, rfl⟩
    case round =>
      obtain ⟨rfl, k, hk, rfl, rfl, hall⟩ := hrel
      have HA := Lib.hid hall
      clear hall
      by_cases hlt : k < len
      · have hlt' : k < ns.length := by rw [← hlen.out]; exact hlt
        obtain ⟨eb, o, rfl, d1, d2⟩ := HC.out k hlt'
        obtain ⟨q1, q2⟩ := hG.hk k hlt'
        obtain ⟨x, hx⟩ : ∃ x, (ns.getD k (0, 0)).1 = x := ⟨_, rfl⟩
        obtain ⟨y, hy⟩ : ∃ y, (ns.getD k (0, 0)).2 = y := ⟨_, rfl⟩
        have hxy : ns.getD k (0, 0) = (x, y) := by rw [← hx, ← hy]
        rw [hx] at d1 q1
        rw [hy] at d2 q2
        have HX := Lib.hid hxy
        have hx64 : x < 64 := by omega
        clear hx hy hxy
        by_cases hq : y = i
        · have t1 : ((y : Int) == i) = true := by simp; omega
          cases hp : set.testBit x
          · have HO : Hid (readyR ns set i = false) := Lib.hid (by rw [readyR, any_hit hlt' (p := barsE set i) (by rw [HX.out]; simp [barsE, hq, hp])]; simp)
            have HJ := Lib.hid (in_no hx64 hp)
            clear hq hp
            go_wp2_with fail
            refine (HJ.out _).mono ?_
            rintro e w1 ⟨rfl, rfl⟩
            go_wp2
            go_ret
            exact ⟨by rw [HO.out]; rfl, below_alloc (Below.refl _ _) _⟩
          · have HO := Lib.hid (any_step (p := barsE set i) hlt' (by rw [HX.out]; simp [barsE, hp]) HA.out)
            have HJ := Lib.hid (in_yes hx64 hp)
            clear hq hp
            go_wp2_with fail
            refine (HJ.out _).mono ?_
            rintro e w1 ⟨rfl, rfl⟩
            go_wp2
            go_roundg (len - (k + 1))
            case measure => omega
            case rel => exact ⟨rfl, k + 1, by omega, rfl, by go_num, HO.out⟩
        · have HO := Lib.hid (any_step (p := barsE set i) hlt' (by rw [HX.out]; simp [barsE, hq]) HA.out)
          have t1 : ((y : Int) == i) = false := by simp; omega
          clear hq
          go_wp2
          go_roundg (len - (k + 1))
          case measure => omega
          case rel => exact ⟨rfl, k + 1, by omega, rfl, by go_num, HO.out⟩
      · obtain rfl : k = len := by omega
        have HG : Hid (readyR ns set i = true) := Lib.hid (by have := HA.out; rw [hlen.out, List.take_length] at this; simp [readyR, this, H0.out])
        go_wp2
        go_ret
        exact ⟨by rw [HG.out]; rfl, below_alloc (Below.refl _ _) _⟩
  · have HI0 := Lib.hid (in_yes hi h0)
    have HR : Hid (readyR ns set i = false) := Lib.hid (by simp [readyR, h0])
    clear h0
    go_enter Tryd.func24, Tryd.ntmps24
    go_wp2_with fail
    refine (HI0.out _).mono ?_
    rintro e w1 ⟨rfl, rfl⟩
    go_wp2
    go_ret
    exact ⟨by rw [HR.out]; rfl, below_alloc (Below.refl _ _) _⟩
end Go.Proofs.YtpdhggfmkmiebaaDoor
