/- What Order works out, in plain words: the lowest node that is ready comes next, till none is; and its contract. -/
import Derived.Test.YtpdhggfmkmiebaaDoorC
import Derived.Test.YtpdhggfmkmiebaaDoorOwn
namespace Go.Proofs.YtpdhggfmkmiebaaDoor
open Go.RowKit

/-- how many nodes below n a set lacks -/
def free (set : Nat) : Nat → Nat
  | 0 => 0
  | k + 1 => free set k + (if set.testBit k then 0 else 1)
theorem free_zero : ∀ n, free 0 n = n
  | 0 => rfl
  | k + 1 => by simp [free, free_zero k]
theorem free_le (set : Nat) : ∀ n, free set n ≤ n
  | 0 => Nat.le_refl _
  | k + 1 => by have := free_le set k; unfold free; split <;> omega
theorem testBit_add (set i j : Nat) : (set ||| 2 ^ i).testBit j = (set.testBit j || decide (i = j)) := by
  rw [Nat.testBit_or, Nat.testBit_two_pow]
theorem free_same {set i : Nat} : ∀ {n}, n ≤ i → free (set ||| 2 ^ i) n = free set n
  | 0, _ => rfl
  | k + 1, h => by
    unfold free
    rw [free_same (by omega), testBit_add]
    have : decide (i = k) = false := by simp; omega
    rw [this, Bool.or_false]
theorem free_add {set i : Nat} (hs : set.testBit i = false) : ∀ {n}, i < n → free (set ||| 2 ^ i) n + 1 = free set n
  | 0, h => absurd h (by omega)
  | k + 1, h => by
    unfold free
    by_cases e : i = k
    · subst e
      rw [free_same (Nat.le_refl _), testBit_add, hs]
      simp
    · have ih := free_add hs (n := k) (by omega)
      rw [testBit_add]
      have : decide (i = k) = false := by simp; omega
      rw [this, Bool.or_false]
      omega
theorem free_none {set : Nat} : ∀ {n}, free set n = 0 → ∀ i, i < n → set.testBit i = true
  | 0, _, i, h => absurd h (by omega)
  | k + 1, h, i, hi => by
    unfold free at h
    by_cases e : i = k
    · subst e
      cases hb : set.testBit i
      · rw [hb] at h; simp at h
      · rfl
    · exact free_none (n := k) (by omega) i (by omega)

theorem readyB_notin {ns : List (Nat × Nat)} {set i : Nat} (h : readyB ns set i = true) : set.testBit i = false := by
  simp only [readyB, Bool.and_eq_true, Bool.not_eq_true'] at h
  exact h.1
theorem readyF_bit (n : Nat) (ns : List (Nat × Nat)) (set i : Nat) : (readyF n ns set).testBit i = (decide (i < n) && readyB ns set i) := testBit_setOf _ i n
/-- which node comes next -/
def nextF (n : Nat) (ns : List (Nat × Nat)) (set : Nat) : Nat := Lib.ctz 64 (readyF n ns set)
theorem nextF_spec {n : Nat} {ns : List (Nat × Nat)} {set : Nat} (hn : n ≤ 64) (h : readyF n ns set ≠ 0) :
    nextF n ns set < n ∧ readyB ns set (nextF n ns set) = true ∧ ∀ j, j < nextF n ns set → readyB ns set j = false := by
  obtain ⟨h1, h2⟩ := ctz_spec (readyF_lt ns set hn) h
  rw [show Lib.ctz 64 (readyF n ns set) = nextF n ns set from rfl] at h1 h2
  rw [readyF_bit, Bool.and_eq_true, decide_eq_true_eq] at h1
  refine ⟨h1.1, h1.2, fun j hj => ?_⟩
  have := h2 j hj
  rw [readyF_bit] at this
  simpa [Nat.lt_trans hj h1.1] using this
theorem free_next {n : Nat} {ns : List (Nat × Nat)} {set : Nat} (hn : n ≤ 64) (h : readyF n ns set ≠ 0) : free (set ||| 2 ^ nextF n ns set) n + 1 = free set n := by
  obtain ⟨h1, h2, _⟩ := nextF_spec hn h
  exact free_add (readyB_notin h2) h1

theorem next_walk {n : Nat} (ns : List (Nat × Nat)) (set : Nat) (hn : n ≤ 64) (hr : readyF n ns set ≠ 0) (w : World) (hT : Tab w) :
    Calls Tryd.prog 35 #[.int .u64 (readyF n ns set : Nat)] w fun e w' => e = .returned (.int .i64 (nextF n ns set : Nat)) ∧ w = w' := tz64 _ (readyF_lt ns set hn) hr w hT

/-- the order from a set on; the list so far -/
def orderGo (n : Nat) (ns : List (Nat × Nat)) : Nat → Nat → List Nat → List Nat
  | 0, _, out => out
  | f + 1, set, out => if readyF n ns set = 0 then out else orderGo n ns f (set ||| 2 ^ nextF n ns set) (out ++ [nextF n ns set])
/-- the order as far as it goes -/
def orderV (n : Nat) (ns : List (Nat × Nat)) : List Nat := orderGo n ns n 0 []
theorem orderGo_end {n : Nat} {ns : List (Nat × Nat)} {set : Nat} {out : List Nat} (f : Nat) (h : readyF n ns set = 0) : orderGo n ns f set out = out := by
  cases f with
  | zero => rfl
  | succ f => simp [orderGo, h]
theorem orderGo_next {n : Nat} {ns : List (Nat × Nat)} {set : Nat} {out : List Nat} (hn : n ≤ 64) (h : readyF n ns set ≠ 0) :
    orderGo n ns (free set n) set out = orderGo n ns (free (set ||| 2 ^ nextF n ns set) n) (set ||| 2 ^ nextF n ns set) (out ++ [nextF n ns set]) := by
  rw [← free_next hn h]
  conv => lhs; unfold orderGo
  rw [if_neg h]

/-- what holds at the label: the set is that of the list, whose order goes on -/
structure OrdAt (n : Nat) (ns : List (Nat × Nat)) (set : Nat) (out : List Nat) : Prop where
  lt : set < 2 ^ n
  len : out.length + free set n = n
  go : orderGo n ns (free set n) set out = orderV n ns
theorem OrdAt.start (n : Nat) (ns : List (Nat × Nat)) : OrdAt n ns 0 [] := ⟨Nat.two_pow_pos _, by simp [free_zero], by rw [free_zero]; rfl⟩
theorem OrdAt.next {n : Nat} {ns : List (Nat × Nat)} {set : Nat} {out : List Nat} (hn : n ≤ 64) (h : OrdAt n ns set out) (hr : readyF n ns set ≠ 0) :
    OrdAt n ns (set ||| 2 ^ nextF n ns set) (out ++ [nextF n ns set]) :=
  ⟨Nat.or_lt_two_pow h.lt (Nat.pow_lt_pow_right (by omega) (nextF_spec hn hr).1), by have := free_next hn hr; have := h.len; simp; omega, by rw [← orderGo_next hn hr]; exact h.go⟩
theorem OrdAt.done {n : Nat} {ns : List (Nat × Nat)} {set : Nat} {out : List Nat} (h : OrdAt n ns set out) (hr : readyF n ns set = 0) : out = orderV n ns := by
  rw [← h.go, orderGo_end _ hr]

/-- Order's answer: the order, or a circle -/
def RetOrder (n : Nat) (ns : List (Nat × Nat)) (w : World) (e : Ending) (w' : World) : Prop :=
  Below w.heap.size w w' ∧
  ((orderV n ns).length < n ∧ e = .returned (.tuple #[.slice none 0 0, .int .i64 21]) ∨
   (orderV n ns).length = n ∧ ∃ A c, e = .returned (.tuple #[.slice A n c, .int .i64 0]) ∧ IRow w' A (orderV n ns))

set_option maxRecDepth 100000 in
theorem order_wrong (N : Int) (A : Option Addr) (len cap : Nat) (es : List (Int × Int)) (hlen : Hid (len = es.length)) (hbad : Hid (rightB N es = false)) (w : World) (hE : ERow w A es) :
    Calls Tryd.prog 25 #[.agg #[.int .i64 N, .slice A len cap]] w (Ret (.tuple #[.slice none 0 0, .int .i64 20]) w) := by
  go_enter Tryd.func25, Tryd.ntmps25
  go_wp2_with fail
  refine wp_scope_straight ?_
  go_wp2_with fail
  refine (check_wrong N A len cap es hlen hbad _ (hE.below (below_alloc (Below.refl _ _) _))).mono ?_
  rintro e w1 ⟨rfl, hb2⟩
  simp only [World.size_alloc] at hb2
  have hB := below_new hb2
  go_wp2
  rw [Exit.noGoto_ret]
  go_ret2
  exact ⟨rfl, hB⟩

/-- what holds of the frame and the world wherever the run comes to the label -/
def OrdJ (n : Nat) (A : Option Addr) (len cap : Nat) (ns : List (Nat × Nat)) (w : World) (a' : Act) (w' : World) : Prop :=
  ∃ (set : Nat) (out : List Nat) (V : Option Addr) (m c : Nat) (x : Int) (u4 u7 u8 u9 u10 u11 u12 u13 u14 u15 u16 u17 u18 u19 u20 u21 u22 u23 u24 u25 u26 u27 u28 u29 u30 u31 u32 u33 u34 : Value), a' = { tmps := #[.agg #[.int .i64 n, .slice A len cap], .pointer (some ⟨w.heap.size, 0, none⟩), .slice none 0 0, .int .i64 0, u4, .slice V m c, .int .u64 x, u7, u8, u9, u10, u11, u12, u13, u14, u15, u16, u17, u18, u19, u20, u21, u22, u23, u24, u25, u26, u27, u28, u29, u30, u31, u32, u33, u34], defers := [] } ∧
    m = out.length ∧ x = set ∧ OrdAt n ns set out ∧ w'.ownsRow (w.heap.size + 1) 3 1 (.slice V out.length c) out.length (ints out) ∧ Below (w.heap.size + 1) (w.alloc (Obj.cells #[Value.int IntKind.i64 n, Value.slice A len cap] 24)) w'

set_option maxRecDepth 100000 in
theorem order_ok (n : Nat) (A : Option Addr) (len cap : Nat) (ns : List (Nat × Nat)) (hlen : Hid (len = ns.length)) (hG : GOk n ns) (w : World) (hE : NRow w A ns) (hT : Tab w) :
    Calls Tryd.prog 25 #[.agg #[.int .i64 n, .slice A len cap]] w (RetOrder n ns w) := by
  have h1 : n ≤ 64 := hG.hn
  go_enter Tryd.func25, Tryd.ntmps25
  go_wp2_with fail
  refine (fun (pass : ∀ a' w', OrdJ n A len cap ns w a' w' → Code.wp Tryd.prog _ _ a' w') => wp_scope_jumps 0 (OrdJ n A len cap ns w) (fun a' _ => n - lenOf (a'.tmps.getD 5 undef)) rfl ?first (fun a' w' h => wp_seq (wp_skip (pass a' w' h)))) ?pass
  case first =>
    have HP := Lib.hid pass
    clear pass
    go_wp2_with fail
    refine (check_ok n A len cap ns hlen hG _ (hE.below (below_alloc (Below.refl _ _) _))).mono ?_
    rintro e w1 ⟨rfl, hb2⟩
    simp only [World.size_alloc] at hb2
    go_wp2_with fail
    go_step3
    simp only [Exit.then]
    go_step
    refine wp_mono (HP.out _ _ ⟨0, [], none, 0, 0, 0, _, _, _, _, _, _, _, _, _, _, _, _, _, _, _, _, _, _, _, _, _, _, _, _, _, _, _, _, _, rfl, rfl, rfl, OrdAt.start n ns, World.ownsRow_nil _ _ _ _, hb2⟩) ?_
    exact fun e a w h => jump_weaken e a w h
  case pass =>
    rintro a' wr ⟨set, out, V, _, c, _, u4, u7, u8, u9, u10, u11, u12, u13, u14, u15, u16, u17, u18, u19, u20, u21, u22, u23, u24, u25, u26, u27, u28, u29, u30, u31, u32, u33, u34, rfl, rfl, rfl, hO, hown, hb⟩
    have hB := below_new hb
    have d0 : wr.cell? ⟨w.heap.size, 0, none⟩ = some (.int .i64 n) := (hb.cell (show w.heap.size < w.heap.size + 1 by omega)).trans (World.cell?_alloc_at _ _ _ _ rfl)
    have d1 : wr.cell? ⟨w.heap.size, 1, none⟩ = some (.slice A len cap) := (hb.cell (show w.heap.size < w.heap.size + 1 by omega)).trans (World.cell?_alloc_at _ _ _ _ rfl)
    have hs64 := Lib.hid (lt64 hO.lt h1)
    have hT' : Tab wr := hT.below hB
    have hlen2 : out.length ≤ n := by have := hO.len; omega
    have HO := Lib.hid hO
    have HW := Lib.hid hown
    clear hO hown
    go_wp2_with fail
    refine (ready_walk n A len cap ns hlen hG _ (hE.below hB) set hs64).mono ?_
    rintro e w2 ⟨rfl, hb4⟩
    have hB2 := below_then hB hB.size hb4
    have hbb : Below (w.heap.size + 1) (w.alloc (Obj.cells #[Value.int IntKind.i64 n, Value.slice A len cap] 24)) w2 := hb.trans (hb4.mono (by have := hb.size; simp at this; omega))
    have d0' : w2.cell? ⟨w.heap.size, 0, none⟩ = some (.int .i64 n) := (hbb.cell (show w.heap.size < w.heap.size + 1 by omega)).trans (World.cell?_alloc_at _ _ _ _ rfl)
    by_cases hr : readyF n ns set = 0
    · have HD := Lib.hid (HO.out.done hr)
      have t0 : (((readyF n ns set : Nat) : Int) != 0) = false := by rw [hr]; rfl
      have HI := Lib.hid (own_irow HW.out)
      clear hr
      by_cases hl : out.length < n
      · go_wp2
        simp only [Exit.jump]
        go_ret2
        exact ⟨hB2, .inl ⟨by rw [← HD.out]; exact hl, rfl⟩⟩
      · have hl' : ¬ (out.length : Int) < n := by omega
        have HL : Hid (out.length = n) := Lib.hid (by omega)
        clear hl
        go_wp2
        simp only [Exit.jump]
        go_ret2
        refine ⟨hB2, .inr ⟨by rw [← HD.out]; exact HL.out, V, c, by rw [HL.out]; rfl, ?_⟩⟩
        rw [← HD.out]
        exact HI.out.below hb4
    · have t0 : (((readyF n ns set : Nat) : Int) != 0) = true := by simp; omega
      have HR := Lib.hid hr
      have HN := Lib.hid (nextF_spec h1 hr)
      have hk64 : nextF n ns set < 64 := by have := HN.out.1; omega
      have HX := Lib.hid (HO.out.next h1 hr)
      have HV := Lib.hid (or_pow hs64.out hk64)
      clear hr
      have HT2 : Tab w2 := hT'.below hb4
      go_wp2_with fail
      refine (next_walk ns set h1 HR.out _ HT2).mono ?_
      rintro e w3 ⟨rfl, rfl⟩
      obtain ⟨k, hk⟩ : ∃ k, nextF n ns set = k := ⟨_, rfl⟩
      rw [hk] at hk64 ⊢
      have HK := Lib.hid hk
      clear hk
      have hown2 : w2.ownsRow (w.heap.size + 1) 3 1 (.slice V out.length c) out.length (ints out) := own_below HW.out hb4
      have hsz2 : w.heap.size + 1 ≤ w2.heap.size := by have := hbb.size; simp at this; omega
      go_wp2_with fail
      go_region_law (refine step_app (w0 := w.alloc (Obj.cells #[Value.int IntKind.i64 n, Value.slice A len cap] 24)) (w.heap.size + 1) rfl (.tmp 21) (.tmp 23) 47 3 (.int .i64 0) 1 8 rfl Tryd.underlying47 info3 rfl (by decide) (by decide) (.slice V out.length c) out.length (ints out) [.int .i64 k] w2.heap.size (by simp [Act.eval]) (by simp [Act.eval]) rfl (by intro u hu; simp at hu; subst hu; rfl) (heap_alloc_new w2 _) (hown2.alloc _) ((hbb.alloc hsz2 _).drew) (by simp; omega) (by omega) ?_; intro g cap2 w4 q1 q2 q3)
      go_wp2
      go_step3
      rw [HK.out] at HX HV
      refine ⟨rfl, ⟨set ||| 2 ^ k, out ++ [k], some ⟨g, 0, none⟩, out.length + 1, cap2, _, _, _, _, _, _, _, _, _, _, _, _, _, _, _, _, _, _, _, _, _, _, _, _, _, _, _, _, _, _, rfl, by simp, HV.out, HX.out, ?_, q2⟩, ?_⟩
      · rw [List.length_append, ints_snoc]; exact q1
      · show n - (out.length + 1) < n - out.length
        have := HX.out.len
        simp at this
        omega
end Go.Proofs.YtpdhggfmkmiebaaDoor
