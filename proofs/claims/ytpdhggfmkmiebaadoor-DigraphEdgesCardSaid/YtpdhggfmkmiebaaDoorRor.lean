/- The contracts of the document's Circle and Order. -/
import Derived.Test.YtpdhggfmkmiebaaDoorFrm
import Derived.Test.YtpdhggfmkmiebaaDoorOrd
namespace Go.Proofs.YtpdhggfmkmiebaaDoor
open Go.RowKit

/-- yes just if a node reaches itself -/
def RetCircle (ns : List (Nat × Nat)) (w : World) (e : Ending) (w' : World) : Prop := ∃ c : Bool, e = .returned (.bool c) ∧ (c = true ↔ ∃ a, Way ns a a) ∧ Below w.heap.size w w'

set_option maxRecDepth 100000 in
theorem circle_any (n : Nat) (A : Option Addr) (len cap : Nat) (ns : List (Nat × Nat)) (hlen : Hid (len = ns.length)) (hG : GOk n ns) (w : World) (hE : NRow w A ns) :
    Calls Tryd.prog 18 #[.agg #[.int .i64 n, .slice A len cap]] w (RetCircle ns w) := by
  have h1 : n ≤ 64 := hG.hn
  go_enter Tryd.func18, Tryd.ntmps18
  go_wp2
  go_loopg [3] n (fun g i wr => ∃ a : Nat, a ≤ n ∧ g = n - a ∧ i = .int .i64 a ∧ (∀ x, x < a → ¬ Way ns x x) ∧ Below (w.heap.size + 1) (w.alloc (Obj.cells #[Value.int IntKind.i64 n, Value.slice A len cap] 31)) wr)
  case atStart => exact ⟨0, by omega, rfl, rfl, fun x hx => by omega, Below.refl _ _⟩
  case round =>
    obtain ⟨a, ha, rfl, rfl, hno, hb⟩ := hrel
    have hB := below_new hb
    have d0 : wr.cell? ⟨w.heap.size, 0, none⟩ = some (.int .i64 n) := (hb.cell (show w.heap.size < w.heap.size + 1 by omega)).trans (World.cell?_alloc_at _ _ _ _ rfl)
    have d1 : wr.cell? ⟨w.heap.size, 1, none⟩ = some (.slice A len cap) := (hb.cell (show w.heap.size < w.heap.size + 1 by omega)).trans (World.cell?_alloc_at _ _ _ _ rfl)
    have HN := Lib.hid hno
    clear hno
    by_cases hlt : a < n
    · go_wp2_with fail
      refine (from_any n A len cap ns hlen hG _ (hE.below hB) a).mono ?_
      rintro e w2 ⟨b, f, rfl, hb1, hrow, hf, hb2⟩
      have c1 : w2.cell? ⟨b, a, none⟩ = some (.bool (f a)) := hrow.cell hlt
      have hbb := below_then hb (by have := hb.size; simp at this; omega) hb2
      have HF := Lib.hid (hf a)
      clear hf
      cases hfa : f a
      · rw [hfa] at c1
        have HN2 : Hid (∀ x, x < a + 1 → ¬ Way ns x x) := Lib.hid (fun x hx hw => by
          by_cases e : x = a
          · subst e; rw [HF.out.2 hw] at hfa; cases hfa
          · exact HN.out x (by omega) hw)
        clear hfa
        go_wp2
        go_roundg (n - (a + 1))
        case measure => omega
        case rel => exact ⟨a + 1, by omega, rfl, by go_num, HN2.out, hbb⟩
      · rw [hfa] at c1
        have HW := Lib.hid (HF.out.1 hfa)
        clear hfa
        go_wp2
        go_ret
        exact ⟨true, rfl, ⟨fun _ => ⟨a, HW.out⟩, fun _ => rfl⟩, below_new hbb⟩
    · obtain rfl : a = n := by omega
      have HW : Hid (¬ ∃ x, Way ns x x) := Lib.hid (fun ⟨x, hx⟩ => HN.out x (hx.end_lt (fun e he => (hG.mem he).2)) hx)
      go_wp2
      go_ret
      exact ⟨false, rfl, ⟨fun h => by simp at h, fun h => absurd h HW.out⟩, hB⟩

/-! ### the document's Order -/
theorem readyB_iff {n : Nat} {ns : List (Nat × Nat)} (hG : GOk n ns) {set : Nat} (hs : set < 2 ^ 64) (i : Nat) : readyB ns set i = true ↔ set.testBit i = false ∧ ∀ x, (x, i) ∈ ns → set.testBit x = true := by
  have hA64 : aheadF ns i < 2 ^ 64 := lt64 (aheadF_lt (fun e he => (hG.mem he).1) i) hG.hn
  unfold readyB
  rw [Bool.and_eq_true, Bool.not_eq_true', subB_iff hA64 hs]
  simp only [aheadF_bit]
theorem readyR_iff (ns : List (Nat × Nat)) (set i : Nat) : readyR ns set i = true ↔ set.testBit i = false ∧ ∀ x, (x, i) ∈ ns → set.testBit x = true := by
  unfold readyR
  rw [Bool.and_eq_true, Bool.not_eq_true', Bool.not_eq_true', List.any_eq_false]
  refine and_congr_right fun _ => ⟨fun h x hx => ?_, fun h e he hb => ?_⟩
  · have := h _ hx
    simpa [barsE] using this
  · obtain ⟨x, y⟩ := e
    simp only [barsE, Bool.and_eq_true, beq_iff_eq, Bool.not_eq_true'] at hb
    obtain ⟨rfl, hb⟩ := hb
    rw [h x he] at hb
    cases hb
theorem readyR_eq {n : Nat} {ns : List (Nat × Nat)} (hG : GOk n ns) {set : Nat} (hs : set < 2 ^ 64) (i : Nat) : readyR ns set i = readyB ns set i := by
  rw [Bool.eq_iff_iff, readyR_iff, readyB_iff hG hs]

/-- the lowest node from m on that is ready; -1: none -/
def LowAt (n : Nat) (ns : List (Nat × Nat)) (set m : Nat) (x : Int) : Prop :=
  (x = -1 ∧ ∀ j, m ≤ j → j < n → readyR ns set j = false) ∨ (∃ k : Nat, x = k ∧ m ≤ k ∧ k < n ∧ readyR ns set k = true ∧ ∀ j, m ≤ j → j < k → readyR ns set j = false)
theorem LowAt.start (n : Nat) (ns : List (Nat × Nat)) (set : Nat) : LowAt n ns set n (-1) := .inl ⟨rfl, fun j h1 h2 => by omega⟩
theorem LowAt.yes {n : Nat} {ns : List (Nat × Nat)} {set m : Nat} (hm : m < n) (h : readyR ns set m = true) : LowAt n ns set m m := .inr ⟨m, rfl, Nat.le_refl _, hm, h, fun j h1 h2 => by omega⟩
theorem LowAt.no {n : Nat} {ns : List (Nat × Nat)} {set m : Nat} {x : Int} (hx : LowAt n ns set (m + 1) x) (h : readyR ns set m = false) : LowAt n ns set m x := by
  rcases hx with ⟨rfl, hx⟩ | ⟨k, rfl, h1, h2, h3, h4⟩
  · refine .inl ⟨rfl, fun j h1 h2 => ?_⟩
    by_cases e : j = m
    · subst e; exact h
    · exact hx j (by omega) h2
  · refine .inr ⟨k, rfl, by omega, h2, h3, fun j h5 h6 => ?_⟩
    by_cases e : j = m
    · subst e; exact h
    · exact h4 j (by omega) h6
theorem LowAt.next {n : Nat} {ns : List (Nat × Nat)} (hG : GOk n ns) {set : Nat} (hs : set < 2 ^ 64) {x : Int} (hx : LowAt n ns set 0 x) (hr : readyF n ns set ≠ 0) : x = (nextF n ns set : Nat) := by
  obtain ⟨h1, h2, h3⟩ := nextF_spec hG.hn hr
  rcases hx with ⟨rfl, hx⟩ | ⟨k, rfl, _, h5, h6, h7⟩
  · have := hx _ (Nat.zero_le _) h1
    rw [readyR_eq hG hs, h2] at this
    cases this
  · rw [readyR_eq hG hs] at h6
    rcases Nat.lt_trichotomy k (nextF n ns set) with h | h | h
    · rw [h3 k h] at h6; cases h6
    · rw [h]
    · have := h7 _ (Nat.zero_le _) h
      rw [readyR_eq hG hs, h2] at this
      cases this
theorem OrdAt.full {n : Nat} {ns : List (Nat × Nat)} {set : Nat} {out : List Nat} (h : OrdAt n ns set out) (hl : out.length = n) : out = orderV n ns := by
  have h0 : free set n = 0 := by have := h.len; omega
  have := h.go
  rw [h0] at this
  exact this
theorem OrdAt.goes {n : Nat} {ns : List (Nat × Nat)} {set : Nat} {out : List Nat} (h : OrdAt n ns set out) (hv : (orderV n ns).length = n) (hl : out.length < n) : readyF n ns set ≠ 0 := fun hr => by
  rw [← h.done hr] at hv
  omega

/-- the order, as a new list -/
def RetList (l : List Nat) (w : World) (e : Ending) (w' : World) : Prop := Below w.heap.size w w' ∧ ∃ A c, e = .returned (.slice A l.length c) ∧ IRow w' A l ∧ ∀ ad, A = some ad → w.heap.size ≤ ad.block

set_option maxRecDepth 100000 in
theorem orderR_any (n : Nat) (A : Option Addr) (len cap : Nat) (ns : List (Nat × Nat)) (hlen : Hid (len = ns.length)) (hG : GOk n ns) (w : World) (hE : NRow w A ns) (hv : (orderV n ns).length = n) :
    Calls Tryd.prog 29 #[.agg #[.int .i64 n, .slice A len cap]] w (RetList (orderV n ns) w) := by
  have h1 : n ≤ 64 := hG.hn
  have HVl := Lib.hid hv
  clear hv
  go_enter Tryd.func29, Tryd.ntmps29
  go_wp2
  go_loopg [3, 4] n (fun g s3 s4 wr => ∃ (set : Nat) (out : List Nat) (V : Option Addr) (c : Nat), g = n - out.length ∧ s3 = .slice V out.length c ∧ s4 = .int .u64 set ∧ OrdAt n ns set out ∧
    wr.ownsRow (w.heap.size + 1) 3 1 (.slice V out.length c) out.length (ints out) ∧ Below (w.heap.size + 1) (w.alloc (Obj.cells #[Value.int IntKind.i64 n, Value.slice A len cap] 31)) wr)
  case atStart => exact ⟨0, [], none, 0, rfl, rfl, rfl, OrdAt.start n ns, World.ownsRow_nil _ _ _ _, Below.refl _ _⟩
  case round =>
    obtain ⟨set, out, V, c, rfl, rfl, rfl, hO, hown, hb⟩ := hrel
    have hB := below_new hb
    have d0 : wr.cell? ⟨w.heap.size, 0, none⟩ = some (.int .i64 n) := (hb.cell (show w.heap.size < w.heap.size + 1 by omega)).trans (World.cell?_alloc_at _ _ _ _ rfl)
    have hol : out.length ≤ n := by have := hO.len; omega
    have hs64 := Lib.hid (lt64 hO.lt h1)
    have HW := Lib.hid hown
    have HO := Lib.hid hO
    clear hown hO
    by_cases hl : out.length < n
    · have HR := Lib.hid (HO.out.goes HVl.out hl)
      have HX := Lib.hid (HO.out.next h1 HR.out)
      have hk64 : nextF n ns set < 64 := by have := (nextF_spec h1 HR.out).1; omega
      have HV := Lib.hid (or_pow hs64.out hk64)
      go_wp2
      obtain ⟨wo, rfl⟩ : ∃ wo : World, wo = wr := ⟨_, rfl⟩
      go_loopg [5, 6] n (fun g s5 s6 wr => ∃ (m : Nat) (x i : Int), m ≤ n ∧ g = m ∧ s5 = .int .i64 x ∧ s6 = .int .i64 i ∧ i = (m : Int) - 1 ∧ LowAt n ns set m x ∧ Below wo.heap.size wo wr)
      case atStart => exact ⟨n, -1, (n : Int) - 1, by omega, rfl, rfl, rfl, rfl, LowAt.start n ns set, Below.refl _ _⟩
      case round =>
        obtain ⟨m, x, i, hm, rfl, rfl, rfl, hi, hlow, hb3⟩ := hrel
        have hsz : w.heap.size < wo.heap.size := World.block_lt_of_cell? _ _ d0
        have e0 : wr.cell? ⟨w.heap.size, 0, none⟩ = some (.int .i64 n) := (hb3.cell hsz).trans d0
        cases gk with
        | zero =>
          have HL := Lib.hid (hlow.next hG hs64.out HR.out)
          obtain rfl : i = -1 := by omega
          clear hlow hi
          obtain ⟨k, hk⟩ : ∃ k, nextF n ns set = k := ⟨_, rfl⟩
          rw [hk] at HL HX HV hk64
          have hxe : x = (k : Int) := HL.out
          subst hxe
          have hown3 : wr.ownsRow (w.heap.size + 1) 3 1 (.slice V out.length c) out.length (ints out) := own_below HW.out hb3
          have HW3 := Lib.hid hown3
          have hb4 : Below (w.heap.size + 1) (w.alloc (Obj.cells #[Value.int IntKind.i64 n, Value.slice A len cap] 31)) wr := hb.trans (hb3.mono (by omega))
          have hsz4 : w.heap.size + 1 ≤ wr.heap.size := by have := hb3.size; omega
          clear hown3 hk
          go_wp2_with (at_builtin; refine list_app (w0 := w.alloc (Obj.cells #[Value.int IntKind.i64 n, Value.slice A len cap] 31)) (w.heap.size + 1) rfl _ _ 47 3 (.int .i64 0) 1 8 rfl Tryd.underlying47 info3 rfl (by decide) (by decide) (.slice V out.length c) out.length (ints out) [.int .i64 k] wr.heap.size rfl rfl rfl (by intro u hu; simp at hu; subst hu; rfl) (heap_alloc_new wr _) (HW3.out.alloc _) (hb4.alloc hsz4 _) (by simp; omega) (by omega) ?_; intro g cap2 w4 q1 q2 q3)
          go_roundg (n - (out.length + 1))
          case measure => omega
          case rel =>
            exact ⟨set ||| 2 ^ k, out ++ [k], some ⟨g, 0, none⟩, cap2, by simp, by simp, by rw [HV.out], HX.out, by rw [List.length_append, ints_snoc]; exact q1, q2⟩
        | succ m' =>
          obtain rfl : i = (m' : Nat) := by omega
          clear hi
          have e1 : wr.cell? ⟨w.heap.size, 1, none⟩ = some (.slice A len cap) := (hb3.cell (by exact hsz)).trans ((hb.cell (show w.heap.size < w.heap.size + 1 by omega)).trans (World.cell?_alloc_at _ _ _ _ rfl))
          go_wp2_with fail
          refine (readyR_any n A len cap ns hlen hG _ ((hE.below hB).below hb3) set m' (by omega)).mono ?_
          rintro e w4 ⟨rfl, hb5⟩
          have HL := Lib.hid hlow
          clear hlow
          have hb6 := below_then hb3 hb3.size hb5
          cases hq : readyR ns set m'
          · have HN := Lib.hid (HL.out.no hq)
            clear hq
            go_wp2
            go_roundg m'
            case measure => omega
            case rel => exact ⟨m', x, _, by omega, rfl, rfl, rfl, by omega, HN.out, hb6⟩
          · have HN := Lib.hid (LowAt.yes (n := n) (by omega) hq)
            clear hq
            go_wp2
            go_roundg m'
            case measure => omega
            case rel => exact ⟨m', m', _, by omega, rfl, rfl, rfl, by omega, HN.out, hb6⟩
    · have HD := Lib.hid (HO.out.full (by omega))
      have HI := Lib.hid (own_irow HW.out)
      have hl' : ¬ (out.length : Int) < n := by omega
      clear hl
      go_wp2
      go_ret
      exact ⟨hB, V, c, by rw [← HD.out]; rfl, by rw [← HD.out]; exact HI.out, fun ad had => by have := (HW.out.lt ad.block (by rw [had]; rfl)).1; omega⟩
end Go.Proofs.YtpdhggfmkmiebaaDoor
