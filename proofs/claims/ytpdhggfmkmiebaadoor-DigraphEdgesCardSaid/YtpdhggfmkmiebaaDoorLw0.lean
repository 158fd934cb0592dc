/- Words for the statements' walks: a graph's box in memory; the callees' contracts with their answers spelt out. -/
import Derived.Test.YtpdhggfmkmiebaaDoorLw1
import Derived.Test.YtpdhggfmkmiebaaDoorLvm
namespace Go.Proofs.YtpdhggfmkmiebaaDoor
open Go.RowKit

/-- block b holds a graph: its number of nodes and its slice of edges -/
structure GBox (w : World) (b : Nat) (N : Int) (A : Option Addr) (len cap : Nat) : Prop where
  c0 : w.cell? ⟨b, 0, none⟩ = some (.int .i64 N)
  c1 : w.cell? ⟨b, 1, none⟩ = some (.slice A len cap)
theorem GBox.lt {w : World} {b : Nat} {N : Int} {A : Option Addr} {len cap : Nat} (h : GBox w b N A len cap) : b < w.heap.size := World.block_lt_of_cell? _ _ h.c0
theorem GBox.below {w w1 : World} {b : Nat} {N : Int} {A : Option Addr} {len cap : Nat} (h : GBox w b N A len cap) (hb : Below w.heap.size w w1) : GBox w1 b N A len cap :=
  ⟨(hb.cell (by exact h.lt)).trans h.c0, (hb.cell (by exact h.lt)).trans h.c1⟩
theorem GBox.new (w : World) (t : TypeId) (N : Int) (A : Option Addr) (len cap : Nat) : GBox (w.alloc (Obj.cells #[Value.int IntKind.i64 N, Value.slice A len cap] t)) w.heap.size N A len cap :=
  ⟨World.cell?_alloc_at _ _ _ _ rfl, World.cell?_alloc_at _ _ _ _ rfl⟩
theorem GBox.alloc {w : World} {b : Nat} {N : Int} {A : Option Addr} {len cap : Nat} (h : GBox w b N A len cap) (o : Obj) : GBox (w.alloc o) b N A len cap := h.below (below_alloc (Below.refl _ _) o)
theorem GBox.drewN {w : World} {b : Nat} {N : Int} {A : Option Addr} {len cap : Nat} (h : GBox w b N A len cap) (k : Nat) : GBox (w.drewN k) b N A len cap := ⟨h.c0, h.c1⟩

theorem order_yes (n : Nat) (A : Option Addr) (len cap : Nat) (ns : List (Nat × Nat)) (hlen : Hid (len = ns.length)) (hG : GOk n ns) (hA : Acyclic ns) (w : World) (hE : NRow w A ns) (hT : Tab w) :
    Calls Tryd.prog 25 #[.agg #[.int .i64 n, .slice A len cap]] w fun e w' => ∃ B c, e = .returned (.tuple #[.slice B n c, .int .i64 0]) ∧ IRow w' B (orderV n ns) ∧ Below w.heap.size w w' :=
  (order_ok n A len cap ns hlen hG w hE hT).mono fun e w' ⟨hb, h⟩ => by
    have hl := (order_iff hG).2 hA
    rcases h with ⟨h, _⟩ | ⟨_, B, c, he, hi⟩
    · omega
    · exact ⟨B, c, he, hi, hb⟩
theorem order_no (n : Nat) (A : Option Addr) (len cap : Nat) (ns : List (Nat × Nat)) (hlen : Hid (len = ns.length)) (hG : GOk n ns) (hA : ¬ Acyclic ns) (w : World) (hE : NRow w A ns) (hT : Tab w) :
    Calls Tryd.prog 25 #[.agg #[.int .i64 n, .slice A len cap]] w (Ret (.tuple #[.slice none 0 0, .int .i64 21]) w) :=
  (order_ok n A len cap ns hlen hG w hE hT).mono fun e w' ⟨hb, h⟩ => by
    rcases h with ⟨_, he⟩ | ⟨h, _⟩
    · exact ⟨he, hb⟩
    · exact absurd ((order_iff hG).1 h) hA
theorem levels_yes (n : Nat) (A : Option Addr) (len cap : Nat) (ns : List (Nat × Nat)) (hlen : Hid (len = ns.length)) (hG : GOk n ns) (hA : Acyclic ns) (w : World) (hE : NRow w A ns) (hT : Tab w) :
    Calls Tryd.prog 26 #[.agg #[.int .i64 n, .slice A len cap]] w fun e w' => ∃ b, e = .returned (.tuple #[.slice (some ⟨b, 0, none⟩) n n, .int .i64 0]) ∧ w'.rowIs b 3 n (i64F (lvAll n ns (orderV n ns))) ∧ Below w.heap.size w w' :=
  (levels_ok n A len cap ns hlen hG w hE hT).mono fun e w' ⟨hb, h⟩ => by
    have hl := (order_iff hG).2 hA
    rcases h with ⟨h, _⟩ | ⟨_, b, he, hi⟩
    · omega
    · exact ⟨b, he, hi, hb⟩
theorem levels_no (n : Nat) (A : Option Addr) (len cap : Nat) (ns : List (Nat × Nat)) (hlen : Hid (len = ns.length)) (hG : GOk n ns) (hA : ¬ Acyclic ns) (w : World) (hE : NRow w A ns) (hT : Tab w) :
    Calls Tryd.prog 26 #[.agg #[.int .i64 n, .slice A len cap]] w (Ret (.tuple #[.slice none 0 0, .int .i64 21]) w) :=
  (levels_ok n A len cap ns hlen hG w hE hT).mono fun e w' ⟨hb, h⟩ => by
    rcases h with ⟨_, he⟩ | ⟨h, _⟩
    · exact ⟨he, hb⟩
    · exact absurd ((order_iff hG).1 h) hA
theorem thin_yes (n : Nat) (A : Option Addr) (len cap : Nat) (ns : List (Nat × Nat)) (hlen : Hid (len = ns.length)) (hG : GOk n ns) (hA : Acyclic ns) (w : World) (hE : NRow w A ns) (hT : Tab w) :
    Calls Tryd.prog 17 #[.agg #[.int .i64 n, .slice A len cap]] w fun e w' => ∃ B c, e = .returned (.tuple #[.slice B (thinL n ns n).length c, .int .i64 0]) ∧ NRow w' B (thinL n ns n) ∧ Below w.heap.size w w' :=
  (thin_ok n A len cap ns hlen hG w hE hT).mono fun e w' ⟨hb, h⟩ => by
    have hl := (order_iff hG).2 hA
    rcases h with ⟨h, _⟩ | ⟨_, B, c, he, hi⟩
    · omega
    · exact ⟨B, c, he, hi, hb⟩
theorem thin_no (n : Nat) (A : Option Addr) (len cap : Nat) (ns : List (Nat × Nat)) (hlen : Hid (len = ns.length)) (hG : GOk n ns) (hA : ¬ Acyclic ns) (w : World) (hE : NRow w A ns) (hT : Tab w) :
    Calls Tryd.prog 17 #[.agg #[.int .i64 n, .slice A len cap]] w (Ret (.tuple #[.slice none 0 0, .int .i64 21]) w) :=
  (thin_ok n A len cap ns hlen hG w hE hT).mono fun e w' ⟨hb, h⟩ => by
    rcases h with ⟨_, he⟩ | ⟨h, _⟩
    · exact ⟨he, hb⟩
    · exact absurd ((order_iff hG).1 h) hA
theorem circle_yes (n : Nat) (A : Option Addr) (len cap : Nat) (ns : List (Nat × Nat)) (hlen : Hid (len = ns.length)) (hG : GOk n ns) (hA : ¬ Acyclic ns) (w : World) (hE : NRow w A ns) :
    Calls Tryd.prog 18 #[.agg #[.int .i64 n, .slice A len cap]] w (Ret (.bool true) w) :=
  (circle_any n A len cap ns hlen hG w hE).mono fun e w' ⟨c, he, hc, hb⟩ => by
    have : c = true := hc.2 (Classical.byContradiction fun h => hA fun a ha => h ⟨a, ha⟩)
    subst this
    exact ⟨he, hb⟩
theorem circle_no (n : Nat) (A : Option Addr) (len cap : Nat) (ns : List (Nat × Nat)) (hlen : Hid (len = ns.length)) (hG : GOk n ns) (hA : Acyclic ns) (w : World) (hE : NRow w A ns) :
    Calls Tryd.prog 18 #[.agg #[.int .i64 n, .slice A len cap]] w (Ret (.bool false) w) :=
  (circle_any n A len cap ns hlen hG w hE).mono fun e w' ⟨c, he, hc, hb⟩ => by
    have : c = false := by
      rw [← Bool.not_eq_true]
      exact fun h => (hc.1 h).elim hA
    subst this
    exact ⟨he, hb⟩
theorem small_n {n : Nat} {es : List (Int × Int)} (hs : smallB n es = true) (hr : rightB n es = true) : n ≤ 20 ∧ es.length ≤ 100 := by
  simp only [smallB, hr, Bool.not_true, Bool.or_false, Bool.and_eq_true, decide_eq_true_eq] at hs
  omega

/-! ### two pairs, held against each other -/
theorem eq_int (d : Nat) (a b : Int) (w : World) : (Op.equalIn (d + 1) 3 (.int .i64 a) (.int .i64 b)).run Tryd.prog w = .ok (a == b) w := by
  simp [Op.equalIn, run_underlying (P := Tryd.prog) Tryd.underlying3]
theorem eq_pair (d : Nat) (x y : Int) (w : World) : (Op.equalIn (d + 2) 39 (.agg #[.int .i64 x, .int .i64 y]) (.agg #[.int .i64 x, .int .i64 y])).run Tryd.prog w = .ok true w := by
  have h3 : (sizeOf 3).run Tryd.prog w = .ok 1 w := by kernel_rfl
  have ha : (isAgg 3).run Tryd.prog w = .ok false w := by kernel_rfl
  rw [Op.equalIn]
  simp only [Sem.run_bind, run_underlying (P := Tryd.prog) Tryd.underlying39, Result.andThen_ok, h3]
  simp [Std.Legacy.Range.forIn_eq_forIn_range', Std.Legacy.Range.size, part, ha, List.range', eq_int]
theorem neq_pair (x y : Int) (w : World) : (binOp .neq 39 (.agg #[.int .i64 x, .int .i64 y]) (.agg #[.int .i64 x, .int .i64 y])).run Tryd.prog w = .ok (.bool false) w := by
  simp only [binOp]
  simp [Op.equal, Op.maxDepth, eq_pair 9998 x y w]
end Go.Proofs.YtpdhggfmkmiebaaDoor
