/- append of one element onto a slice of the call's own, and lists of ints in memory: words for the walks. -/
import Derived.Test.YtpdhggfmkmiebaaDoorA
import Derived.Deep.AppendLies
import Derived.Deep.RegionLaw
import Derived.ScopeJumps
namespace Go.Proofs.YtpdhggfmkmiebaaDoor
open Go.RowKit

/-! ### a list of nodes in memory -/
/-- the slice at A holds these ints -/
def IRow (w : World) (A : Option Addr) (l : List Nat) : Prop :=
  ∀ k, k < l.length → ∃ b o, A = some ⟨b, o, none⟩ ∧ w.cell? ⟨b, o + k, none⟩ = some (.int .i64 (l.getD k 0 : Nat))
theorem IRow.below {w w1 : World} {A : Option Addr} {l : List Nat} (h : IRow w A l) (hb : Below w.heap.size w w1) : IRow w1 A l := fun k hk => by
  obtain ⟨b, o, hA, h1⟩ := h k hk
  exact ⟨b, o, hA, (hb.cell (World.block_lt_of_cell? _ _ h1)).trans h1⟩
theorem IRow.none_ (w : World) (A : Option Addr) : IRow w A [] := fun k hk => absurd hk (by simp)
def ints (l : List Nat) : List Value := l.map fun (x : Nat) => Value.int .i64 (x : Int)
theorem ints_length (l : List Nat) : (ints l).length = l.length := by simp [ints]
theorem ints_snoc (l : List Nat) (x : Nat) : ints (l ++ [x]) = ints l ++ [Value.int .i64 (x : Int)] := by simp [ints]
theorem ints_get (l : List Nat) (k : Nat) (hk : k < l.length) : (ints l)[k]? = some (.int .i64 (l.getD k 0 : Nat)) := by
  rw [getD_in _ _ hk]; simp [ints, hk]
theorem own_irow {w : World} {base n : Nat} {A : Option Addr} {c : Nat} {l : List Nat} (h : w.ownsRow base 3 1 (.slice A n c) n (ints l)) : IRow w A l := fun k hk => by
  have hn : n = l.length := by have := h.1; rw [ints_length] at this; omega
  obtain ⟨g, cap, hv, _, _⟩ := h.form (by omega)
  simp only [Value.slice.injEq] at hv
  obtain ⟨rfl, _, rfl⟩ := hv
  refine ⟨g, 0, rfl, ?_⟩
  rw [Nat.zero_add, h.cellAt k (by omega), ints_get l k hk]
theorem row_irow {w : World} {b n : Nat} {f : Nat → Nat} {l : List Nat} (h : w.rowIs b 3 n (i64F f)) (hn : l.length = n) (hf : ∀ k, k < n → l.getD k 0 = f k) : IRow w (some ⟨b, 0, none⟩) l := fun k hk => by
  refine ⟨b, 0, rfl, ?_⟩
  rw [Nat.zero_add, h.cell (by omega), hf k (by omega)]; rfl

theorem own_below {w w1 : World} {base n size : Nat} {e : TypeId} {v : Value} {xs : List Value} (h : w.ownsRow base e size v n xs) (hb : Below w.heap.size w w1) : w1.ownsRow base e size v n xs :=
  h.kept (row := none) ⟨hb.os, hb.tape, hb.output, hb.size, fun i hi _ => hb.block i hi⟩ (Classical.em _)

/-! ### append -/
section
variable {P : Program} {ops : Array Oper} {o : Oper} {a : Act} {Q : Exit → Act → World → Prop} {K : Act → World → Prop} {rest : List Oper} {w w0 : World} {E : Prop}
/-- one element (of 'size' cells) is appended, at a step of a region that draws -/
theorem step_app (base : Nat) (hgd : o.guard = none) (s x : Operand) (t e : TypeId) (z : Value) (size bytes : Nat)
    (ho : o.op = .call { callee := .builtin .append, args := #[s, x], argTypes := #[t, t] })
    (ht : P.underlying t = some (.slice e)) (hinfo : (P.info? e).map (fun i => (i.zero, i.size, i.bytes)) = some (some z, size, bytes)) (hz : z.cells.size = size) (hs0 : 0 < size) (hb0 : 0 < bytes)
    (v : Value) (n : Nat) (xs ys : List Value) (B : Nat) (hs : a.eval s = v) (hx : a.eval x = .slice (some ⟨B, 0, none⟩) 1 1) (hys : ys.length = size) (h1 : ∀ u ∈ ys, u.oneCell' = true)
    (HN : w.heap[B]? = some (.cells ys.toArray e (0, 0))) (HO : w.ownsRow base e size v n xs) (HB : Below base w0 w) (hbase : base ≤ w.heap.size) (hl : (n + 1) * bytes ≤ 140737488355328)
    (h : ∀ g cap w1, w1.ownsRow base e size (.slice (some ⟨g, 0, none⟩) (n + 1) cap) (n + 1) (xs ++ ys) → Below base w0 w1 → w.grownBy w1 v.ownBlock → K (a.put o.dst (.slice (some ⟨g, 0, none⟩) (n + 1) cap)) w1) :
    if Region.wanted o (yielded ops a.tmps) = true then Oper.wp P o a w K Q else E := by
  obtain ⟨i0, hi, hzz⟩ := Option.map_eq_some_iff.1 hinfo
  simp only [Prod.mk.injEq] at hzz
  obtain ⟨hz0, hz1, hz2⟩ := hzz
  have hlen : n + 1 ≤ 140737488355328 := Nat.le_trans (Nat.le_mul_of_pos_right _ hb0) hl
  refine step_append_lies w hgd s x t ho base e i0 z size bytes ht hi hz0 hz1 hz2 hz hs0 v n xs hs HO ⟨B, 0, none⟩ 1 1 ys hx (by omega) (by simpa using World.news_of_block (cs := ys.toArray) HN) h1 (by omega) (by simp only [maxLen]; omega) hl hbase _ rfl ?_
  intro g cap w1 h2 h3 _ _
  exact h g cap w1 h2 (HB.grown h3 hbase (fun k hk => (HO.lt k hk).1)) h3
/-- .. and in a plain region -/
theorem list_app (base : Nat) (hgd : o.guard = none) (s x : Operand) (t e : TypeId) (z : Value) (size bytes : Nat)
    (ho : o.op = .call { callee := .builtin .append, args := #[s, x], argTypes := #[t, t] })
    (ht : P.underlying t = some (.slice e)) (hinfo : (P.info? e).map (fun i => (i.zero, i.size, i.bytes)) = some (some z, size, bytes)) (hz : z.cells.size = size) (hs0 : 0 < size) (hb0 : 0 < bytes)
    (v : Value) (n : Nat) (xs ys : List Value) (B : Nat) (hs : a.eval s = v) (hx : a.eval x = .slice (some ⟨B, 0, none⟩) 1 1) (hys : ys.length = size) (h1 : ∀ u ∈ ys, u.oneCell' = true)
    (HN : w.heap[B]? = some (.cells ys.toArray e (0, 0))) (HO : w.ownsRow base e size v n xs) (HB : Below base w0 w) (hbase : base ≤ w.heap.size) (hl : (n + 1) * bytes ≤ 140737488355328)
    (h : ∀ g cap w1, w1.ownsRow base e size (.slice (some ⟨g, 0, none⟩) (n + 1) cap) (n + 1) (xs ++ ys) → Below base w0 w1 → w.grownBy w1 v.ownBlock → wpList P ops Q rest (a.put o.dst (.slice (some ⟨g, 0, none⟩) (n + 1) cap)) w1) :
    wpList P ops Q (o :: rest) a w := by
  obtain ⟨i0, hi, hzz⟩ := Option.map_eq_some_iff.1 hinfo
  simp only [Prod.mk.injEq] at hzz
  obtain ⟨hz0, hz1, hz2⟩ := hzz
  have hlen : n + 1 ≤ 140737488355328 := Nat.le_trans (Nat.le_mul_of_pos_right _ hb0) hl
  refine wpList_append_lies w hgd s x t ho base e i0 z size bytes ht hi hz0 hz1 hz2 hz hs0 v n xs hs HO ⟨B, 0, none⟩ 1 1 ys hx (by omega) (by simpa using World.news_of_block (cs := ys.toArray) HN) h1 (by omega) (by simp only [maxLen]; omega) hl hbase _ rfl ?_
  intro g cap w1 h2 h3 _ _
  exact h g cap w1 h2 (HB.grown h3 hbase (fun k hk => (HO.lt k hk).1)) h3
end

theorem jump_weaken {l : Nat} {J R : Act → World → Prop} {Q : Exit → Act → World → Prop} (e : Exit) (a : Act) (w : World) (h : Exit.jump l (fun a' w' => J a' w' ∧ R a' w') Q e a w) : Exit.jump l J Q e a w := by
  cases e <;> simp only [Exit.jump] at h ⊢ <;> first | exact h | exact ⟨h.1, h.2.1⟩
def lenOf : Value → Nat
  | .slice _ n _ => n
  | _ => 0
end Go.Proofs.YtpdhggfmkmiebaaDoor
