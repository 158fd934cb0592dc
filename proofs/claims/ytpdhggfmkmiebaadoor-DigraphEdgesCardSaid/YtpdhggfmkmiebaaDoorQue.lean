/- A list of ints of the call's own from whose front it takes and at whose end it appends. -/
import Derived.Test.YtpdhggfmkmiebaaDoorOwn
import Derived.ArgAppend
namespace Go.Proofs.YtpdhggfmkmiebaaDoor
open Go.RowKit

/-- n ints lie in block b from off on, with room up to cap, in a block of the call's own -/
def QRow (w : World) (base b off n cap : Nat) (xs : List Nat) : Prop :=
  base ≤ b ∧ xs.length = n ∧ n ≤ cap ∧ ∃ cur : Array Value, w.heap[b]? = some (.cells cur 3 (0, 0)) ∧ off + cap ≤ cur.size ∧ ∀ j, j < n → cur[off + j]? = some (.int .i64 (xs.getD j 0 : Nat))
section
variable {w w1 : World} {base b off n cap : Nat} {xs : List Nat}
theorem QRow.lt (h : QRow w base b off n cap xs) : b < w.heap.size := by
  obtain ⟨_, _, _, cur, hb, _⟩ := h
  exact (Array.getElem?_eq_some_iff.1 hb).1
theorem QRow.cell (h : QRow w base b off n cap xs) {j : Nat} (hj : j < n) : w.cell? ⟨b, off + j, none⟩ = some (.int .i64 (xs.getD j 0 : Nat)) := by
  obtain ⟨_, _, _, cur, hb, _, hc⟩ := h
  rw [cell_of_row w b _ cur 3 (0, 0) hb]
  exact hc j hj
theorem QRow.of_block (h : QRow w base b off n cap xs) (e : w1.heap[b]? = w.heap[b]?) : QRow w1 base b off n cap xs := by
  obtain ⟨h1, h2, h3, cur, hb, h4, hc⟩ := h
  exact ⟨h1, h2, h3, cur, e.trans hb, h4, hc⟩
theorem QRow.below {B : Nat} (h : QRow w base b off n cap xs) (hb : Below B w w1) (hB : b < B) : QRow w1 base b off n cap xs := h.of_block (hb.block b hB)
theorem QRow.alloc (h : QRow w base b off n cap xs) (o : Obj) : QRow (w.alloc o) base b off n cap xs := h.of_block (Below.heap_alloc w o b h.lt)
theorem QRow.drew (h : QRow w base b off n cap xs) : QRow w.drew base b off n cap xs := h
theorem QRow.setOther (h : QRow w base b off n cap xs) {p : Addr} (hp : b ≠ p.block) (u : Value) : QRow (w.setCell p u) base b off n cap xs := h.of_block (Below.heap_setCell w p u b hp)
theorem QRow.ne (h : QRow w base b off n cap xs) {ob m : Nat} {t : TypeId} {f : Nat → Value} (hr : w.rowIs ob t m f) (ht : t ≠ 3) : b ≠ ob := by
  rintro rfl
  obtain ⟨_, _, _, cur, hb, _⟩ := h
  obtain ⟨c, hb', _⟩ := hr
  rw [hb] at hb'
  simp only [Option.some.injEq, Obj.cells.injEq] at hb'
  exact ht hb'.2.1.symm
theorem QRow.new (hB : base ≤ w.heap.size) (a : Nat) : QRow (w.alloc (.cells #[.int .i64 (a : Int)] 3)) base w.heap.size 0 1 1 [a] := by
  refine ⟨hB, rfl, Nat.le_refl _, _, heap_alloc_new w _, by simp, fun j hj => ?_⟩
  obtain rfl : j = 0 := by omega
  simp
theorem QRow.pop {x : Nat} {q : List Nat} (h : QRow w base b off (n + 1) cap (x :: q)) : (cap = 1 ∧ n = 0 ∧ QRow w base b off n 0 q) ∨ (cap ≠ 1 ∧ QRow w base b (off + 1) n (cap - 1) q) := by
  obtain ⟨h1, h2, h3, cur, hb, h4, hc⟩ := h
  have hq : q.length = n := by simpa using h2
  by_cases e : cap = 1
  · exact .inl ⟨e, by omega, h1, hq, by omega, cur, hb, by omega, fun j hj => by omega⟩
  · refine .inr ⟨e, h1, hq, by omega, cur, hb, by omega, fun j hj => ?_⟩
    have := hc (j + 1) (by omega)
    rw [List.getD_cons_succ] at this
    rw [← this]
    congr 1
    omega
end

section
variable {P : Program} {ops : Array Oper} {o : Oper} {a : Act} {Q : Exit → Act → World → Prop} {rest : List Oper} {w w0 : World}
/-- one int is appended -/
theorem list_push (B base : Nat) (hgd : o.guard = none) (s x : Operand) (t : TypeId)
    (ho : o.op = .call { callee := .builtin .append, args := #[s, x], argTypes := #[t, t] })
    (ht : P.underlying t = some (.slice 3)) (hinfo : (P.info? 3).map (fun i => (i.zero, i.size, i.bytes)) = some (some (.int .i64 0), 1, 8))
    (b off n cap : Nat) (xs : List Nat) (y N : Nat) (hs : a.eval s = .slice (some ⟨b, off, none⟩) n cap) (hx : a.eval x = .slice (some ⟨N, 0, none⟩) 1 1)
    (HN : w.heap[N]? = some (.cells #[.int .i64 (y : Int)] 3 (0, 0))) (HO : QRow w base b off n cap xs) (HB : Below B w0 w) (hB : B ≤ base) (hbase : base ≤ w.heap.size) (hl : n ≤ 1000000)
    (h : ∀ b' off' cap' w1, QRow w1 base b' off' (n + 1) cap' (xs ++ [y]) → Below B w0 w1 → (∀ (ob m : Nat) (t : TypeId) (f : Nat → Value), t ≠ 3 → w.rowIs ob t m f → w1.rowIs ob t m f) → wpList P ops Q rest (a.put o.dst (.slice (some ⟨b', off', none⟩) (n + 1) cap')) w1) :
    wpList P ops Q (o :: rest) a w := by
  obtain ⟨i0, hi, hzz⟩ := Option.map_eq_some_iff.1 hinfo
  simp only [Prod.mk.injEq] at hzz
  obtain ⟨hz0, hz1, hz2⟩ := hzz
  have HO' := HO
  obtain ⟨g1, g2, g3, cur, gb, g4, gc⟩ := HO
  have hcell : ∀ j, w.cell? ⟨b, j, none⟩ = cur[j]? := fun j => cell_of_row w b j cur 3 (0, 0) gb
  have hfz : ∀ j, w.frozen? ⟨b, j, none⟩ = false := fun j => by simp [World.frozen?, gb]
  have hge : ∀ j u, (ints xs)[j]? = some u → w.cell? ⟨b, off + j, none⟩ = some u := fun j u hu => by
    have hj : j < xs.length := by
      rcases Nat.lt_or_ge j xs.length with h1 | h1
      · exact h1
      · rw [List.getElem?_eq_none (by rw [ints_length]; exact h1)] at hu; cases hu
    rw [ints_get xs j hj] at hu
    rw [HO'.cell (by omega)]
    exact hu
  refine wpList_append_arg w hgd s x t ho 3 i0 (.int .i64 0) 1 8 ht hi hz0 hz1 hz2 rfl (by decide) b off n cap (ints xs) hs (by rw [ints_length]; omega) hge ⟨N, 0, none⟩ 1 1 [.int .i64 (y : Int)] hx rfl
    (by simpa using World.news_of_block (cs := #[.int .i64 (y : Int)]) HN) (by intro u hu; simp at hu; subst hu; rfl) (fun hr j hj => ?_) (by simp only [maxLen]; omega) (by omega) (fun hr => ?_) (fun hg v' w1 hown hgr => ?_)
  · obtain rfl : j = 0 := by simpa using hj
    refine ⟨?_, hfz _⟩
    rw [hcell, Array.getElem?_eq_getElem (by omega)]
    rfl
  · refine h b off cap _ ?_ ?_ ?_
    · refine ⟨g1, by simp; omega, by omega, cur.setIfInBounds (off + n) (.int .i64 (y : Int)), ?_, by simpa using g4, fun j hj => ?_⟩
      · simp [World.setCells, World.setCell, Array.getElem?_modify, gb]
      · rw [Array.getElem?_setIfInBounds]
        by_cases e : j = n
        · subst e
          rw [if_pos rfl, if_pos (by omega)]
          simp [List.getD, g2]
        · rw [if_neg (by omega), gc j (by omega)]
          have : (xs ++ [y]).getD j 0 = xs.getD j 0 := by
            simp only [List.getD]
            rw [List.getElem?_append_left (by omega)]
          rw [this]
    · simp only [World.setCells]
      exact HB.setCell (by show B ≤ b; omega) _
    · intro ob m t f ht' hrow
      simp only [World.setCells]
      exact hrow.setOther (by exact fun e => HO'.ne hrow ht' e.symm) _
  · obtain ⟨g, cap', hv, hg1, hg2⟩ := hown.form (by omega)
    subst hv
    refine h g 0 cap' w1 ?_ (HB.grown hgr (by omega) (fun k hk => by cases hk)) (fun ob m t f _ hrow => hrow.of_block (hgr.block ob hrow.lt (by simp)))
    obtain ⟨_, h2⟩ := hown
    rcases h2 with ⟨h2, _⟩ | ⟨g', cap2, cur2, hv2, hb2, hh2, hn2, _, hsz2, htk⟩
    · cases h2
    · simp only [Value.slice.injEq, Option.some.injEq, Addr.mk.injEq, and_true, true_and] at hv2
      obtain ⟨rfl, rfl⟩ := hv2
      refine ⟨by omega, by simp; omega, hn2, cur2, hh2, by omega, fun j hj => ?_⟩
      rw [Nat.zero_add]
      have h3 : (cur2.toList.take ((n + 1) * 1))[j]? = (ints (xs ++ [y]))[j]? := by rw [htk, ints_snoc]
      rw [ints_get _ j (by simp; omega), List.getElem?_take_of_lt (by omega)] at h3
      simpa using h3
end
end Go.Proofs.YtpdhggfmkmiebaaDoor
