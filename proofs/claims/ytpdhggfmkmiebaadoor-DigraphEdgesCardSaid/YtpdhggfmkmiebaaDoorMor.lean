/- An edge behind a copy of all edges: the two appends as steps of a region that draws its order. -/
import Derived.Test.YtpdhggfmkmiebaaDoorLw5
import Derived.Deep.RegionHeld3
import Derived.Deep.AppendLies
namespace Go.Proofs.YtpdhggfmkmiebaaDoor
open Go.RowKit

theorem news_edges {W : World} {b o : Nat} {ns : List (Nat × Nat)} (hE : NRow W (some ⟨b, o, none⟩) ns) (j : Nat) (u : Value) (h : (prs ns)[j]? = some u) : W.cell? ((⟨b, o, none⟩ : Addr).add j) = some u := by
  have hj : j < ns.length * 2 := by rw [← prs_length]; exact (List.getElem?_eq_some_iff.1 h).1
  have hk : j / 2 < ns.length := by omega
  obtain ⟨b', o', he, d1, d2⟩ := hE (j / 2) hk
  obtain ⟨p1, p2⟩ := prs_get ns (j / 2) hk
  have hb : b' = b := by simp at he; exact he.1.symm
  have ho : o' = o := by simp at he; exact he.2.symm
  subst hb ho
  rw [Addr.add_lit]
  rcases Nat.mod_two_eq_zero_or_one j with hm | hm
  · rw [show j / 2 * 2 = j by omega] at d1 p1
    rw [d1, ← p1, h]
  · rw [show o' + j / 2 * 2 + 1 = o' + j by omega] at d2
    rw [show j / 2 * 2 + 1 = j by omega] at p2
    rw [d2, ← p2, h]
theorem prs_one (l : List (Nat × Nat)) : ∀ u ∈ prs l, u.oneCell' = true := by
  intro u hu
  unfold prs at hu
  rw [List.mem_flatMap] at hu
  obtain ⟨e, _, h⟩ := hu
  simp at h
  rcases h with rfl | rfl <;> rfl
theorem lift_alloc {W : World} {k : Nat} {x : Obj} (o : Obj) (h : W.heap[k]? = some x) : (W.alloc o).heap[k]? = some x := by
  have hl : k < W.heap.size := (Array.getElem?_eq_some_iff.1 h).1
  have : W.grownBy (W.alloc o) none := World.grownBy_alloc W o none
  rw [this.block k hl (by simp), h]
theorem lift_drew {W : World} {k : Nat} {x : Obj} (h : W.heap[k]? = some x) : W.drew.heap[k]? = some x := h
theorem size_drew' (W : World) : W.drew.heap.size = W.heap.size := rfl
theorem heap_drew' (W : World) : W.drew.heap = W.heap := rfl
theorem sz1 (W : World) (a : Obj) : (W.alloc a).heap.size = W.heap.size + 1 := by rw [World.size_alloc]
theorem sz2 (W : World) (a b : Obj) : ((W.alloc a).alloc b).heap.size = W.heap.size + 2 := by rw [World.size_alloc, World.size_alloc]
theorem at_new {W : World} {k : Nat} {o : Obj} (h : W.heap.size = k) : (W.alloc o).heap[k]? = some o := by
  subst h
  exact Go.heap_alloc_new W o
theorem zero_own {W : World} {base Z : Nat} (h : W.heap[Z]? = some (.cells #[] 39 (0, 0))) (hb : base ≤ Z) : W.ownsRow base 39 2 (.slice (some ⟨Z, 0, none⟩) 0 0) 0 [] :=
  ⟨by simp, .inr ⟨Z, 0, #[], rfl, hb, h, Nat.le_refl _, by decide, by simp, by simp⟩⟩
theorem box_facts {W : World} {M : Nat} {x y : Value} {t : TypeId} (h : W.heap[M]? = some (.cells #[x, y] t (0, 0))) : W.cell? ⟨M, 0, none⟩ = some x ∧ W.cell? ⟨M, 1, none⟩ = some y ∧ W.frozen? ⟨M, 0, none⟩ = false ∧ W.frozen? ⟨M, 1, none⟩ = false :=
  ⟨by rw [cell_of_row W M 0 _ _ _ h]; rfl, by rw [cell_of_row W M 1 _ _ _ h]; rfl, by simp [World.frozen?, h], by simp [World.frozen?, h]⟩
theorem own_type {W : World} {base size n : Nat} {e : TypeId} {g c : Nat} {xs : List Value} (h : W.ownsRow base e size (.slice (some ⟨g, 0, none⟩) n c) n xs) {M : Nat} {cs : Array Value} {t : TypeId} (hM : W.heap[M]? = some (Obj.cells cs t (0, 0))) (hne : t ≠ e) : M ≠ g := by
  rintro rfl
  rcases h.2 with ⟨h, _⟩ | ⟨g', cap, cur, h, _, hg, _⟩
  · cases h
  · simp at h
    obtain ⟨rfl, _⟩ := h
    rw [hM] at hg
    simp at hg
    exact hne hg.2
theorem own_setc {w : World} {base size n M i g c : Nat} {e : TypeId} {u : Value} {xs : List Value} (h : w.ownsRow base e size (.slice (some ⟨g, 0, none⟩) n c) n xs) (hT : M ≠ g) : (w.setCell ⟨M, i, none⟩ u).ownsRow base e size (.slice (some ⟨g, 0, none⟩) n c) n xs :=
  h.kept (row := some M) ⟨rfl, rfl, rfl, by simp, fun k _ hne => heap_setCell_other w ⟨M, i, none⟩ k u (fun e => hne (by rw [e]))⟩ (.inr fun e => hT (by simp [Value.ownBlock] at e; exact e.symm))

theorem keepS {w5 W : World} {b : Nat} {N : Int} {A : Option Addr} {len cap : Nat} (h : GBox w5 b N A len cap) (hb : Below w5.heap.size w5 W) : W.cell? ⟨b, 0, none⟩ = some (.int .i64 N) ∧ W.cell? ⟨b, 1, none⟩ = some (.slice A len cap) :=
  ⟨(h.below hb).c0, (h.below hb).c1⟩

section
variable {P : Program} {ops : Array Oper} {o : Oper} {a : Act} {Q : Exit → Act → World → Prop} {K : Act → World → Prop} {W w5 : World} {E : Prop}
/-- all edges are copied behind the empty row at Z -/
theorem step_edges (hgd : o.guard = none) (s x : Operand) (ho : o.op = .call { callee := .builtin .append, args := #[s, x], argTypes := #[22, 22] })
    (Z eb off cap : Nat) (ns : List (Nat × Nat)) (len : Nat) (hlen : len = ns.length) (hpos : 0 < len) (hsm : len ≤ 100)
    (hs : a.eval s = .slice (some ⟨Z, 0, none⟩) 0 0) (hx : a.eval x = .slice (some ⟨eb, off, none⟩) len cap) (hZ : W.heap[Z]? = some (.cells #[] 39 (0, 0))) (hZb : w5.heap.size ≤ Z)
    (hb : Below w5.heap.size w5 W) (hE : NRow w5 (some ⟨eb, off, none⟩) ns)
    (h : ∀ g c1 w1, w1.ownsRow w5.heap.size 39 2 (.slice (some ⟨g, 0, none⟩) len c1) len (prs ns) → Below w5.heap.size w5 w1 → (∀ k y, k ≠ Z → W.heap[k]? = some y → w1.heap[k]? = some y) → (∀ (k : Nat) (cs : Array Value) (t : TypeId), t ≠ 39 → W.heap[k]? = some (Obj.cells cs t (0, 0)) → w1.heap[k]? = some (Obj.cells cs t (0, 0))) → K (a.put o.dst (.slice (some ⟨g, 0, none⟩) len c1)) w1) :
    if Region.wanted o (yielded ops a.tmps) = true then Oper.wp Tryd.prog o a W K Q else E := by
  obtain ⟨i0, hi, hzz⟩ := Option.map_eq_some_iff.1 info39
  simp only [Prod.mk.injEq] at hzz
  obtain ⟨hz0, hz1, hz2⟩ := hzz
  refine step_append_lies W hgd s x 22 ho w5.heap.size 39 i0 _ 2 16 Tryd.underlying22 hi hz0 hz1 hz2 rfl (by decide) (.slice (some ⟨Z, 0, none⟩) 0 0) 0 [] hs (zero_own hZ hZb) ⟨eb, off, none⟩ len cap (prs ns) hx (by rw [prs_length, hlen]) (news_edges (hE.below hb)) (prs_one ns) hpos (by simp only [maxLen]; omega) (by omega) hb.size _ rfl ?_
  intro g c1 w1 hown hgrow _ _
  rw [Nat.zero_add] at hown ⊢
  rw [List.nil_append] at hown
  have hc : ∀ k y, k ≠ Z → W.heap[k]? = some y → w1.heap[k]? = some y := fun k y hk hy => by
    rw [hgrow.block k (Array.getElem?_eq_some_iff.1 hy).1 (by simp [Value.ownBlock]; exact hk), hy]
  refine h g c1 w1 hown (hb.grown hgrow hb.size (fun k hk => ?_)) hc (fun k cs t ht hy => hc k _ (fun e => ?_) hy)
  · simp [Value.ownBlock] at hk; omega
  · subst e
    rw [hZ] at hy
    simp at hy
    exact ht hy.2.symm
/-- one edge is appended -/
theorem step_pair (hgd : o.guard = none) (s x : Operand) (ho : o.op = .call { callee := .builtin .append, args := #[s, x], argTypes := #[22, 22] })
    (g c1 B i j : Nat) (ns : List (Nat × Nat)) (len : Nat) (hsm : len ≤ 100)
    (hs : a.eval s = .slice (some ⟨g, 0, none⟩) len c1) (hx : a.eval x = .slice (some ⟨B, 0, none⟩) 1 1) (hN : W.heap[B]? = some (.cells #[.int .i64 i, .int .i64 j] 39 (0, 0)))
    (HO : W.ownsRow w5.heap.size 39 2 (.slice (some ⟨g, 0, none⟩) len c1) len (prs ns)) (hb : Below w5.heap.size w5 W)
    (h : ∀ g2 c2 w2, w2.ownsRow w5.heap.size 39 2 (.slice (some ⟨g2, 0, none⟩) (len + 1) c2) (len + 1) (prs (ns ++ [(i, j)])) → Below w5.heap.size w5 w2 → (∀ (k : Nat) (cs : Array Value) (t : TypeId), t ≠ 39 → W.heap[k]? = some (Obj.cells cs t (0, 0)) → w2.heap[k]? = some (Obj.cells cs t (0, 0))) → K (a.put o.dst (.slice (some ⟨g2, 0, none⟩) (len + 1) c2)) w2) :
    if Region.wanted o (yielded ops a.tmps) = true then Oper.wp Tryd.prog o a W K Q else E := by
  refine step_app (w0 := w5) w5.heap.size hgd s x 22 39 (.agg #[.int .i64 0, .int .i64 0]) 2 16 ho Tryd.underlying22 info39 rfl (by decide) (by decide) _ len (prs ns) [.int .i64 i, .int .i64 j] B hs hx rfl (by intro u hu; simp at hu; rcases hu with rfl | rfl <;> rfl) hN HO hb hb.size (by omega) ?_
  intro g2 c2 w2 q1 q2 q3
  refine h g2 c2 w2 (by rw [prs_snoc]; exact q1) q2 (fun k cs t ht hy => ?_)
  rw [q3.block k (Array.getElem?_eq_some_iff.1 hy).1 (by simp [Value.ownBlock]; exact own_type HO hy ht), hy]
end

/-- slot s points at a box that holds the graph with one edge more -/
def MoreAt (w5 : World) (n len : Nat) (l : List (Nat × Nat)) (s : Value) (wx : World) : Prop :=
  ∃ M V c, s = .pointer (some ⟨M, 0, none⟩) ∧ GBox wx M n V (len + 1) c ∧ NRow wx V l ∧ Below w5.heap.size w5 wx
theorem MoreAt.of_alloc {w5 wa : World} {n len g c : Nat} {l : List (Nat × Nat)} (own : wa.ownsRow w5.heap.size 39 2 (.slice (some ⟨g, 0, none⟩) (len + 1) c) (len + 1) (prs l)) (hb : Below w5.heap.size w5 wa) :
    MoreAt w5 n len l (.pointer (some ⟨wa.heap.size, 0, none⟩)) (wa.alloc (Obj.cells #[Value.int IntKind.i64 n, Value.slice (some ⟨g, 0, none⟩) (len + 1) c] 24)) :=
  ⟨wa.heap.size, some ⟨g, 0, none⟩, c, rfl, GBox.new wa 24 n _ (len + 1) c, own_nrow (own.alloc _), below_alloc hb _⟩
theorem MoreAt.of_set {w5 wa : World} {n len g c M : Nat} {x y : Value} {l : List (Nat × Nat)} (own : wa.ownsRow w5.heap.size 39 2 (.slice (some ⟨g, 0, none⟩) (len + 1) c) (len + 1) (prs l)) (hb : Below w5.heap.size w5 wa)
    (m2 : wa.heap[M]? = some (.cells #[x, y] 24 (0, 0))) (hne : M ≠ g) (hM : w5.heap.size ≤ M) :
    MoreAt w5 n len l (.pointer (some ⟨M, 0, none⟩)) ((wa.setCell ⟨M, 0, none⟩ (.int .i64 n)).setCell ⟨M, 1, none⟩ (.slice (some ⟨g, 0, none⟩) (len + 1) c)) := by
  obtain ⟨b0, b1, _, _⟩ := box_facts m2
  refine ⟨M, some ⟨g, 0, none⟩, c, rfl, ⟨?_, ?_⟩, own_nrow (own_setc (own_setc own hne) hne), (hb.setCell hM _).setCell hM _⟩
  · exact (World.cell?_setCell_other _ _ _ _ (by simp)).trans (World.cell?_setCell_same' _ _ _ (by rw [b0]; rfl))
  · exact World.cell?_setCell_same' _ _ _ (by rw [World.cell?_setCell_other _ _ _ _ (by simp), b1]; rfl)
end Go.Proofs.YtpdhggfmkmiebaaDoor
