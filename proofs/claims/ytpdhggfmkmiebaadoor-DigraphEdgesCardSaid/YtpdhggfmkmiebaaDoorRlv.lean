/- The contract of the document's Levels. -/
import Derived.Test.YtpdhggfmkmiebaaDoorRor
import Derived.Test.YtpdhggfmkmiebaaDoorLev
namespace Go.Proofs.YtpdhggfmkmiebaaDoor
open Go.RowKit

/-- node i is raised by an edge, if it leads to i -/
def rlStep (i : Nat) (e : Nat × Nat) (f : Nat → Nat) (j : Nat) : Nat := if j = i ∧ e.2 = i ∧ f i < f e.1 + 1 then f e.1 + 1 else f j
/-- node i is raised by all edges of a list -/
def rlIn (i : Nat) (f : Nat → Nat) (es : List (Nat × Nat)) : Nat → Nat := es.foldl (fun f e => rlStep i e f) f
def rlAll (ns : List (Nat × Nat)) (l : List Nat) : Nat → Nat := l.foldl (fun f i => rlIn i f ns) (fun _ => 0)
theorem rlIn_snoc (i : Nat) (f : Nat → Nat) (es : List (Nat × Nat)) (e : Nat × Nat) : rlIn i f (es ++ [e]) = rlStep i e (rlIn i f es) := by simp [rlIn, List.foldl_append]
theorem rlAll_snoc (ns : List (Nat × Nat)) (l : List Nat) (i : Nat) : rlAll ns (l ++ [i]) = rlIn i (rlAll ns l) ns := by simp [rlAll, List.foldl_append]
theorem rlStep_le {i : Nat} {e : Nat × Nat} {f : Nat → Nat} {t : Nat} (h : ∀ j, f j ≤ t) (j : Nat) : rlStep i e f j ≤ t + 1 := by
  unfold rlStep
  have h1 := h e.1
  have h2 := h j
  split <;> omega
theorem rlIn_le {i : Nat} : ∀ (es : List (Nat × Nat)) {f : Nat → Nat} {t : Nat}, (∀ j, f j ≤ t) → ∀ j, rlIn i f es j ≤ t + es.length
  | [], f, t, h, j => h j
  | e :: r, f, t, h, j => by
    have := rlIn_le (i := i) r (rlStep_le (i := i) (e := e) h) j
    simp only [rlIn, List.foldl_cons, List.length_cons] at this ⊢
    omega
theorem rlAll_le_aux (ns : List (Nat × Nat)) : ∀ (l : List Nat) (f : Nat → Nat) (t : Nat), (∀ j, f j ≤ t) → ∀ j, l.foldl (fun f i => rlIn i f ns) f j ≤ t + l.length * ns.length
  | [], f, t, h, j => by simpa using h j
  | i :: r, f, t, h, j => by
    have := rlAll_le_aux ns r (rlIn i f ns) (t + ns.length) (rlIn_le ns h) j
    simp only [List.foldl_cons, List.length_cons, Nat.add_mul, Nat.one_mul] at this ⊢
    omega
theorem rlAll_le (ns : List (Nat × Nat)) (l : List Nat) (j : Nat) : rlAll ns l j ≤ l.length * ns.length := by
  have := rlAll_le_aux ns l (fun _ => 0) 0 (fun _ => Nat.le_refl _) j
  rwa [Nat.zero_add] at this

theorem irow_set {w : World} {b o : Nat} {l : List Nat} (h : IRow w (some ⟨b, o, none⟩) l) {p : Addr} (hp : b ≠ p.block) (u : Value) : IRow (w.setCell p u) (some ⟨b, o, none⟩) l := fun k hk => by
  obtain ⟨b', o', e, h1⟩ := h k hk
  simp only [Option.some.injEq, Addr.mk.injEq, and_true] at e
  obtain ⟨rfl, rfl⟩ := e
  exact ⟨b, o, rfl, (World.cell?_setCell_other _ _ _ _ (fun e => hp (by rw [e]))).trans h1⟩

set_option maxRecDepth 100000 in
set_option maxHeartbeats 1000000 in
theorem levelsR_any (n : Nat) (A : Option Addr) (len cap : Nat) (ns : List (Nat × Nat)) (hlen : Hid (len = ns.length)) (hG : GOk n ns) (w : World) (hE : NRow w A ns) (hv : (orderV n ns).length = n) :
    Calls Tryd.prog 30 #[.agg #[.int .i64 n, .slice A len cap]] w (RetRow 3 n (i64F (rlAll ns (orderV n ns))) w) := by
  have h1 : n ≤ 64 := hG.hn
  have h2 : len ≤ 4096 := by rw [hlen.out]; exact hG.hl
  have HVl := Lib.hid hv
  have hmk := run_make_row' (P := Tryd.prog) 47 3 (.int .i64 0) 8 Tryd.underlying47 info3 rfl .i64 .i64 n (by omega) (by omega)
  clear hv
  go_enter Tryd.func30, Tryd.ntmps30
  go_wp2_with fail
  have hB0 : Below w.heap.size w ((w.alloc (Obj.cells #[Value.int IntKind.i64 n, Value.slice A len cap] 31)).alloc (Obj.cells (madeCells #[Value.int IntKind.i64 0] n) 3)) := below_alloc (below_alloc (Below.refl _ _) _) _
  refine (orderR_any n A len cap ns hlen hG _ (hE.below hB0) HVl.out).mono ?_
  rintro e w2 ⟨hb2, OA, oc, he, hI, hOA⟩
  rw [HVl.out] at he
  subst he
  simp only [World.size_alloc] at hOA
  simp only [World.size_alloc] at hb2
  have hB2 : Below w.heap.size w w2 := below_then hB0 hB0.size (by simpa using hb2)
  have hbox : Below (w.heap.size + 1) (w.alloc (Obj.cells #[Value.int IntKind.i64 n, Value.slice A len cap] 31)) w2 := ((Below.refl _ _).alloc (by simp) _).trans (hb2.mono (by omega))
  have hrow0 : w2.rowIs (w.heap.size + 1) 3 n (i64F (fun _ => 0)) := by
    have := World.rowIs_made (w.alloc (Obj.cells #[Value.int IntKind.i64 n, Value.slice A len cap] 31)) (.int .i64 0) n 3
    simp only [World.size_alloc] at this
    exact row_below this hb2 (by omega)
  have hs2 : w.heap.size + 1 < w2.heap.size := hrow0.lt
  have hlt := orderV_lt ns h1
  have hvl := HVl.out
  obtain ⟨l, hl'⟩ : ∃ l, orderV n ns = l := ⟨_, rfl⟩
  rw [hl'] at hvl hlt hI ⊢
  have HO := Lib.hid hl'
  have HI := Lib.hid hI
  have HLT := Lib.hid hlt
  have HLen := Lib.hid hvl
  clear hmk hb2 hl' hI hlt hvl
  have HOA := Lib.hid hOA
  clear hOA
  go_wp2
  go_loopg [5] n (fun g s wr => ∃ p : Nat, p ≤ n ∧ g = n - p ∧ s = .int .i64 p ∧ wr.rowIs (w.heap.size + 1) 3 n (i64F (rlAll ns (l.take p))) ∧ IRow wr OA l ∧ Below (w.heap.size + 1) (w.alloc (Obj.cells #[Value.int IntKind.i64 n, Value.slice A len cap] 31)) wr)
  case atStart => exact ⟨0, by omega, rfl, rfl, hrow0, HI.out, hbox⟩
  case round =>
    obtain ⟨p, hp, rfl, rfl, hrow, hI, hb⟩ := hrel
    have d1 : wr.cell? ⟨w.heap.size, 1, none⟩ = some (.slice A len cap) := (hb.cell (show w.heap.size < w.heap.size + 1 by omega)).trans (World.cell?_alloc_at _ _ _ _ rfl)
    by_cases hlt : p < n
    · have hp' : p < l.length := by rw [HLen.out]; exact hlt
      obtain ⟨ob, oo, hoA, hoc⟩ := hI p hp'
      have hob := HOA.out _ hoA
      subst hoA
      have hobne : ob ≠ w.heap.size + 1 := by have : w.heap.size + 1 + 1 ≤ ob := hob; omega
      have hin : l.getD p 0 < n := HLT.out _ (getD_mem l 0 hp')
      have HTK := Lib.hid (take_snoc l 0 hp')
      have hfle : ∀ j, rlAll ns (l.take p) j ≤ 300000 := fun j => by
        have := rlAll_le ns (l.take p) j
        have e1 : (l.take p).length ≤ 64 := Nat.le_trans (List.length_take_le _ _) (by omega)
        exact Nat.le_trans this (Nat.le_trans (Nat.mul_le_mul e1 hG.hl) (by omega))
      obtain ⟨i, hi⟩ : ∃ i, l.getD p 0 = i := ⟨_, rfl⟩
      rw [hi] at hoc hin HTK
      obtain ⟨f, hf⟩ : ∃ f, rlAll ns (l.take p) = f := ⟨_, rfl⟩
      rw [hf] at hrow hfle
      have HF := Lib.hid hf
      have HFL := Lib.hid hfle
      have HR0 := Lib.hid hrow
      have HI0 := Lib.hid hI
      have HB0 := Lib.hid hb
      clear hi hf hfle hrow hI hb hob
      clear HI
      go_wp2
      obtain ⟨wo, rfl⟩ : ∃ wo : World, wo = wr := ⟨_, rfl⟩
      go_loopg [6] len (fun g s wr => ∃ k : Nat, k ≤ len ∧ g = len - k ∧ s = .int .i64 k ∧ wr.rowIs (w.heap.size + 1) 3 n (i64F (rlIn i f (ns.take k))) ∧ IRow wr (some ⟨ob, oo, none⟩) l ∧ wr.cell? ⟨ob, oo + p, none⟩ = some (.int .i64 (i : Nat)) ∧ Below (w.heap.size + 1) (w.alloc (Obj.cells #[Value.int IntKind.i64 n, Value.slice A len cap] 31)) wr)
      case atStart => exact ⟨0, by omega, rfl, rfl, HR0.out, HI0.out, hoc, HB0.out⟩
      case round =>
        clear hoc d1
        obtain ⟨k, hk, rfl, rfl, hrow, hI, hoc, hb⟩ := hrel
        have d1 : wr.cell? ⟨w.heap.size, 1, none⟩ = some (.slice A len cap) := (hb.cell (show w.heap.size < w.heap.size + 1 by omega)).trans (World.cell?_alloc_at _ _ _ _ rfl)
        by_cases hlt3 : k < len
        · have hlt' : k < ns.length := by rw [← hlen.out]; exact hlt3
          have hEr : NRow wr A ns := hE.below (below_new hb)
          obtain ⟨eb, o, rfl, c1, c2⟩ := hEr k hlt'
          clear hEr
          obtain ⟨q1, q2⟩ := hG.hk k hlt'
          obtain ⟨x, hx⟩ : ∃ x, (ns.getD k (0, 0)).1 = x := ⟨_, rfl⟩
          obtain ⟨y, hy⟩ : ∃ y, (ns.getD k (0, 0)).2 = y := ⟨_, rfl⟩
          have hxy : ns.getD k (0, 0) = (x, y) := by rw [← hx, ← hy]
          have htk : ns.take (k + 1) = ns.take k ++ [(x, y)] := by rw [take_snoc ns (0, 0) hlt', hxy]
          rw [hx] at c1 q1
          rw [hy] at c2 q2
          have hst : rlIn i f (ns.take (k + 1)) = rlStep i (x, y) (rlIn i f (ns.take k)) := by rw [htk, rlIn_snoc]
          have e1 : wr.cell? ⟨w.heap.size + 1, i, none⟩ = some (.int .i64 (rlIn i f (ns.take k) i : Nat)) := hrow.cell hin
          have e2 : wr.cell? ⟨w.heap.size + 1, x, none⟩ = some (.int .i64 (rlIn i f (ns.take k) x : Nat)) := hrow.cell q1
          have e3 : wr.frozen? ⟨w.heap.size + 1, i, none⟩ = false := hrow.frozen i
          have hle1 : rlIn i f (ns.take k) i ≤ 400000 := by have h1 := rlIn_le (i := i) (ns.take k) HFL.out i; have h2 : (ns.take k).length ≤ k := List.length_take_le _ _; omega
          have hle2 : rlIn i f (ns.take k) x ≤ 400000 := by have h1 := rlIn_le (i := i) (ns.take k) HFL.out x; have h2 : (ns.take k).length ≤ k := List.length_take_le _ _; omega
          have HR2 := Lib.hid hrow
          have HI2 := Lib.hid hI
          have HB2 := Lib.hid hb
          clear hx hy hxy htk hrow hI hb
          by_cases hq : y = i
          · have t1 : ((y : Int) == i) = true := by simp; omega
            by_cases hm : rlIn i f (ns.take k) i < rlIn i f (ns.take k) x + 1
            · have HN : Hid (∀ j, rlIn i f (ns.take (k + 1)) j = if j = i then rlIn i f (ns.take k) x + 1 else rlIn i f (ns.take k) j) := Lib.hid (fun j => by rw [hst]; simp only [rlStep, hq, hm, and_true])
              clear hst
              obtain ⟨u, hu⟩ : ∃ u, rlIn i f (ns.take k) i = u := ⟨_, rfl⟩
              obtain ⟨v, hv⟩ : ∃ v, rlIn i f (ns.take k) x = v := ⟨_, rfl⟩
              rw [hu] at e1 hle1 hm
              rw [hv] at e2 hle2 hm HN
              have t2 : (u : Int) < (v : Int) + 1 := by omega
              clear hu hv hq hm
              go_wp2
              go_quiet (fail)
              go_wp2
              go_region
              go_wp2
              go_roundg (len - (k + 1))
              case measure => omega
              case rel =>
                refine ⟨k + 1, by omega, rfl, by go_num, (World.rowIs.set (w := wr.drewN _) HR2.out i _).congr (fun j _ => ?_), irow_set (w := wr.drewN _) HI2.out (by exact hobne) _, (World.cell?_setCell_other _ _ _ _ (fun e => hobne (by have := congrArg Addr.block e; exact this.symm))).trans hoc, (below_drewN HB2.out _).setCell (by exact Nat.le_refl _) _⟩
                simp only [i64F, HN.out j]
                split <;> simp
            · have HN : Hid (∀ j, rlIn i f (ns.take (k + 1)) j = rlIn i f (ns.take k) j) := Lib.hid (fun j => by rw [hst]; simp [rlStep, hm])
              clear hst
              obtain ⟨u, hu⟩ : ∃ u, rlIn i f (ns.take k) i = u := ⟨_, rfl⟩
              obtain ⟨v, hv⟩ : ∃ v, rlIn i f (ns.take k) x = v := ⟨_, rfl⟩
              rw [hu] at e1 hle1 hm
              rw [hv] at e2 hle2 hm
              have t2 : ¬ (u : Int) < (v : Int) + 1 := by omega
              clear hu hv hq hm
              go_wp2
              go_quiet (fail)
              go_wp2
              go_roundg (len - (k + 1))
              case measure => omega
              case rel => exact ⟨k + 1, by omega, rfl, by go_num, HR2.out.congr (fun j _ => by simp only [i64F, HN.out j]), HI2.out, hoc, below_drewN HB2.out _⟩
          · have t1 : ((y : Int) == i) = false := by simp; omega
            have HN : Hid (∀ j, rlIn i f (ns.take (k + 1)) j = rlIn i f (ns.take k) j) := Lib.hid (fun j => by rw [hst]; simp [rlStep, hq])
            clear hst hq
            go_wp2
            go_quiet (fail)
            go_wp2
            go_roundg (len - (k + 1))
            case measure => omega
            case rel => exact ⟨k + 1, by omega, rfl, by go_num, HR2.out.congr (fun j _ => by simp only [i64F, HN.out j]), HI2.out, hoc, below_drewN HB2.out _⟩
        · obtain rfl : k = len := by omega
          have HN : Hid (rlIn i f ns = rlAll ns (l.take (p + 1))) := Lib.hid (by rw [HTK.out, rlAll_snoc, HF.out])
          have HT2 : Hid (ns.take k = ns) := Lib.hid (by rw [hlen.out, List.take_length])
          have HR2 := Lib.hid hrow
          have HI2 := Lib.hid hI
          have HB2 := Lib.hid hb
          clear hrow hI hb
          go_wp2
          go_roundg (n - (p + 1))
          case measure => omega
          case rel => exact ⟨p + 1, by omega, rfl, by go_num, by have := HR2.out; rw [HT2.out, HN.out] at this; exact this, HI2.out, HB2.out⟩
    · obtain rfl : p = n := by omega
      have HT2 : Hid (l.take p = l) := Lib.hid (by rw [← HLen.out, List.take_length])
      go_wp2
      go_ret
      rw [HT2.out] at hrow
      exact ⟨w.heap.size + 1, rfl, by omega, by rw [HO.out]; exact hrow, below_new hb⟩
end Go.Proofs.YtpdhggfmkmiebaaDoor
