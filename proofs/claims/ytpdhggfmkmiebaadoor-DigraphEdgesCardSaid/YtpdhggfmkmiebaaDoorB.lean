/- The contracts of digraph's Check and ahead: Check answers 0 just for a right graph; ahead is the set of the beginnings of the edges to each node. -/
import Derived.Test.YtpdhggfmkmiebaaDoorA
namespace Go.Proofs.YtpdhggfmkmiebaaDoor
open Go.RowKit

/-! ### Check -/
def okE (N : Int) (e : Int × Int) : Bool := !(decide (min e.1 e.2 < 0) || decide (N ≤ max e.1 e.2))
/-- is it a graph? -/
def rightB (N : Int) (es : List (Int × Int)) : Bool := decide (0 ≤ N) && decide (N ≤ 64) && decide (es.length ≤ 4096) && es.all (okE N)
/-- the errno that Check answers -/
def checkV (N : Int) (es : List (Int × Int)) : Int := if rightB N es then 0 else 20

theorem okE_yes {N x y : Int} (h : okE N (x, y) = true) : 0 ≤ x ∧ 0 ≤ y ∧ x < N ∧ y < N := by
  simp [okE] at h; omega
theorem okE_mk {N x y : Int} (h : 0 ≤ x ∧ 0 ≤ y ∧ x < N ∧ y < N) : okE N (x, y) = true := by
  simp [okE]; omega
theorem all_bad {N : Int} {es : List (Int × Int)} {k : Nat} (hk : k < es.length) (h : okE N (es.getD k (0, 0)) = false) : es.all (okE N) = false := by
  rw [Bool.eq_false_iff]
  intro ha
  rw [List.all_eq_true] at ha
  rw [ha _ (getD_mem es (0, 0) hk)] at h
  cases h
theorem checkV_bad {N : Int} {es : List (Int × Int)} {k : Nat} (hk : k < es.length) (h : okE N (es.getD k (0, 0)) = false) : checkV N es = 20 := by
  simp [checkV, rightB, all_bad hk h]
theorem checkV_out {N : Int} {es : List (Int × Int)} (h : N < 0 ∨ 64 < N ∨ 4096 < es.length) : checkV N es = 20 := by
  unfold checkV
  rw [if_neg]
  simp [rightB]
  omega
theorem checkV_good {N : Int} {es : List (Int × Int)} (h0 : 0 ≤ N) (h1 : N ≤ 64) (h2 : es.length ≤ 4096) (h : es.all (okE N) = true) : checkV N es = 0 := by
  simp [checkV, rightB, h0, h1, h2, h]
theorem all_step {N : Int} {es : List (Int × Int)} {k : Nat} (hk : k < es.length) (h : okE N (es.getD k (0, 0)) = true) (ha : (es.take k).all (okE N) = true) : (es.take (k + 1)).all (okE N) = true := by
  rw [take_snoc es (0, 0) hk, List.all_append, ha]
  simp only [List.all_cons, List.all_nil, h, Bool.and_self]

set_option maxRecDepth 100000 in
theorem check_loop (N : Int) (A : Option Addr) (len cap : Nat) (es : List (Int × Int)) (hlen : Hid (len = es.length)) (w : World) (h0 : 0 ≤ N) (h1 : N ≤ 64) (h2 : len ≤ 4096) (hE : ERow w A es) :
    Calls Tryd.prog 27 #[.agg #[.int .i64 N, .slice A len cap]] w (Ret (.int .i64 (checkV N es)) w) := by
  go_enter Tryd.func27, Tryd.ntmps27
  go_wp2
  go_loopg [22] len (fun g i wr => ∃ k : Nat, k ≤ len ∧ g = len - k ∧ i = .int .i64 k ∧ (es.take k).all (okE N) = true ∧ Below (w.heap.size + 1) (w.alloc (Obj.cells #[Value.int IntKind.i64 N, Value.slice A len cap] 24)) wr)
  case atStart => exact ⟨0, by omega, rfl, rfl, rfl, Below.refl _ _⟩
  case round =>
    obtain ⟨k, hk, rfl, rfl, hall, hb⟩ := hrel
    have HA := Lib.hid hall
    clear hall
    have hB : Below w.heap.size w wr := below_new hb
    by_cases hlt : k < len
    · have hlt' : k < es.length := by rw [← hlen.out]; exact hlt
      obtain ⟨b, o, rfl, c1, c2⟩ := hE k hlt'
      have hbl : b < w.heap.size := World.block_lt_of_cell? _ _ c1
      have d1 : wr.cell? ⟨b, o + k * 2, none⟩ = some (.int .i64 (es.getD k (0, 0)).1) := (hb.cell (show b < w.heap.size + 1 by omega)).trans ((World.cell?_alloc_past _ _ _ hbl).trans c1)
      have d2 : wr.cell? ⟨b, o + k * 2 + 1, none⟩ = some (.int .i64 (es.getD k (0, 0)).2) := (hb.cell (show b < w.heap.size + 1 by omega)).trans ((World.cell?_alloc_past _ _ _ hbl).trans c2)
      have d3 : wr.cell? ⟨w.heap.size, 0, none⟩ = some (.int .i64 N) := (hb.cell (show w.heap.size < w.heap.size + 1 by omega)).trans (World.cell?_alloc_at _ _ _ _ rfl)
      have hsz : w.heap.size < wr.heap.size := by have := hb.size; simp at this; omega
      have d4 : ∀ o, (wr.alloc o).cell? ⟨w.heap.size, 0, none⟩ = some (.int .i64 N) := fun o => (World.cell?_alloc_past _ _ _ hsz).trans d3
      clear c1 c2
      obtain ⟨x, hx⟩ : ∃ x, (es.getD k (0, 0)).1 = x := ⟨_, rfl⟩
      obtain ⟨y, hy⟩ : ∃ y, (es.getD k (0, 0)).2 = y := ⟨_, rfl⟩
      have hxy : es.getD k (0, 0) = (x, y) := by rw [← hx, ← hy]
      rw [hx] at d1
      rw [hy] at d2
      have HX := Lib.hid hxy
      clear hx hy hxy
      cases hok : okE N (x, y)
      · have HO := Lib.hid (checkV_bad hlt' (by rw [HX.out]; exact hok))
        have HN : Hid (¬ (0 ≤ x ∧ 0 ≤ y ∧ x < N ∧ y < N)) := Lib.hid (fun h => by rw [okE_mk h] at hok; cases hok)
        clear hok
        go_wp2
        all_goals first
          | (go_ret; exact ⟨by simp only [HO.out]; rfl, below_alloc hB _⟩)
          | (exfalso; have := HN.out; omega)
      · obtain ⟨p1, p2, p3, p4⟩ := okE_yes hok
        have HO := Lib.hid (all_step hlt' (by rw [HX.out]; exact hok) HA.out)
        clear hok
        go_wp2
        all_goals
          go_roundg (len - (k + 1))
          case measure => omega
          case rel => exact ⟨k + 1, by omega, rfl, by go_num, HO.out, hb.alloc hsz _⟩
    · obtain rfl : k = len := by omega
      have HG := Lib.hid (checkV_good h0 h1 (by rw [← hlen.out]; exact h2) (by have := HA.out; rwa [hlen.out, List.take_length] at this))
      go_wp2
      go_ret
      exact ⟨by rw [HG.out]; rfl, hB⟩

set_option maxRecDepth 100000 in
theorem check_out (N : Int) (A : Option Addr) (len cap : Nat) (w : World) (h : N < 0 ∨ 64 < N ∨ 4096 < len) :
    Calls Tryd.prog 27 #[.agg #[.int .i64 N, .slice A len cap]] w (Ret (.int .i64 20) w) := by
  by_cases h0 : N < 0
  · clear h
    go_enter Tryd.func27, Tryd.ntmps27
    go_wp2
    go_ret
    exact ⟨rfl, below_alloc (Below.refl _ _) _⟩
  · by_cases h1 : 64 < N
    · clear h
      go_enter Tryd.func27, Tryd.ntmps27
      go_wp2
      go_ret
      exact ⟨rfl, below_alloc (Below.refl _ _) _⟩
    · have h2 : 4096 < len := by omega
      clear h
      go_enter Tryd.func27, Tryd.ntmps27
      go_wp2
      go_ret
      exact ⟨rfl, below_alloc (Below.refl _ _) _⟩

theorem check_any (N : Int) (A : Option Addr) (len cap : Nat) (es : List (Int × Int)) (hlen : Hid (len = es.length)) (w : World) (hE : ERow w A es) :
    Calls Tryd.prog 27 #[.agg #[.int .i64 N, .slice A len cap]] w (Ret (.int .i64 (checkV N es)) w) := by
  by_cases h : N < 0 ∨ 64 < N ∨ 4096 < len
  · rw [checkV_out (by rw [← hlen.out]; exact h)]
    exact check_out N A len cap w h
  · exact check_loop N A len cap es hlen w (by omega) (by omega) (by omega) hE

theorem checkV_ok {n : Nat} {ns : List (Nat × Nat)} (h : GOk n ns) : checkV n (castE ns) = 0 := by
  refine checkV_good (by omega) (by have := h.hn; omega) (by rw [castE_length]; exact h.hl) ?_
  rw [List.all_eq_true]
  intro e he
  obtain ⟨k, hk, rfl⟩ := List.getElem_of_mem he
  rw [← getD_in _ (0, 0), castE_getD]
  have hk' : k < ns.length := by rwa [castE_length] at hk
  have := h.hk k hk'
  exact okE_mk (by omega)
theorem check_ok (n : Nat) (A : Option Addr) (len cap : Nat) (ns : List (Nat × Nat)) (hlen : Hid (len = ns.length)) (h : GOk n ns) (w : World) (hE : NRow w A ns) :
    Calls Tryd.prog 27 #[.agg #[.int .i64 n, .slice A len cap]] w (Ret (.int .i64 0) w) := by
  have := check_any n A len cap (castE ns) (Lib.hid (by rw [castE_length]; exact hlen.out)) w hE.ints
  rwa [checkV_ok h] at this

/-! ### ahead -/
/-- the set of the beginnings of the edges that lead to j -/
def aheadF (ns : List (Nat × Nat)) (j : Nat) : Nat := ns.foldl (fun s e => if e.2 = j then s ||| 2 ^ e.1 else s) 0
theorem aheadF_snoc (ns : List (Nat × Nat)) (x y j : Nat) : aheadF (ns ++ [(x, y)]) j = if j = y then aheadF ns j ||| 2 ^ x else aheadF ns j := by
  simp only [aheadF, List.foldl_append, List.foldl_cons, List.foldl_nil]
  by_cases h : j = y
  · subst h; simp
  · rw [if_neg h, if_neg (fun e => h e.symm)]
theorem foldl_lt {m : Nat} (j : Nat) : ∀ (ns : List (Nat × Nat)) (s : Nat), (∀ e ∈ ns, e.1 < m) → s < 2 ^ m → ns.foldl (fun s e => if e.2 = j then s ||| 2 ^ e.1 else s) s < 2 ^ m
  | [], s, _, hs => hs
  | e :: r, s, h, hs => by
    simp only [List.foldl_cons]
    refine foldl_lt j r _ (fun x hx => h x (by simp [hx])) ?_
    split
    · exact Nat.or_lt_two_pow hs (Nat.pow_lt_pow_right (by omega) (h e (by simp)))
    · exact hs
theorem GOk.mem {n : Nat} {ns : List (Nat × Nat)} (h : GOk n ns) {e : Nat × Nat} (he : e ∈ ns) : e.1 < n ∧ e.2 < n := by
  obtain ⟨k, hk, rfl⟩ := List.getElem_of_mem he
  have := h.hk k hk
  rwa [getD_in _ _ hk] at this
theorem aheadF_lt {n : Nat} {ns : List (Nat × Nat)} (h : ∀ e ∈ ns, e.1 < n) (j : Nat) : aheadF ns j < 2 ^ n := foldl_lt j ns 0 h (Nat.two_pow_pos _)
theorem lt64 {s n : Nat} (h : s < 2 ^ n) (hn : n ≤ 64) : s < 2 ^ 64 := Nat.lt_of_lt_of_le h (Nat.pow_le_pow_right (by omega) hn)

set_option maxRecDepth 100000 in
theorem ahead_walk (n : Nat) (A : Option Addr) (len cap : Nat) (ns : List (Nat × Nat)) (hlen : Hid (len = ns.length)) (hG : GOk n ns) (w : World) (hE : NRow w A ns) :
    Calls Tryd.prog 33 #[.agg #[.int .i64 n, .slice A len cap]] w (RetRow 33 n (u64F (aheadF ns)) w) := by
  have h1 : n ≤ 64 := hG.hn
  have h2 : len ≤ 4096 := by rw [hlen.out]; exact hG.hl
  have hmk := run_make_row' (P := Tryd.prog) 27 33 (.int .u64 0) 8 Tryd.underlying27 info33 rfl .i64 .i64 n (by omega) (by omega)
  go_enter Tryd.func33, Tryd.ntmps33
  go_wp2
  clear hmk
  go_loopg [12] len (fun g i wr => ∃ k : Nat, k ≤ len ∧ g = len - k ∧ i = .int .i64 k ∧ wr.rowIs (w.heap.size + 1) 33 n (u64F (aheadF (ns.take k))) ∧ Below (w.heap.size + 1) (w.alloc (Obj.cells #[Value.int IntKind.i64 n, Value.slice A len cap] 24)) wr)
  case atStart =>
    refine ⟨0, by omega, rfl, rfl, ?_, (Below.refl _ _).alloc (by simp) _⟩
    have := World.rowIs_made (w.alloc (Obj.cells #[Value.int IntKind.i64 n, Value.slice A len cap] 24)) (.int .u64 0) n 33
    simp only [World.size_alloc] at this
    exact this.congr fun j hj => rfl
  case round =>
    obtain ⟨k, hk, rfl, rfl, hrow, hb⟩ := hrel
    have hB : Below w.heap.size w wr := below_new hb
    by_cases hlt : k < len
    · have hlt' : k < ns.length := by rw [← hlen.out]; exact hlt
      obtain ⟨b, o, rfl, c1, c2⟩ := hE k hlt'
      obtain ⟨q1, q2⟩ := hG.hk k hlt'
      have hbl : b < w.heap.size := World.block_lt_of_cell? _ _ c1
      have d1 : wr.cell? ⟨b, o + k * 2, none⟩ = some (.int .i64 (ns.getD k (0, 0)).1) := (hb.cell (show b < w.heap.size + 1 by omega)).trans ((World.cell?_alloc_past _ _ _ hbl).trans c1)
      have d2 : wr.cell? ⟨b, o + k * 2 + 1, none⟩ = some (.int .i64 (ns.getD k (0, 0)).2) := (hb.cell (show b < w.heap.size + 1 by omega)).trans ((World.cell?_alloc_past _ _ _ hbl).trans c2)
      have hsz : w.heap.size + 1 < wr.heap.size := hrow.lt
      clear c1 c2
      obtain ⟨x, hx⟩ : ∃ x, (ns.getD k (0, 0)).1 = x := ⟨_, rfl⟩
      obtain ⟨y, hy⟩ : ∃ y, (ns.getD k (0, 0)).2 = y := ⟨_, rfl⟩
      have hxy : ns.getD k (0, 0) = (x, y) := by rw [← hx, ← hy]
      rw [hx] at d1 q1
      rw [hy] at d2 q2
      have HX : Hid (ns.take (k + 1) = ns.take k ++ [(x, y)]) := Lib.hid (by rw [take_snoc ns (0, 0) hlt', hxy])
      clear hx hy hxy
      have e1 : ∀ o, (wr.alloc o).cell? ⟨w.heap.size + 1, y, none⟩ = some (.int .u64 (aheadF (ns.take k) y : Nat)) := fun o => (hrow.alloc o).cell q2
      have e2 : ∀ o, (wr.alloc o).frozen? ⟨w.heap.size + 1, y, none⟩ = false := fun o => (hrow.alloc o).frozen y
      have hs64 : aheadF (ns.take k) y < 2 ^ 64 := lt64 (aheadF_lt (fun e he => (hG.mem (List.mem_of_mem_take he)).1) y) h1
      have HV := Lib.hid (or_pow hs64 (show x < 64 by omega))
      obtain ⟨s, hs⟩ : ∃ s, aheadF (ns.take k) y = s := ⟨_, rfl⟩
      rw [hs] at e1
      have HS := Lib.hid hs
      have HR := Lib.hid hrow
      clear hs hrow hs64
      go_wp2
      go_region
      go_wp2
      go_roundg (len - (k + 1))
      case measure => omega
      case rel =>
        refine ⟨k + 1, by omega, rfl, by go_num, ?_, ((hb.setCell (by show w.heap.size + 1 ≤ w.heap.size + 1; omega) _).alloc (by simp [World.setCell]; omega) _).drew⟩
        refine (((HR.out.set y _).alloc _).drew).congr fun j hj => ?_
        have hv := HV.out
        rw [HS.out] at hv
        rw [HX.out, hv]
        simp only [u64F, aheadF_snoc]
        by_cases e : j = y
        · subst e; rw [if_pos rfl, if_pos rfl, HS.out]
        · rw [if_neg e, if_neg e]
    · obtain rfl : k = len := by omega
      have HT : Hid (ns.take k = ns) := Lib.hid (by rw [hlen.out, List.take_length])
      go_wp2
      go_ret
      exact ⟨w.heap.size + 1, rfl, by omega, by rw [HT.out] at hrow; exact hrow, hB⟩

end Go.Proofs.YtpdhggfmkmiebaaDoor
