/- Order: its refusals; the sorted row. -/
import Derived.Test.YtjnakkdonkgcjaaKc
import Derived.Laws.EntriesVeiled
namespace Go.Proofs.Ytjnakkdonkgcjaa
open Go.Shelf Go.RowKit Go.Lib Go.Sort

set_option maxRecDepth 100000 in
theorem keys_any (w : World) : Calls Try.prog 22 #[] w fun e w' => e = .returned (.slice (some ⟨w.heap.size, 0, none⟩) 4 4) ∧ w' = w.alloc (Obj.cells #[.func (.func 31) #[] #[], .func (.func 32) #[] #[], .func (.func 33) #[] #[], .func (.func 34) #[] #[]] 41) := by
  go_enter Try.func22, Try.ntmps22
  go_wp2
  go_ret
  exact ⟨rfl, rfl⟩

set_option maxRecDepth 100000 in
theorem order_mode (m n c : Int) (h : m < 0 ∨ 3 < m) (w : World) : Calls Try.prog 12 #[.int .i64 m, .int .i64 n, .int .i64 c] w (Ret (.tuple #[.slice none 0 0, .int .i64 12]) w) := by
  rcases h with h | h
  all_goals
    go_enter Try.func12, Try.ntmps12
    go_wp2
    go_ret2
    exact ⟨rfl, below_alloc (Below.refl _ _) _⟩
set_option maxRecDepth 100000 in
theorem order_count (m n c : Int) (h0 : 0 ≤ m) (h3 : m ≤ 3) (h : n < 1 ∨ 12 < n) (w : World) : Calls Try.prog 12 #[.int .i64 m, .int .i64 n, .int .i64 c] w (Ret (.tuple #[.slice none 0 0, .int .i64 36]) w) := by
  rcases h with h | h
  all_goals
    go_enter Try.func12, Try.ntmps12
    go_wp2
    go_ret2
    exact ⟨rfl, below_alloc (Below.refl _ _) _⟩
set_option maxRecDepth 100000 in
theorem order_current (m n c : Int) (h0 : 0 ≤ m) (h3 : m ≤ 3) (h1 : 1 ≤ n) (h2 : n ≤ 12) (h : c < 0 ∨ n ≤ c) (w : World) : Calls Try.prog 12 #[.int .i64 m, .int .i64 n, .int .i64 c] w (Ret (.tuple #[.slice none 0 0, .int .i64 34]) w) := by
  rcases h with h | h
  all_goals
    go_enter Try.func12, Try.ntmps12
    go_wp2
    go_ret2
    exact ⟨rfl, below_alloc (Below.refl _ _) _⟩
theorem small_c {c : Nat} (h : c ≤ 1000) : Small (c : Int) := ⟨by omega, by omega⟩
theorem heap_putRow (w : World) (b off : Nat) (d : Array (Fin 12)) {k : Nat} (hk : k ≠ b) : (putRow enc12 w b off d).heap[k]? = w.heap[k]? := by
  unfold putRow mapBlock
  simp [Array.getElem?_modify, Ne.symm hk]
theorem below_putRow {B : Nat} {a w : World} (h : Below B a w) {b : Nat} (hb : B ≤ b) (off : Nat) (d : Array (Fin 12)) : Below B a (putRow enc12 w b off d) :=
  ⟨h.os, h.tape, h.output, by rw [size_putRow]; exact h.size, fun k hk => by rw [heap_putRow w b off d (by omega)]; exact h.block k hk⟩

/-- the row ahead of the sort: the newest first -/
def first12 (n : Nat) : Array (Fin 12) := Array.ofFn (n := n) fun k => ⟨(n - 1 - k.val) % 12, Nat.mod_lt _ (by decide)⟩
theorem first12_size (n : Nat) : (first12 n).size = n := by simp [first12]
theorem first12_get {n k : Nat} (hk : k < n) (hn : n ≤ 12) : ((first12 n)[k]!).val = n - 1 - k := by
  rw [getElem!_pos (first12 n) k (by rw [first12_size]; exact hk)]
  simp only [first12, Array.getElem_ofFn]
  exact Nat.mod_eq_of_lt (by omega)
/-- a mode's order of n versions, the current one being c -/
def orderL (mode n c : Nat) : List Int := (sorted12 mode (c : Int) (first12 n)).toList.map fun x => (x.val : Int)

theorem size_insInner {α : Type} [Inhabited α] (lt : α → α → Bool) (a : Nat) : ∀ (j : Nat) (d : Array α), (Sort.insInner lt a j d).size = d.size
  | 0, _ => rfl
  | j + 1, d => by
    unfold Sort.insInner
    split
    · rw [size_insInner lt a j]; simp [Sort.swp]
    · rfl
theorem size_insOuter {α : Type} [Inhabited α] (lt : α → α → Bool) (a b : Nat) : ∀ (m i : Nat) (d : Array α), b - i ≤ m → (Sort.insOuter lt a b i d).size = d.size
  | 0, i, d, h => by
    unfold Sort.insOuter
    rw [if_neg (by omega)]
  | m + 1, i, d, h => by
    unfold Sort.insOuter
    split
    · rw [size_insOuter lt a b m (i + 1) _ (by omega), size_insInner]
    · rfl
theorem size_sorted12 (mode : Nat) (c : Int) (d : Array (Fin 12)) : (sorted12 mode c d).size = d.size := size_insOuter _ _ _ _ _ _ (Nat.le_refl _)
theorem orderL_length (mode n c : Nat) : (orderL mode n c).length = n := by
  simp only [orderL, List.length_map, Array.length_toList]
  rw [size_sorted12, first12_size]
theorem orderL_row (mode : Nat) {n c b q : Nat} {w : World} (h : Holds enc12 w b 0 (first12 n)) : SRow ((putRow enc12 w b 0 (sorted12 mode (c : Int) (first12 n))).drewN q) (some ⟨b, 0, none⟩) (orderL mode n c) := fun k hk => by
  rw [orderL_length] at hk
  have hs : (sorted12 mode (c : Int) (first12 n)).size = (first12 n).size := size_sorted12 _ _ _
  have h1 := cell?_putRow enc12 w b 0 (first12 n) (sorted12 mode (c : Int) (first12 n)) h hs k (by rw [hs, first12_size]; exact hk)
  refine ⟨b, 0, rfl, ?_⟩
  show (putRow enc12 w b 0 (sorted12 mode (c : Int) (first12 n))).cell? ⟨b, 0 + k, none⟩ = _
  rw [h1, getD_in _ _ (by rw [orderL_length]; exact hk)]
  simp only [orderL, List.getElem_map, Array.getElem_toList]
  rw [getElem!_pos _ k (by rw [hs, first12_size]; exact hk)]
  rfl
set_option maxRecDepth 100000 in
theorem order_ok0 (n c : Nat) (h2 : n ≤ 12) (h3 : c < n) (w : World) : Calls Try.prog 12 #[.int .i64 0, .int .i64 n, .int .i64 c] w fun e w' => ∃ b, e = .returned (.tuple #[.slice (some ⟨b, 0, none⟩) n n, .int .i64 0]) ∧ SRow w' (some ⟨b, 0, none⟩) (orderL 0 n c) ∧ Below w.heap.size w w' := by
  have hmk := run_make_row' (P := Try.prog) 23 3 (.int .i64 0) 8 Try.underlying23 info3 rfl .i64 .i64 n (by omega) (by omega)
  go_enter Try.func12, Try.ntmps12
  go_wp2_with fail
  clear hmk
  go_loopg [37] n (fun g s wr => ∃ k : Nat, k ≤ n ∧ g = n - k ∧ s = .int .i64 k ∧ wr.rowIs (w.heap.size + 1) 3 n (fun j => .int .i64 ((if j < k then n - 1 - j else 0 : Nat) : Int)) ∧ Below (w.heap.size + 1) (w.alloc (Obj.cells #[Value.int IntKind.i64 c] 3)) wr)
  case atStart =>
    refine ⟨0, by omega, rfl, rfl, ?_, (Below.refl _ _).alloc (by simp) _⟩
    have := World.rowIs_made (w.alloc (Obj.cells #[Value.int IntKind.i64 c] 3)) (.int .i64 0) n 3
    simp only [World.size_alloc] at this
    exact this.congr fun j _ => by simp
  case round =>
    obtain ⟨k, hk, rfl, rfl, hrow, hb⟩ := hrel
    by_cases hlt : k < n
    · have HR := Lib.hid hrow
      have HB := Lib.hid hb
      have f1 : wr.cell? ⟨w.heap.size + 1, k, none⟩ = some (.int .i64 ((if k < k then n - 1 - k else 0 : Nat) : Int)) := hrow.cell hlt
      have f2 : wr.frozen? ⟨w.heap.size + 1, k, none⟩ = false := hrow.frozen k
      clear hrow hb
      go_wp2_with fail
      go_roundg (n - (k + 1))
      case measure => omega
      case rel =>
        refine ⟨k + 1, by omega, rfl, by go_num, (HR.out.set k _).congr (fun j hj => ?_), HB.out.setCell (by exact Nat.le_refl _) _⟩
        by_cases h1 : j = k
        · subst h1; simp; omega
        · rw [if_neg h1]
          by_cases h4 : j < k
          · rw [if_pos h4, if_pos (by omega)]
          · rw [if_neg h4, if_neg (by omega)]
    · obtain rfl : k = n := by omega
      have hCc : wr.cell? ⟨w.heap.size, 0, none⟩ = some (.int .i64 c) := (hb.cell (show w.heap.size < w.heap.size + 1 by omega)).trans (World.cell?_alloc_at _ _ _ _ rfl)
      have hH : Holds enc12 wr (w.heap.size + 1) 0 (first12 k) := fun j hj => by
        rw [first12_size] at hj
        rw [Nat.zero_add]
        refine ⟨?_, hrow.frozen j⟩
        rw [hrow.cell hj, enc12, first12_get hj h2, if_pos hj]
      have HH := Lib.hid hH
      have HB := Lib.hid hb
      have hsz : w.heap.size + 1 < wr.heap.size := hrow.lt
      clear hrow hb hH
      go_wp2_with fail
      refine (keys_any _).mono ?_
      rintro e w1 ⟨rfl, rfl⟩
      obtain ⟨wx, hwx⟩ : ∃ wx, wx = (wr.alloc (Obj.cells #[.func (.func 31) #[] #[], .func (.func 32) #[] #[], .func (.func 33) #[] #[], .func (.func 34) #[] #[]] 41)).alloc (Obj.cells #[.func (.func 31) #[] #[]] 41) := ⟨_, rfl⟩
      have hbx : Below wr.heap.size wr wx := by rw [hwx]; exact below_alloc (below_alloc (Below.refl _ _) _) _
      have hKx : wx.cell? ⟨wr.heap.size + 1, 0, none⟩ = some (.func (.func (31 + 0)) #[] #[]) := by rw [hwx]; exact World.cell?_alloc_at _ _ _ _ (by rw [World.size_alloc])
      have hCx : wx.cell? ⟨w.heap.size, 0, none⟩ = some (.int .i64 c) := (hbx.cell (show w.heap.size < wr.heap.size by omega)).trans hCc
      have hHx : Holds enc12 wx (w.heap.size + 1) 0 (first12 k) := fun j hj => ⟨(hbx.cell (show w.heap.size + 1 < wr.heap.size from hsz)).trans (HH.out j hj).1, (hbx.frozen (show w.heap.size + 1 < wr.heap.size from hsz)).trans (HH.out j hj).2⟩
      have hs := sort_any 0 (by decide) c (small_c (by omega)) (wr.heap.size + 1) w.heap.size (w.heap.size + 1) k (first12 k) (by rw [first12_size]; exact h2) wx hKx hCx (by omega) (by omega) hHx
      rw [first12_size] at hs
      have HS := Lib.hid hs
      have HHx := Lib.hid hHx
      have HW := Lib.hid hwx
      have HBx := Lib.hid (below_then (below_new HB.out) (below_new HB.out).size hbx)
      clear hs hHx hwx hKx hCx hbx
      go_wp2_with fail
      rw [← HW.out]
      refine (HS.out).mono ?_
      rintro e w2 ⟨rfl, q, rfl⟩
      go_wp2
      go_ret2
      exact ⟨_, rfl, orderL_row 0 HHx.out, below_drewN (below_putRow HBx.out (by omega) 0 _) q⟩
set_option maxRecDepth 100000 in
theorem order_ok1 (n c : Nat) (h2 : n ≤ 12) (h3 : c < n) (w : World) : Calls Try.prog 12 #[.int .i64 1, .int .i64 n, .int .i64 c] w fun e w' => ∃ b, e = .returned (.tuple #[.slice (some ⟨b, 0, none⟩) n n, .int .i64 0]) ∧ SRow w' (some ⟨b, 0, none⟩) (orderL 1 n c) ∧ Below w.heap.size w w' := by
  have hmk := run_make_row' (P := Try.prog) 23 3 (.int .i64 0) 8 Try.underlying23 info3 rfl .i64 .i64 n (by omega) (by omega)
  go_enter Try.func12, Try.ntmps12
  go_wp2_with fail
  clear hmk
  go_loopg [37] n (fun g s wr => ∃ k : Nat, k ≤ n ∧ g = n - k ∧ s = .int .i64 k ∧ wr.rowIs (w.heap.size + 1) 3 n (fun j => .int .i64 ((if j < k then n - 1 - j else 0 : Nat) : Int)) ∧ Below (w.heap.size + 1) (w.alloc (Obj.cells #[Value.int IntKind.i64 c] 3)) wr)
  case atStart =>
    refine ⟨0, by omega, rfl, rfl, ?_, (Below.refl _ _).alloc (by simp) _⟩
    have := World.rowIs_made (w.alloc (Obj.cells #[Value.int IntKind.i64 c] 3)) (.int .i64 0) n 3
    simp only [World.size_alloc] at this
    exact this.congr fun j _ => by simp
  case round =>
    obtain ⟨k, hk, rfl, rfl, hrow, hb⟩ := hrel
    by_cases hlt : k < n
    · have HR := Lib.hid hrow
      have HB := Lib.hid hb
      have f1 : wr.cell? ⟨w.heap.size + 1, k, none⟩ = some (.int .i64 ((if k < k then n - 1 - k else 0 : Nat) : Int)) := hrow.cell hlt
      have f2 : wr.frozen? ⟨w.heap.size + 1, k, none⟩ = false := hrow.frozen k
      clear hrow hb
      go_wp2_with fail
      go_roundg (n - (k + 1))
      case measure => omega
      case rel =>
        refine ⟨k + 1, by omega, rfl, by go_num, (HR.out.set k _).congr (fun j hj => ?_), HB.out.setCell (by exact Nat.le_refl _) _⟩
        by_cases h1 : j = k
        · subst h1; simp; omega
        · rw [if_neg h1]
          by_cases h4 : j < k
          · rw [if_pos h4, if_pos (by omega)]
          · rw [if_neg h4, if_neg (by omega)]
    · obtain rfl : k = n := by omega
      have hCc : wr.cell? ⟨w.heap.size, 0, none⟩ = some (.int .i64 c) := (hb.cell (show w.heap.size < w.heap.size + 1 by omega)).trans (World.cell?_alloc_at _ _ _ _ rfl)
      have hH : Holds enc12 wr (w.heap.size + 1) 0 (first12 k) := fun j hj => by
        rw [first12_size] at hj
        rw [Nat.zero_add]
        refine ⟨?_, hrow.frozen j⟩
        rw [hrow.cell hj, enc12, first12_get hj h2, if_pos hj]
      have HH := Lib.hid hH
      have HB := Lib.hid hb
      have hsz : w.heap.size + 1 < wr.heap.size := hrow.lt
      clear hrow hb hH
      go_wp2_with fail
      refine (keys_any _).mono ?_
      rintro e w1 ⟨rfl, rfl⟩
      obtain ⟨wx, hwx⟩ : ∃ wx, wx = (wr.alloc (Obj.cells #[.func (.func 31) #[] #[], .func (.func 32) #[] #[], .func (.func 33) #[] #[], .func (.func 34) #[] #[]] 41)).alloc (Obj.cells #[.func (.func 32) #[] #[]] 41) := ⟨_, rfl⟩
      have hbx : Below wr.heap.size wr wx := by rw [hwx]; exact below_alloc (below_alloc (Below.refl _ _) _) _
      have hKx : wx.cell? ⟨wr.heap.size + 1, 0, none⟩ = some (.func (.func (31 + 1)) #[] #[]) := by rw [hwx]; exact World.cell?_alloc_at _ _ _ _ (by rw [World.size_alloc])
      have hCx : wx.cell? ⟨w.heap.size, 0, none⟩ = some (.int .i64 c) := (hbx.cell (show w.heap.size < wr.heap.size by omega)).trans hCc
      have hHx : Holds enc12 wx (w.heap.size + 1) 0 (first12 k) := fun j hj => ⟨(hbx.cell (show w.heap.size + 1 < wr.heap.size from hsz)).trans (HH.out j hj).1, (hbx.frozen (show w.heap.size + 1 < wr.heap.size from hsz)).trans (HH.out j hj).2⟩
      have hs := sort_any 1 (by decide) c (small_c (by omega)) (wr.heap.size + 1) w.heap.size (w.heap.size + 1) k (first12 k) (by rw [first12_size]; exact h2) wx hKx hCx (by omega) (by omega) hHx
      rw [first12_size] at hs
      have HS := Lib.hid hs
      have HHx := Lib.hid hHx
      have HW := Lib.hid hwx
      have HBx := Lib.hid (below_then (below_new HB.out) (below_new HB.out).size hbx)
      clear hs hHx hwx hKx hCx hbx
      go_wp2_with fail
      rw [← HW.out]
      refine (HS.out).mono ?_
      rintro e w2 ⟨rfl, q, rfl⟩
      go_wp2
      go_ret2
      exact ⟨_, rfl, orderL_row 1 HHx.out, below_drewN (below_putRow HBx.out (by omega) 0 _) q⟩
set_option maxRecDepth 100000 in
theorem order_ok2 (n c : Nat) (h2 : n ≤ 12) (h3 : c < n) (w : World) : Calls Try.prog 12 #[.int .i64 2, .int .i64 n, .int .i64 c] w fun e w' => ∃ b, e = .returned (.tuple #[.slice (some ⟨b, 0, none⟩) n n, .int .i64 0]) ∧ SRow w' (some ⟨b, 0, none⟩) (orderL 2 n c) ∧ Below w.heap.size w w' := by
  have hmk := run_make_row' (P := Try.prog) 23 3 (.int .i64 0) 8 Try.underlying23 info3 rfl .i64 .i64 n (by omega) (by omega)
  go_enter Try.func12, Try.ntmps12
  go_wp2_with fail
  clear hmk
  go_loopg [37] n (fun g s wr => ∃ k : Nat, k ≤ n ∧ g = n - k ∧ s = .int .i64 k ∧ wr.rowIs (w.heap.size + 1) 3 n (fun j => .int .i64 ((if j < k then n - 1 - j else 0 : Nat) : Int)) ∧ Below (w.heap.size + 1) (w.alloc (Obj.cells #[Value.int IntKind.i64 c] 3)) wr)
  case atStart =>
    refine ⟨0, by omega, rfl, rfl, ?_, (Below.refl _ _).alloc (by simp) _⟩
    have := World.rowIs_made (w.alloc (Obj.cells #[Value.int IntKind.i64 c] 3)) (.int .i64 0) n 3
    simp only [World.size_alloc] at this
    exact this.congr fun j _ => by simp
  case round =>
    obtain ⟨k, hk, rfl, rfl, hrow, hb⟩ := hrel
    by_cases hlt : k < n
    · have HR := Lib.hid hrow
      have HB := Lib.hid hb
      have f1 : wr.cell? ⟨w.heap.size + 1, k, none⟩ = some (.int .i64 ((if k < k then n - 1 - k else 0 : Nat) : Int)) := hrow.cell hlt
      have f2 : wr.frozen? ⟨w.heap.size + 1, k, none⟩ = false := hrow.frozen k
      clear hrow hb
      go_wp2_with fail
      go_roundg (n - (k + 1))
      case measure => omega
      case rel =>
        refine ⟨k + 1, by omega, rfl, by go_num, (HR.out.set k _).congr (fun j hj => ?_), HB.out.setCell (by exact Nat.le_refl _) _⟩
        by_cases h1 : j = k
        · subst h1; simp; omega
        · rw [if_neg h1]
          by_cases h4 : j < k
          · rw [if_pos h4, if_pos (by omega)]
          · rw [if_neg h4, if_neg (by omega)]
    · obtain rfl : k = n := by omega
      have hCc : wr.cell? ⟨w.heap.size, 0, none⟩ = some (.int .i64 c) := (hb.cell (show w.heap.size < w.heap.size + 1 by omega)).trans (World.cell?_alloc_at _ _ _ _ rfl)
      have hH : Holds enc12 wr (w.heap.size + 1) 0 (first12 k) := fun j hj => by
        rw [first12_size] at hj
        rw [Nat.zero_add]
        refine ⟨?_, hrow.frozen j⟩
        rw [hrow.cell hj, enc12, first12_get hj h2, if_pos hj]
      have HH := Lib.hid hH
      have HB := Lib.hid hb
      have hsz : w.heap.size + 1 < wr.heap.size := hrow.lt
      clear hrow hb hH
      go_wp2_with fail
      refine (keys_any _).mono ?_
      rintro e w1 ⟨rfl, rfl⟩
      obtain ⟨wx, hwx⟩ : ∃ wx, wx = (wr.alloc (Obj.cells #[.func (.func 31) #[] #[], .func (.func 32) #[] #[], .func (.func 33) #[] #[], .func (.func 34) #[] #[]] 41)).alloc (Obj.cells #[.func (.func 33) #[] #[]] 41) := ⟨_, rfl⟩
      have hbx : Below wr.heap.size wr wx := by rw [hwx]; exact below_alloc (below_alloc (Below.refl _ _) _) _
      have hKx : wx.cell? ⟨wr.heap.size + 1, 0, none⟩ = some (.func (.func (31 + 2)) #[] #[]) := by rw [hwx]; exact World.cell?_alloc_at _ _ _ _ (by rw [World.size_alloc])
      have hCx : wx.cell? ⟨w.heap.size, 0, none⟩ = some (.int .i64 c) := (hbx.cell (show w.heap.size < wr.heap.size by omega)).trans hCc
      have hHx : Holds enc12 wx (w.heap.size + 1) 0 (first12 k) := fun j hj => ⟨(hbx.cell (show w.heap.size + 1 < wr.heap.size from hsz)).trans (HH.out j hj).1, (hbx.frozen (show w.heap.size + 1 < wr.heap.size from hsz)).trans (HH.out j hj).2⟩
      have hs := sort_any 2 (by decide) c (small_c (by omega)) (wr.heap.size + 1) w.heap.size (w.heap.size + 1) k (first12 k) (by rw [first12_size]; exact h2) wx hKx hCx (by omega) (by omega) hHx
      rw [first12_size] at hs
      have HS := Lib.hid hs
      have HHx := Lib.hid hHx
      have HW := Lib.hid hwx
      have HBx := Lib.hid (below_then (below_new HB.out) (below_new HB.out).size hbx)
      clear hs hHx hwx hKx hCx hbx
      go_wp2_with fail
      rw [← HW.out]
      refine (HS.out).mono ?_
      rintro e w2 ⟨rfl, q, rfl⟩
      go_wp2
      go_ret2
      exact ⟨_, rfl, orderL_row 2 HHx.out, below_drewN (below_putRow HBx.out (by omega) 0 _) q⟩
set_option maxRecDepth 100000 in
theorem order_ok3 (n c : Nat) (h2 : n ≤ 12) (h3 : c < n) (w : World) : Calls Try.prog 12 #[.int .i64 3, .int .i64 n, .int .i64 c] w fun e w' => ∃ b, e = .returned (.tuple #[.slice (some ⟨b, 0, none⟩) n n, .int .i64 0]) ∧ SRow w' (some ⟨b, 0, none⟩) (orderL 3 n c) ∧ Below w.heap.size w w' := by
  have hmk := run_make_row' (P := Try.prog) 23 3 (.int .i64 0) 8 Try.underlying23 info3 rfl .i64 .i64 n (by omega) (by omega)
  go_enter Try.func12, Try.ntmps12
  go_wp2_with fail
  clear hmk
  go_loopg [37] n (fun g s wr => ∃ k : Nat, k ≤ n ∧ g = n - k ∧ s = .int .i64 k ∧ wr.rowIs (w.heap.size + 1) 3 n (fun j => .int .i64 ((if j < k then n - 1 - j else 0 : Nat) : Int)) ∧ Below (w.heap.size + 1) (w.alloc (Obj.cells #[Value.int IntKind.i64 c] 3)) wr)
  case atStart =>
    refine ⟨0, by omega, rfl, rfl, ?_, (Below.refl _ _).alloc (by simp) _⟩
    have := World.rowIs_made (w.alloc (Obj.cells #[Value.int IntKind.i64 c] 3)) (.int .i64 0) n 3
    simp only [World.size_alloc] at this
    exact this.congr fun j _ => by simp
  case round =>
    obtain ⟨k, hk, rfl, rfl, hrow, hb⟩ := hrel
    by_cases hlt : k < n
    · have HR := Lib.hid hrow
      have HB := Lib.hid hb
      have f1 : wr.cell? ⟨w.heap.size + 1, k, none⟩ = some (.int .i64 ((if k < k then n - 1 - k else 0 : Nat) : Int)) := hrow.cell hlt
      have f2 : wr.frozen? ⟨w.heap.size + 1, k, none⟩ = false := hrow.frozen k
      clear hrow hb
      go_wp2_with fail
      go_roundg (n - (k + 1))
      case measure => omega
      case rel =>
        refine ⟨k + 1, by omega, rfl, by go_num, (HR.out.set k _).congr (fun j hj => ?_), HB.out.setCell (by exact Nat.le_refl _) _⟩
        by_cases h1 : j = k
        · subst h1; simp; omega
        · rw [if_neg h1]
          by_cases h4 : j < k
          · rw [if_pos h4, if_pos (by omega)]
          · rw [if_neg h4, if_neg (by omega)]
    · obtain rfl : k = n := by omega
      have hCc : wr.cell? ⟨w.heap.size, 0, none⟩ = some (.int .i64 c) := (hb.cell (show w.heap.size < w.heap.size + 1 by omega)).trans (World.cell?_alloc_at _ _ _ _ rfl)
      have hH : Holds enc12 wr (w.heap.size + 1) 0 (first12 k) := fun j hj => by
        rw [first12_size] at hj
        rw [Nat.zero_add]
        refine ⟨?_, hrow.frozen j⟩
        rw [hrow.cell hj, enc12, first12_get hj h2, if_pos hj]
      have HH := Lib.hid hH
      have HB := Lib.hid hb
      have hsz : w.heap.size + 1 < wr.heap.size := hrow.lt
      clear hrow hb hH
      go_wp2_with fail
      refine (keys_any _).mono ?_
      rintro e w1 ⟨rfl, rfl⟩
      obtain ⟨wx, hwx⟩ : ∃ wx, wx = (wr.alloc (Obj.cells #[.func (.func 31) #[] #[], .func (.func 32) #[] #[], .func (.func 33) #[] #[], .func (.func 34) #[] #[]] 41)).alloc (Obj.cells #[.func (.func 34) #[] #[]] 41) := ⟨_, rfl⟩
      have hbx : Below wr.heap.size wr wx := by rw [hwx]; exact below_alloc (below_alloc (Below.refl _ _) _) _
      have hKx : wx.cell? ⟨wr.heap.size + 1, 0, none⟩ = some (.func (.func (31 + 3)) #[] #[]) := by rw [hwx]; exact World.cell?_alloc_at _ _ _ _ (by rw [World.size_alloc])
      have hCx : wx.cell? ⟨w.heap.size, 0, none⟩ = some (.int .i64 c) := (hbx.cell (show w.heap.size < wr.heap.size by omega)).trans hCc
      have hHx : Holds enc12 wx (w.heap.size + 1) 0 (first12 k) := fun j hj => ⟨(hbx.cell (show w.heap.size + 1 < wr.heap.size from hsz)).trans (HH.out j hj).1, (hbx.frozen (show w.heap.size + 1 < wr.heap.size from hsz)).trans (HH.out j hj).2⟩
      have hs := sort_any 3 (by decide) c (small_c (by omega)) (wr.heap.size + 1) w.heap.size (w.heap.size + 1) k (first12 k) (by rw [first12_size]; exact h2) wx hKx hCx (by omega) (by omega) hHx
      rw [first12_size] at hs
      have HS := Lib.hid hs
      have HHx := Lib.hid hHx
      have HW := Lib.hid hwx
      have HBx := Lib.hid (below_then (below_new HB.out) (below_new HB.out).size hbx)
      clear hs hHx hwx hKx hCx hbx
      go_wp2_with fail
      rw [← HW.out]
      refine (HS.out).mono ?_
      rintro e w2 ⟨rfl, q, rfl⟩
      go_wp2
      go_ret2
      exact ⟨_, rfl, orderL_row 3 HHx.out, below_drewN (below_putRow HBx.out (by omega) 0 _) q⟩
end Go.Proofs.Ytjnakkdonkgcjaa
