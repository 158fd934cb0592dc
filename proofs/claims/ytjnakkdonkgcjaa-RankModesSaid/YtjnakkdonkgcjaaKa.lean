/- The words of the rank proofs: rows of numbers, worlds; the keys of the modes; the comparison that Order hands to the sort. -/
import Derived.Test.YtjnakkdonkgcjaaProg
import Derived.WalkKit
import Derived.ProofKit
import Derived.OpenShut
import Derived.Deep.LoopGhost
import Derived.Deep.OwnRows
import Derived.Deep.Draws
import Derived.Lib.Hide
import Derived.WalkSpells
import Derived.BigQuiet
import Derived.Deep.QuietTactic
import Derived.Deep.RegionWith
namespace Go.Proofs.Ytjnakkdonkgcjaa
open Go.RowKit

theorem getD_in {α : Type} (l : List α) (d : α) {k : Nat} (hk : k < l.length) : l.getD k d = l[k] := by
  simp [List.getD, hk]
theorem take_snoc {α : Type} (l : List α) (d : α) {k : Nat} (hk : k < l.length) : l.take (k + 1) = l.take k ++ [l.getD k d] := by
  rw [getD_in l d hk, List.take_add_one, List.getElem?_eq_getElem hk]; rfl
theorem getD_mem {α : Type} (l : List α) (d : α) {k : Nat} (hk : k < l.length) : l.getD k d ∈ l := by
  rw [getD_in l d hk]; exact List.getElem_mem hk

/-- a slice of numbers as it lies in memory -/
def SRow (w : World) (A : Option Addr) (l : List Int) : Prop :=
  ∀ k, k < l.length → ∃ b o, A = some ⟨b, o, none⟩ ∧ w.cell? ⟨b, o + k, none⟩ = some (.int .i64 (l.getD k 0))
theorem SRow.below {w w1 : World} {A : Option Addr} {l : List Int} (h : SRow w A l) (hb : Below w.heap.size w w1) : SRow w1 A l := fun k hk => by
  obtain ⟨b, o, ha, h1⟩ := h k hk
  exact ⟨b, o, ha, (hb.cell (World.block_lt_of_cell? _ _ h1)).trans h1⟩
theorem SRow.drewN {w : World} {A : Option Addr} {l : List Int} (h : SRow w A l) (q : Nat) : SRow (w.drewN q) A l := h

theorem bcell {W w1 : World} {B : Nat} (hb : Below B W w1) : (∀ b o, b < B → w1.cell? ⟨b, o, none⟩ = W.cell? ⟨b, o, none⟩) ∧ (∀ b o, b < B → w1.frozen? ⟨b, o, none⟩ = W.frozen? ⟨b, o, none⟩) :=
  ⟨fun _ _ h => hb.cell h, fun _ _ h => hb.frozen h⟩
theorem below_drewN {B : Nat} {a w : World} (h : Below B a w) (n : Nat) : Below B a (w.drewN n) := ⟨h.os, h.tape, h.output, h.size, h.block⟩
theorem below_alloc {w W : World} (h : Below w.heap.size w W) (o : Obj) : Below w.heap.size w (W.alloc o) := h.alloc h.size o
theorem below_new {w W : World} {o : Obj} (h : Below (w.heap.size + 1) (w.alloc o) W) : Below w.heap.size w W :=
  ((Below.refl w.heap.size w).alloc (Nat.le_refl _) o).trans (h.mono (Nat.le_succ _))
theorem below_then {B : Nat} {w w1 w2 : World} (h : Below B w w1) (hB : B ≤ w1.heap.size) (k : Below w1.heap.size w1 w2) : Below B w w2 := h.trans (k.mono hB)
theorem row_below {w w1 : World} {b n B : Nat} {t : TypeId} {f : Nat → Value} (h : w.rowIs b t n f) (hb : Below B w w1) (hB : b < B) : w1.rowIs b t n f := h.of_block (hb.block b hB)

def Ret (v : Value) (w : World) (e : Ending) (w' : World) : Prop := e = .returned v ∧ Below w.heap.size w w'
theorem info3 : (Try.prog.info? 3).map (fun i => (i.zero, i.size, i.bytes)) = some (some (.int .i64 0), 1, 8) := by kernel_rfl
/-- the cells of a row of numbers -/
def rowF (l : List Int) : Nat → Value := fun j => .int .i64 (l.getD j 0)

/-! ### the keys -/
def keyV (mode : Nat) (v c : Int) : Int :=
  match mode with
  | 0 => 0
  | 1 => v
  | 2 => min 1 (max (v - c) (c - v))
  | _ => max (v - c) (c - v)
/-- numbers so small that nothing wraps -/
def Small (x : Int) : Prop := 0 ≤ x ∧ x ≤ 1000

set_option maxRecDepth 100000 in
theorem key0 (v c : Int) (w : World) : Calls Try.prog 31 #[.int .i64 v, .int .i64 c] w fun e w' => e = .returned (.int .i64 (keyV 0 v c)) ∧ w' = w := by
  go_enter Try.func31, Try.ntmps31
  go_wp2
  go_ret
  exact ⟨rfl, rfl⟩
set_option maxRecDepth 100000 in
theorem key1 (v c : Int) (w : World) : Calls Try.prog 32 #[.int .i64 v, .int .i64 c] w fun e w' => e = .returned (.int .i64 (keyV 1 v c)) ∧ w' = w := by
  go_enter Try.func32, Try.ntmps32
  go_wp2
  go_ret
  exact ⟨rfl, rfl⟩
set_option maxRecDepth 100000 in
theorem key2 (v c : Int) (hv : Small v) (hc : Small c) (w : World) : Calls Try.prog 33 #[.int .i64 v, .int .i64 c] w fun e w' => e = .returned (.int .i64 (keyV 2 v c)) ∧ w' = w := by
  obtain ⟨h1, h2⟩ := hv
  obtain ⟨h3, h4⟩ := hc
  go_enter Try.func33, Try.ntmps33
  go_wp2
  all_goals
    go_ret
    refine ⟨?_, rfl⟩
    simp [keyV]
    omega
set_option maxRecDepth 100000 in
theorem key3 (v c : Int) (hv : Small v) (hc : Small c) (w : World) : Calls Try.prog 34 #[.int .i64 v, .int .i64 c] w fun e w' => e = .returned (.int .i64 (keyV 3 v c)) ∧ w' = w := by
  obtain ⟨h1, h2⟩ := hv
  obtain ⟨h3, h4⟩ := hc
  go_enter Try.func34, Try.ntmps34
  go_wp2
  all_goals
    go_ret
    refine ⟨?_, rfl⟩
    simp [keyV]
    omega

/-! ### cmp.Compare at int -/
def cmpV (a b : Int) : Int := if a < b then -1 else if b < a then 1 else 0
set_option maxRecDepth 100000 in
theorem cmp_any (a b : Int) (w : World) : Calls Try.prog 25 #[.int .i64 a, .int .i64 b] w fun e w' => e = .returned (.int .i64 (cmpV a b)) ∧ w' = w := by
  go_enter Try.func25, Try.ntmps25
  go_wp2
  all_goals
    go_ret
    refine ⟨?_, rfl⟩
    simp [cmpV]
    omega

end Go.Proofs.Ytjnakkdonkgcjaa
