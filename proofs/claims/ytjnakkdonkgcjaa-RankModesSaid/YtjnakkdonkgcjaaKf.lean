/- The library's iterator over a slice from its end. -/
import Derived.RangeFuncNested
import Derived.RangeFuncBound
import Derived.RangeFuncCalls
import Derived.RangeFuncLeaves
import Derived.Shelf.Abstract
import Derived.Shelf.RegionOpen
import Derived.WalkKit
import Derived.OwnWalkIn
import Derived.TacticsInMore
import Derived.LoopNIn
import Derived.LoopIn
import Derived.Test.YtjnakkdonkgcjaaKe
namespace Go.Proofs.Ytjnakkdonkgcjaa
open Go.RowKit Go.Shelf
attribute [local go_sem] Oper.semAt_some

/-- the index m - 1 -/
def idx : Nat → Value
  | 0 => .int .i64 (-1)
  | p + 1 => .int .i64 (p : Int)
theorem idx_pred (p : Nat) : Value.int .i64 ((p : Int) - 1) = idx p := by
  cases p <;> simp [idx]
def leftOf : Value → Nat
  | .int _ n => (n + 1).toNat
  | _ => 0
/-- what has come when k rounds are over: len - 1, len - 2, .. -/
def dn (len : Nat) : Nat → List (Fin len)
  | 0 => []
  | k + 1 => if h : len - 1 - k < len then dn len k ++ [⟨len - 1 - k, h⟩] else dn len k
theorem dn_length {len : Nat} : ∀ {k}, k ≤ len → (dn len k).length = k
  | 0, _ => rfl
  | k + 1, h => by
    unfold dn
    rw [dif_pos (by omega), List.length_append, dn_length (by omega)]
    rfl
theorem dn_succ {len p k : Nat} (h : len = p + 1 + k) : dn len (k + 1) = dn len k ++ [⟨p, by omega⟩] := by
  obtain rfl : p = len - 1 - k := by omega
  conv => lhs; unfold dn
  rw [dif_pos (by omega)]
/-- what a round keeps: all below n₀, and the iterator's own box -/
def KpB (n₀ Bs : Nat) (W W' : World) : Prop := Below n₀ W W' ∧ ∀ v, W.cell? ⟨Bs, 0, none⟩ = some v → W'.cell? ⟨Bs, 0, none⟩ = some v
theorem KpB.refl (n₀ Bs : Nat) (W : World) : KpB n₀ Bs W W := ⟨Below.refl _ _, fun _ h => h⟩
theorem KpB.trans {n₀ Bs : Nat} {X Y Z : World} (h : KpB n₀ Bs X Y) (k : KpB n₀ Bs Y Z) : KpB n₀ Bs X Z := ⟨h.1.trans k.1, fun v hv => k.2 v (h.2 v hv)⟩
/-- what a round is handed -/
def encB (ns : List Nat) (len : Nat) (x : Fin len) : Array Value := #[.int .i64 (x.val : Int), .int .i64 ((ns[x.val]?.getD 0 : Nat) : Int)]

set_option maxRecDepth 100000 in
set_option maxHeartbeats 2000000 in
theorem back1_in (F : Fence) (n : Nat) (h39 : F.fn 39) (hro : F.round = none) (hn : 1 ≤ n) (l Bs n₀ b off len cap : Nat) (ns : List Nat) (hsm : len ≤ 1000) (hb : b < n₀) (J Jx : List (Fin len) → World → Prop)
    (hY : ∀ pre x W, J pre W → pre.length < len → YieldAt F (n - 1) Try.prog l (encB ns len x) W fun e W' =>
      (e = .returned (.bool true) ∧ J (pre ++ [x]) W' ∧ KpB n₀ Bs W W') ∨ (e = .returned (.bool false) ∧ Jx (pre ++ [x]) W'))
    (W : World) (hBs : W.cell? ⟨Bs, 0, none⟩ = some (.slice (some ⟨b, off, none⟩) len cap)) (hc : ∀ j, j < len → W.cell? ⟨b, off + j, none⟩ = some (.int .i64 ((ns[j]?.getD 0 : Nat) : Int))) (h0 : J [] W) :
    CallsIn F n Try.prog 39 #[.func (.yield l) #[] #[], .pointer (some ⟨Bs, 0, none⟩)] W fun e W' => (∃ v, e = .returned v) ∧
      ((∃ ys, ys = dn len len ∧ J ys W') ∨ (∃ pre, (∃ k, k ≤ len ∧ pre = dn len k) ∧ Jx pre W')) := by
  refine callsIn_of_wp Try.func39 rfl h39 ?_ hro
  simp only [Try.ntmps39, List.size_toArray, List.length_cons, List.length_nil, Nat.reduceAdd, Nat.reduceSub, Array.replicate_succ, Array.replicate_zero, List.push_toArray, List.append_toArray, List.nil_append, List.cons_append]
  gi_wp2
  gi_loopw [3] (fun i wr => ∃ m k : Nat, Hid (len = m + k) ∧ i = idx m ∧ J (dn len k) wr ∧ KpB n₀ Bs W wr)
    (fun i _ => leftOf i)
  case atStart => exact ⟨len, 0, Lib.hid (by omega), idx_pred len, h0, KpB.refl _ _ _⟩
  case round =>
    obtain ⟨m, k, HMK, rfl, hJs, hnx⟩ := hrel
    cases m with
    | zero =>
      obtain rfl : k = len := by have := HMK.out; omega
      rw [show idx 0 = Value.int .i64 (-1) from rfl]
      gi_wp2
      go_end0
      exact ⟨⟨_, rfl⟩, .inl ⟨_, rfl, hJs⟩⟩
    | succ p =>
      have hcx : wr.cell? ⟨b, off + p, none⟩ = some (.int .i64 ((ns[p]?.getD 0 : Nat) : Int)) := (hnx.1.cell (p := ⟨b, off + p, none⟩) hb).trans (hc p (by have := HMK.out; omega))
      have hBx : wr.cell? ⟨Bs, 0, none⟩ = some (.slice (some ⟨b, off, none⟩) len cap) := hnx.2 _ hBs
      obtain ⟨fn, tmps, assign, body, hy, hR⟩ := hY _ ⟨p, by have := HMK.out; omega⟩ wr hJs (by have := HMK.out; rw [dn_length (by omega)]; omega)
      unfold encB at hy
      dsimp only at hy
      have hp1 : p < len := by have := HMK.out; omega
      rw [show idx (p + 1) = Value.int .i64 (p : Int) from rfl]
      gi_wp2
      refine hR.mono ?_
      rintro e W3 (⟨rfl, hJ3, hk3⟩ | ⟨rfl, hJx3⟩)
      · gi_wp2
        go_roundw
        case rel => exact ⟨p, k + 1, Lib.hid (by have := HMK.out; omega), idx_pred p, by rw [dn_succ HMK.out]; exact hJ3, hnx.trans hk3⟩
        case measure => simp [leftOf]
      · gi_wp2
        refine bodyPost_ret (results_none rfl _ _ _) rfl ?_
        exact ⟨⟨_, rfl⟩, .inr ⟨_, ⟨k + 1, by have := HMK.out; omega, (dn_succ HMK.out).symm⟩, hJx3⟩⟩

set_option maxRecDepth 100000 in
set_option maxHeartbeats 1000000 in
/-- .. at a slice of no element: no round. -/
theorem back0_in (F : Fence) (n : Nat) (h39 : F.fn 39) (hro : F.round = none) (l Bs cap : Nat) (A : Option Addr) (W : World) (hBs : W.cell? ⟨Bs, 0, none⟩ = some (.slice A 0 cap)) :
    CallsIn F n Try.prog 39 #[.func (.yield l) #[] #[], .pointer (some ⟨Bs, 0, none⟩)] W fun e W' => (∃ v, e = .returned v) ∧ W' = W := by
  refine callsIn_of_wp Try.func39 rfl h39 ?_ hro
  simp only [Try.ntmps39, List.size_toArray, List.length_cons, List.length_nil, Nat.reduceAdd, Nat.reduceSub, Array.replicate_succ, Array.replicate_zero, List.push_toArray, List.append_toArray, List.nil_append, List.cons_append]
  gi_wp2
  gi_loopw [3] (fun i wr => i = .int .i64 (-1) ∧ wr = W) (fun _ _ => 0)
  case atStart => exact ⟨rfl, rfl⟩
  case round =>
    obtain ⟨rfl, rfl⟩ := hrel
    gi_wp2
    go_end0
    exact ⟨⟨_, rfl⟩, rfl⟩

set_option maxHeartbeats 1000000 in
/-- slices.Backward(s): the slice is boxed; the function value captures the box. -/
theorem back_in (F : Fence) (n : Nat) (h28 : F.fn 28) (hro : F.round = none) (a : Option Addr) (len cap : Nat) (w : World) :
    CallsIn F n Try.prog 28 #[.slice a len cap] w fun e w' => e = .returned (.func (.func 39) #[] #[.pointer (some ⟨w.heap.size, 0, none⟩)]) ∧ w' = w.alloc (.cells #[.slice a len cap] 23) := by
  refine callsIn_of_wp Try.func28 rfl h28 ?_ hro
  simp only [Try.ntmps28, List.size_toArray, List.length_cons, List.length_nil, Nat.reduceAdd, Nat.reduceSub, Array.replicate_succ, Array.replicate_zero, List.push_toArray, List.append_toArray, List.nil_append, List.cons_append]
  gi_wp2
  go_ret
  exact ⟨rfl, rfl⟩

/-- the slice A, len, cap holds the numbers ns, in a block below n₀; or it has no element -/
def Nums (n₀ : Nat) (W : World) (A : Option Addr) (len : Nat) (ns : List Nat) : Prop :=
  len = 0 ∨ ∃ b off, A = some ⟨b, off, none⟩ ∧ b < n₀ ∧ ∀ j, j < len → W.cell? ⟨b, off + j, none⟩ = some (.int .i64 ((ns[j]?.getD 0 : Nat) : Int))
theorem Nums.below {n₀ len : Nat} {A : Option Addr} {X Y : World} {ns : List Nat} (h : Below n₀ X Y) : Nums n₀ X A len ns → Nums n₀ Y A len ns
  | .inl e => .inl e
  | .inr ⟨b, off, e, hb, hc⟩ => .inr ⟨b, off, e, hb, fun j hj => (h.cell (p := ⟨b, off + j, none⟩) hb).trans (hc j hj)⟩
theorem back_stops (F : Fence) (n : Nat) (h39 : F.fn 39) (hro : F.round = none) (hn : 1 ≤ n) (Bs n₀ : Nat) (A : Option Addr) (len cap : Nat) (ns : List Nat) (hsm : len ≤ 1000) (w : World) (hBs : Bs < w.heap.size) (hn₀ : n₀ ≤ w.heap.size)
    (hc : w.cell? ⟨Bs, 0, none⟩ = some (.slice A len cap)) (hI : Nums n₀ w A len ns) :
    SeqStopsK F n Try.prog 39 #[.pointer (some ⟨Bs, 0, none⟩)] (encB ns len) (KpB n₀ Bs) (fun ys => ys = dn len len) (fun pre => ∃ k, k ≤ len ∧ pre = dn len k) len w := fun l J Jx W hW _ _ hY h0 => by
  have hc' := (hW.cell (p := ⟨Bs, 0, none⟩) hBs).trans hc
  rcases hI.below (hW.mono hn₀) with rfl | ⟨b, off, rfl, hb, hcs⟩
  · refine (back0_in F n h39 hro l Bs cap A W hc').mono ?_
    rintro e W' ⟨he, rfl⟩
    exact ⟨he, .inl ⟨_, rfl, h0⟩⟩
  · exact back1_in F n h39 hro hn l Bs n₀ b off len cap ns hsm hb J Jx hY W hc' hcs h0
end Go.Proofs.Ytjnakkdonkgcjaa
