/- The words of the digraph proofs: a list of edges in memory, rows that a call makes, bits of sets; plain lemmas. -/
import Derived.Test.YtpdhggfmkmiebaaDoorProg
import Derived.WalkKit
import Derived.ProofKit
import Derived.OpenShut
import Derived.Deep.LoopGhost
import Derived.Deep.OwnRows
import Derived.Deep.Draws
import Derived.Lib.Hide
import Derived.WalkSpells
import Derived.BigQuiet
import Derived.Deep.QuietTactic
namespace Go.Proofs.YtpdhggfmkmiebaaDoor
open Go.RowKit

/-! ### plain lists -/
theorem getD_in {α : Type} (l : List α) (d : α) {k : Nat} (hk : k < l.length) : l.getD k d = l[k] := by
  simp [List.getD, List.getElem?_eq_getElem hk]
theorem take_snoc {α : Type} (l : List α) (d : α) {k : Nat} (hk : k < l.length) : l.take (k + 1) = l.take k ++ [l.getD k d] := by
  rw [getD_in _ _ hk, List.take_succ_eq_append_getElem hk]
theorem getD_mem {α : Type} (l : List α) (d : α) {k : Nat} (hk : k < l.length) : l.getD k d ∈ l := by
  rw [getD_in _ _ hk]; exact List.getElem_mem hk

/-! ### edges in memory -/
/-- the slice at A holds these pairs of ints -/
def ERow (w : World) (A : Option Addr) (es : List (Int × Int)) : Prop :=
  ∀ k, k < es.length → ∃ b o, A = some ⟨b, o, none⟩ ∧ w.cell? ⟨b, o + k * 2, none⟩ = some (.int .i64 (es.getD k (0, 0)).1) ∧ w.cell? ⟨b, o + k * 2 + 1, none⟩ = some (.int .i64 (es.getD k (0, 0)).2)
/-- the slice at A holds these pairs of nodes -/
def NRow (w : World) (A : Option Addr) (ns : List (Nat × Nat)) : Prop :=
  ∀ k, k < ns.length → ∃ b o, A = some ⟨b, o, none⟩ ∧ w.cell? ⟨b, o + k * 2, none⟩ = some (.int .i64 (ns.getD k (0, 0)).1) ∧ w.cell? ⟨b, o + k * 2 + 1, none⟩ = some (.int .i64 (ns.getD k (0, 0)).2)
structure GOk (n : Nat) (ns : List (Nat × Nat)) : Prop where
  hn : n ≤ 64
  hl : ns.length ≤ 4096
  hk : ∀ k, k < ns.length → (ns.getD k (0, 0)).1 < n ∧ (ns.getD k (0, 0)).2 < n

theorem ERow.below {w w1 : World} {A : Option Addr} {es : List (Int × Int)} (h : ERow w A es) (hb : Below w.heap.size w w1) : ERow w1 A es := fun k hk => by
  obtain ⟨b, o, hA, h1, h2⟩ := h k hk
  exact ⟨b, o, hA, (hb.cell (World.block_lt_of_cell? _ _ h1)).trans h1, (hb.cell (World.block_lt_of_cell? _ _ h2)).trans h2⟩
theorem NRow.below {w w1 : World} {A : Option Addr} {ns : List (Nat × Nat)} (h : NRow w A ns) (hb : Below w.heap.size w w1) : NRow w1 A ns := fun k hk => by
  obtain ⟨b, o, hA, h1, h2⟩ := h k hk
  exact ⟨b, o, hA, (hb.cell (World.block_lt_of_cell? _ _ h1)).trans h1, (hb.cell (World.block_lt_of_cell? _ _ h2)).trans h2⟩
def castE (ns : List (Nat × Nat)) : List (Int × Int) := ns.map fun e => ((e.1 : Int), (e.2 : Int))
theorem castE_length (ns : List (Nat × Nat)) : (castE ns).length = ns.length := by simp [castE]
theorem castE_getD (ns : List (Nat × Nat)) (k : Nat) : (castE ns).getD k (0, 0) = (((ns.getD k (0, 0)).1 : Int), ((ns.getD k (0, 0)).2 : Int)) := by
  simp only [castE, List.getD, List.getElem?_map]
  cases ns[k]? <;> rfl
theorem NRow.ints {w : World} {A : Option Addr} {ns : List (Nat × Nat)} (h : NRow w A ns) : ERow w A (castE ns) := fun k hk => by
  obtain ⟨b, o, hA, h1, h2⟩ := h k (by rw [castE_length] at hk; exact hk)
  exact ⟨b, o, hA, by rw [castE_getD]; exact h1, by rw [castE_getD]; exact h2⟩
theorem NRow.of_ints {w : World} {A : Option Addr} {ns : List (Nat × Nat)} (h : ERow w A (castE ns)) : NRow w A ns := fun k hk => by
  obtain ⟨b, o, hA, h1, h2⟩ := h k (by rw [castE_length]; exact hk)
  rw [castE_getD] at h1 h2
  exact ⟨b, o, hA, h1, h2⟩

/-! ### worlds -/
theorem bcell {W w1 : World} {B : Nat} (hb : Below B W w1) : (∀ b o, b < B → w1.cell? ⟨b, o, none⟩ = W.cell? ⟨b, o, none⟩) ∧ (∀ b o, b < B → w1.frozen? ⟨b, o, none⟩ = W.frozen? ⟨b, o, none⟩) :=
  ⟨fun b o h => hb.cell (p := ⟨b, o, none⟩) h, fun b o h => hb.frozen (p := ⟨b, o, none⟩) h⟩
theorem below_drewN {B : Nat} {a w : World} (h : Below B a w) (n : Nat) : Below B a (w.drewN n) := ⟨h.os, h.tape, h.output, h.size, h.block⟩
theorem below_alloc {w W : World} (h : Below w.heap.size w W) (o : Obj) : Below w.heap.size w (W.alloc o) := h.alloc h.size o
theorem below_new {w W : World} {o : Obj} (h : Below (w.heap.size + 1) (w.alloc o) W) : Below w.heap.size w W :=
  ((Below.refl w.heap.size w).alloc (Nat.le_refl _) _).trans (h.mono (by omega))
theorem below_then {B : Nat} {w w1 w2 : World} (h : Below B w w1) (hB : B ≤ w1.heap.size) (k : Below w1.heap.size w1 w2) : Below B w w2 := h.trans (k.mono hB)
theorem row_below {w w1 : World} {b n B : Nat} {t : TypeId} {f : Nat → Value} (h : w.rowIs b t n f) (hb : Below B w w1) (hB : b < B) : w1.rowIs b t n f := h.of_block (hb.block b hB)

/-- it returns v, and nothing that was there has turned -/
def Ret (v : Value) (w : World) (e : Ending) (w' : World) : Prop := e = .returned v ∧ Below w.heap.size w w'
/-- it returns a new slice whose cells are f 0, f 1, .. -/
def RetRow (t : TypeId) (n : Nat) (f : Nat → Value) (w : World) (e : Ending) (w' : World) : Prop :=
  ∃ b, e = .returned (.slice (some ⟨b, 0, none⟩) n n) ∧ w.heap.size ≤ b ∧ w'.rowIs b t n f ∧ Below w.heap.size w w'
/-- a new slice of n cells f 0, f 1, .. and the errno 0 -/
def RetRow0 (t : TypeId) (n : Nat) (f : Nat → Value) (w : World) (e : Ending) (w' : World) : Prop :=
  ∃ b, e = .returned (.tuple #[.slice (some ⟨b, 0, none⟩) n n, .int .i64 0]) ∧ w.heap.size ≤ b ∧ w'.rowIs b t n f ∧ Below w.heap.size w w'

theorem info33 : (Tryd.prog.info? 33).map (fun i => (i.zero, i.size, i.bytes)) = some (some (.int .u64 0), 1, 8) := by kernel_rfl
theorem info3 : (Tryd.prog.info? 3).map (fun i => (i.zero, i.size, i.bytes)) = some (some (.int .i64 0), 1, 8) := by kernel_rfl
theorem info4 : (Tryd.prog.info? 4).map (fun i => (i.zero, i.size, i.bytes)) = some (some (.bool false), 1, 1) := by kernel_rfl

def u64F (f : Nat → Nat) : Nat → Value := fun j => .int .u64 (f j : Nat)
def i64F (f : Nat → Nat) : Nat → Value := fun j => .int .i64 (f j : Nat)
def boolF (f : Nat → Bool) : Nat → Value := fun j => .bool (f j)

/-! ### bits -/
theorem wrap_pow {x : Nat} (hx : x < 64) : IntKind.u64.wrap (2 ^ x) = ((2 ^ x : Nat) : Int) := by
  have h : (2 : Nat) ^ x < 2 ^ 64 := Nat.pow_lt_pow_right (by omega) hx
  have e : ((2 : Int) ^ x) = ((2 ^ x : Nat) : Int) := by simp
  rw [e, IntKind.wrap_u64]
  generalize 2 ^ x = m at *
  omega
theorem or_nat (a b : Nat) (ha : a < 2 ^ 64) (hb : b < 2 ^ 64) : bits .or .u64 (a : Int) (b : Int) = ((a ||| b : Nat) : Int) := u64_or_nat a b (by omega) (by omega)
theorem or_pow {s x : Nat} (hs : s < 2 ^ 64) (hx : x < 64) : bits .or .u64 (s : Int) (IntKind.u64.wrap (2 ^ x)) = ((s ||| 2 ^ x : Nat) : Int) := by
  rw [wrap_pow hx]
  exact or_nat _ _ hs (Nat.pow_lt_pow_right (by omega) hx)

end Go.Proofs.YtpdhggfmkmiebaaDoor
