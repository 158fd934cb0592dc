/- From the rows' readings to the walks' words: a graph that came in, the library's table, a world for the witness. -/
import Derived.Test.YtpdhggfmkmiebaaDoorCards
import Derived.Test.YtpdhggfmkmiebaaDoorTie
import Derived.Test.YtpdhggfmkmiebaaDoorAnc
import Derived.WalkKit
import Derived.ProofKit
import Derived.OpenShut
import Derived.Lib.SmallJoins
import Derived.Deep.Slices
import Derived.Deep.DeepHandedRow
import Derived.Lib.LaidTab
namespace Go.Proofs.YtpdhggfmkmiebaaDoor
open Go.ChangeShapes Go.WideShapes Go.ChangeAt Go.RowKit Go.Joins Go.Deep

theorem own : ownKnob Tryd.prog.godebug = none := by kernel_rfl
theorem laidOut : laidOutB Tryd.prog = true := by kernel_rfl
theorem gTab : Tryd.prog.globalNamed "math/bits.deBruijn64tab" = some 0 := by kernel_rfl
theorem gTabType : (Tryd.prog.globals[0]?).map (·.type) = some 59 := by kernel_rfl
theorem cells59 : Tryd.prog.cellsOf 59 = 64 := by kernel_rfl
theorem cells5 : Tryd.prog.cellsOf 5 = 1 := by kernel_rfl
theorem cells24 : Tryd.prog.cellsOf 24 = 2 := by kernel_rfl
theorem cells39 : Tryd.prog.cellsOf 39 = 2 := by kernel_rfl
theorem cells3 : Tryd.prog.cellsOf 3 = 1 := by kernel_rfl

/-- the table's numbers -/
def tab64 : List Int := [0, 1, 56, 2, 57, 49, 28, 3, 61, 58, 42, 50, 38, 29, 17, 4, 62, 47, 59, 36, 45, 43, 51, 22, 53, 39, 33, 30, 24, 18, 12, 5, 63, 55, 48, 27, 60, 41, 37, 16, 46, 35, 44, 21, 52, 32, 23, 11, 54, 26, 40, 15, 34, 20, 31, 10, 25, 14, 19, 9, 13, 8, 7, 6]
/-- WHAT THE ROWS' LIST GIVES: the table lies in its variable -/
theorem tab_of {W : World} (h : laidMetH Tryd.prog [("math/bits.deBruijn64tab", Rows.laid_math_bits_deBruijn64tab)] W) : Tab W := by
  have ht : Lib.TabIs Tryd.prog W "math/bits.deBruijn64tab" .u8 tab64 := Lib.tabIs_of_head (rest := []) gTab gTabType Tryd.underlying59 Tryd.underlying5 cells5 cells59 h
  intro j hj
  have hj' : j < 64 := hj
  have := ht.cell gTab j (by show j < 64; exact hj')
  rw [this]
  have key : ∀ i : Nat, i < 64 → tab64.getD i 0 = ((Lib.deBruijn64tab.getD i 0 : Nat) : Int) := by decide +kernel
  rw [key j hj']

section
variable {H : Type} {enc : TypeId × Value → H} {w : World} {base : Nat} {spare : Nat → Bool} {held : Bool}
def getI : Option Value → Int
  | some (.int _ x) => x
  | _ => 0
/-- a pair of ints, as two cells -/
theorem open_pair {fuel : Nat} {cs : List Value} {x : DataW H × List MemPlace} (h : DataW.trod enc Tryd.prog w base spare held fuel 39 cs = some x) : ∃ a b : Int, cs = [.int .i64 a, .int .i64 b] := by
  obtain ⟨xs, m, _, _, hl, hx, hi⟩ := DataW.trod_array Tryd.underlying39 h
  rw [cells39] at hl
  match cs, hl with
  | [c0, c1], _ =>
    have h0 := hi 0 (by omega)
    have h1 := hi 1 (by omega)
    rw [cells3] at h0 h1
    match xs, hx with
    | [x0, x1], _ =>
      obtain ⟨a, ha, _⟩ := DataW.trod_int Tryd.underlying3 (by simpa using h0)
      obtain ⟨b, hb, _⟩ := DataW.trod_int Tryd.underlying3 (by simpa using h1)
      simp only [List.cons.injEq, and_true] at ha hb
      exact ⟨a, b, by rw [ha, hb]⟩
/-- A GRAPH THAT CAME IN -/
theorem open_graph {r : Reach} {b0 : Nat} {v : Value} {d : DataW H} {p : List MemPlace} (hv : Value.okWide Tryd.prog w r b0 24 v) (h : DataW.Trod enc Tryd.prog w base spare held 24 v d p) :
    ∃ (N : Int) (A : Option Addr) (len cap : Nat) (es : List (Int × Int)), v = .agg #[.int .i64 N, .slice A len cap] ∧ len = es.length ∧ ERow w A es := by
  obtain ⟨c0, c1, y0, y1, n, rfl, rfl, rfl, h0, h1⟩ := open_agg2 Tryd.underlying24 (by kernel_rfl) cells24 hv h
  obtain ⟨N, hN, _⟩ := DataW.trod_int Tryd.underlying3 h0
  simp only [List.cons.injEq, and_true] at hN
  subst hN
  rcases open_slice Tryd.underlying22 h1 with ⟨hc, _⟩ | ⟨a, len, cap, m, n', D, Pl, hc, _, hl, _, hm, _, hi⟩
  · simp only [List.cons.injEq, and_true] at hc
    subst hc
    exact ⟨N, none, 0, 0, [], rfl, rfl, fun k hk => absurd hk (by simp)⟩
  · simp only [List.cons.injEq, and_true] at hc
    subst hc
    have hlm : len ≤ m := by rw [hm]; split <;> omega
    rw [cells39] at hi
    have hcell : ∀ k, k < m → ∃ x y : Int, w.cell? ((a.add (k * 2)).add 0) = some (.int .i64 x) ∧ w.cell? ((a.add (k * 2)).add 1) = some (.int .i64 y) := fun k hk => by
      obtain ⟨cs', hc1, hc2⟩ := hi k hk
      obtain ⟨x, y, rfl⟩ := open_pair hc2
      obtain ⟨_, _, hat⟩ := World.cells?_some hc1
      exact ⟨x, y, hat 0 (by omega), hat 1 (by omega)⟩
    refine ⟨N, some a, len, cap, (List.range len).map fun i => (getI (w.cell? ((a.add (i * 2)).add 0)), getI (w.cell? ((a.add (i * 2)).add 1))), rfl, by simp, fun k hk => ?_⟩
    have hk' : k < len := by simpa using hk
    obtain ⟨x, y, a0, a1⟩ := hcell k (by omega)
    obtain ⟨x0, _, z0, _⟩ := hcell 0 (by omega)
    have hg : ((List.range len).map fun i => (getI (w.cell? ((a.add (i * 2)).add 0)), getI (w.cell? ((a.add (i * 2)).add 1)))).getD k (0, 0) = (x, y) := by
      rw [getD_in _ _ hk]
      simp only [List.getElem_map, List.getElem_range, a0, a1, getI]
    rw [hg]
    obtain ⟨b, o, s⟩ := a
    have hs : s = none := World.cell?_spot z0
    subst hs
    rw [Addr.add_lit, Addr.add_lit] at a0 a1
    exact ⟨b, o, rfl, a0, a1⟩
end

/-- A WORLD FOR THE WITNESS: the settled one, the table (block 0) holding what its initialiser lays. -/
noncomputable def laidWorld (os : Os) : World :=
  { World.holding Tryd.prog os ⟨#[], #[], []⟩ with heap := (World.holding Tryd.prog os ⟨#[], #[], []⟩).heap.modify 0 fun
      | .cells _ t frozen => .cells #[.int .u8 0, .int .u8 1, .int .u8 56, .int .u8 2, .int .u8 57, .int .u8 49, .int .u8 28, .int .u8 3, .int .u8 61, .int .u8 58, .int .u8 42, .int .u8 50, .int .u8 38, .int .u8 29, .int .u8 17, .int .u8 4, .int .u8 62, .int .u8 47, .int .u8 59, .int .u8 36, .int .u8 45, .int .u8 43, .int .u8 51, .int .u8 22, .int .u8 53, .int .u8 39, .int .u8 33, .int .u8 30, .int .u8 24, .int .u8 18, .int .u8 12, .int .u8 5, .int .u8 63, .int .u8 55, .int .u8 48, .int .u8 27, .int .u8 60, .int .u8 41, .int .u8 37, .int .u8 16, .int .u8 46, .int .u8 35, .int .u8 44, .int .u8 21, .int .u8 52, .int .u8 32, .int .u8 23, .int .u8 11, .int .u8 54, .int .u8 26, .int .u8 40, .int .u8 15, .int .u8 34, .int .u8 20, .int .u8 31, .int .u8 10, .int .u8 25, .int .u8 14, .int .u8 19, .int .u8 9, .int .u8 13, .int .u8 8, .int .u8 7, .int .u8 6] t frozen
      | o => o }
end Go.Proofs.YtpdhggfmkmiebaaDoor
