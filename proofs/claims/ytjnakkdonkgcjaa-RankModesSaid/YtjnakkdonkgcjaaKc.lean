/- The library's stable sort at twelve numbers or fewer. -/
import Derived.Test.YtjnakkdonkgcjaaKb
import Derived.Shelf.SlSortCmp.Insertion
namespace Go.Proofs
open Go.Shelf Go.RowKit Go.Lib Go.Sort
def Try.ins_ren : Go.Shelf.Ren := ⟨fun | 20 => 40 | n => n, fun | 24 => 3 | 22 => 23 | 3 => 3 | 25 => 41 | 4 => 4 | 0 => 0 | n => n, fun | n => n⟩
theorem Try.ins : Go.Proofs.SlLaysF.n20 Try.prog Try.ins_ren := {
  mixed := by kernel_rfl
  f20 := ⟨Try.f40.name, by decide, Try.func40.trans (congrArg some (by kernel_rfl))⟩
  t0 := Try.underlying0
  a0 := Try.isAgg0
  z0 := Try.sizeOf0
  v0 := Try.zeroValue0
  t3 := Try.underlying3
  a3 := Try.isAgg3
  z3 := Try.sizeOf3
  v3 := Try.zeroValue3
  t4 := Try.underlying4
  a4 := Try.isAgg4
  z4 := Try.sizeOf4
  v4 := Try.zeroValue4
  t22 := Try.underlying23
  a22 := Try.isAgg23
  z22 := Try.sizeOf23
  v22 := Try.zeroValue23
  a24 := Try.isAgg3
  z24 := Try.sizeOf3
  t25 := Try.underlying41
  a25 := Try.isAgg41
  z25 := Try.sizeOf41
  v25 := Try.zeroValue41 }
end Go.Proofs
namespace Go.Proofs.Ytjnakkdonkgcjaa
open Go.Shelf Go.RowKit Go.Lib Go.Sort

/-- a number below twelve as it stands in memory -/
def enc12 (x : Fin 12) : Value := .int .i64 (x.val : Int)
theorem small12 (x : Fin 12) : Small (x.val : Int) := ⟨by omega, by have := x.isLt; omega⟩
/-- the comparison of two numbers by a mode's key -/
def cf12 (mode : Nat) (c : Int) (x y : Fin 12) : Int := cmpV (keyV mode x.val c) (keyV mode y.val c)
/-- the sorted row -/
def sorted12 (mode : Nat) (c : Int) (d : Array (Fin 12)) : Array (Fin 12) := Sort.insertionSort (ltOf (cf12 mode c)) d 0 d.size

/-- a box that lies in another block than the row holds what it held, wherever the sort stands -/
theorem sortWorld_cell {w : World} {b m B : Nat} {dk : Array (Fin 12)} {os : Array Obj} {v : Value} (h : w.cell? ⟨B, 0, none⟩ = some v) (hne : B ≠ b) : (sortWorld enc12 w b 0 m dk os).cell? ⟨B, 0, none⟩ = some v := by
  have hlt := World.block_lt_of_cell? _ _ h
  have h1 : (putRow enc12 (Sort.ahead w m) b 0 dk).cell? ⟨B, 0, none⟩ = some v := by
    rw [cell?_putRow_other enc12 _ b 0 dk ⟨B, 0, none⟩ (.inl hne)]
    exact h
  unfold sortWorld
  rw [Sort.cell?_grow _ _ _ (by rw [size_putRow]; exact hlt)]
  exact h1
theorem reads12 (mode : Nat) (hm : mode < 4) (c : Int) (hc : Small c) (K C b n : Nat) (w : World) (hK : w.cell? ⟨K, 0, none⟩ = some (.func (.func (31 + mode)) #[] #[])) (hC : w.cell? ⟨C, 0, none⟩ = some (.int .i64 c)) (hKb : K ≠ b) (hCb : C ≠ b) :
    CmpReads Try.prog 24 #[.pointer (some ⟨K, 0, none⟩), .pointer (some ⟨C, 0, none⟩)] enc12 (cf12 mode c) b 0 n w := fun _ _ _ _ x y =>
  less_any mode hm x.val y.val c (small12 x) (small12 y) hc K C _ (sortWorld_cell hK hKb) (sortWorld_cell hC hCb)

set_option maxRecDepth 100000 in
theorem sort_any (mode : Nat) (hm : mode < 4) (c : Int) (hc : Small c) (K C b cap : Nat) (d : Array (Fin 12)) (hn : d.size ≤ 12) (w : World) (hK : w.cell? ⟨K, 0, none⟩ = some (.func (.func (31 + mode)) #[] #[])) (hC : w.cell? ⟨C, 0, none⟩ = some (.int .i64 c)) (hKb : K ≠ b) (hCb : C ≠ b)
    (hH : Holds enc12 w b 0 d) :
    Calls Try.prog 23 #[.slice (some ⟨b, 0, none⟩) d.size cap, .func (.func 24) #[] #[.pointer (some ⟨K, 0, none⟩), .pointer (some ⟨C, 0, none⟩)]] w fun e w' =>
      e = .returned (.tuple #[]) ∧ ∃ q, w' = (putRow enc12 w b 0 (sorted12 mode c d)).drewN q := by
  have hi := Any.insertionSortCmpFunc_one Try.ins enc12 (fun _ => rfl) (cf12 mode c) 24 #[.pointer (some ⟨K, 0, none⟩), .pointer (some ⟨C, 0, none⟩)] b 0 cap 0 d.size d w (enters_of Try.func24 (by kernel_rfl) rfl) (reads12 mode hm c hc K C b d.size w hK hC hKb hCb) hH (Nat.zero_le _) (Nat.le_refl _) (by omega)
  change Calls Try.prog 40 _ _ _ at hi
  obtain ⟨r, hr⟩ : ∃ r, Sort.insertionSort (ltOf (cf12 mode c)) d 0 d.size = r := ⟨_, rfl⟩
  rw [hr] at hi
  rw [sorted12, hr]
  obtain ⟨n, hnn⟩ : ∃ n, d.size = n := ⟨_, rfl⟩
  rw [hnn] at hi hn ⊢
  have HI := Lib.hid hi
  clear hi hr hH hK hC
  have h35 : Calls Try.prog 35 #[.slice (some ⟨b, 0, none⟩) n cap, .int .i64 n, .func (.func 24) #[] #[.pointer (some ⟨K, 0, none⟩), .pointer (some ⟨C, 0, none⟩)]] w fun e w' =>
      e = .returned (.tuple #[]) ∧ ∃ q, w' = (putRow enc12 w b 0 r).drewN q := by
    go_enter Try.func35, Try.ntmps35
    go_wp2
    refine wp_loop_rounds 1 ?_
    rw [rounds_succ]
    go_wp2_with fail
    refine (HI.out).mono ?_
    rintro e w1 ⟨rfl, q, rfl⟩
    go_wp2
    refine wp_loop_rounds 1 ?_
    rw [rounds_succ]
    go_wp2
    go_end0
    exact ⟨rfl, q, rfl⟩
  have H35 := Lib.hid h35
  clear h35
  go_enter Try.func23, Try.ntmps23
  go_wp2_with fail
  refine (H35.out).mono ?_
  rintro e w1 ⟨rfl, q, rfl⟩
  go_wp2
  go_end0
  exact ⟨rfl, q, rfl⟩
end Go.Proofs.Ytjnakkdonkgcjaa
