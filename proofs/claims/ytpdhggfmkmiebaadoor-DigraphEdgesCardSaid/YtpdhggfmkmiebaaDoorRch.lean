/- What Reach works out, in plain words; and its contract. -/
import Derived.Test.YtpdhggfmkmiebaaDoorC
import Derived.Test.YtpdhggfmkmiebaaDoorOwn
namespace Go.Proofs.YtpdhggfmkmiebaaDoor
open Go.RowKit

/-- the edges turned round -/
def swapE (ns : List (Nat × Nat)) : List (Nat × Nat) := ns.map fun e => (e.2, e.1)
/-- the set of the ends of the edges from i -/
def outF (ns : List (Nat × Nat)) (i : Nat) : Nat := aheadF (swapE ns) i
theorem outF_snoc (ns : List (Nat × Nat)) (x y j : Nat) : outF (ns ++ [(x, y)]) j = if j = x then outF ns j ||| 2 ^ y else outF ns j := by
  simp only [outF, swapE, List.map_append, List.map_cons, List.map_nil, aheadF_snoc]
theorem outF_lt {n : Nat} {ns : List (Nat × Nat)} (h : ∀ e ∈ ns, e.2 < n) (j : Nat) : outF ns j < 2 ^ n := by
  refine aheadF_lt (fun e he => ?_) j
  simp only [swapE, List.mem_map] at he
  obtain ⟨e', he', rfl⟩ := he
  exact h e' he'

/-- one node's turn: whoever reaches k reaches what k reaches -/
def stepK (k : Nat) (f : Nat → Nat) (j : Nat) : Nat := if (f j).testBit k then f j ||| f k else f j
/-- what each node reaches by way of the nodes below k -/
def viaF (ns : List (Nat × Nat)) : Nat → Nat → Nat
  | 0 => outF ns
  | k + 1 => stepK k (viaF ns k)
theorem stepK_self (k : Nat) (f : Nat → Nat) : stepK k f k = f k := by unfold stepK; split <;> simp
theorem viaF_lt {n : Nat} {ns : List (Nat × Nat)} (h : ∀ e ∈ ns, e.2 < n) : ∀ k j, viaF ns k j < 2 ^ n
  | 0, j => outF_lt h j
  | k + 1, j => by
    have h1 := viaF_lt h k j
    have h2 := viaF_lt h k k
    unfold viaF stepK
    split
    · exact Nat.or_lt_two_pow h1 h2
    · exact h1
/-- the row in the midst of k's turn, when the nodes below i have had theirs -/
def midK (k i : Nat) (f : Nat → Nat) (j : Nat) : Nat := if j < i then stepK k f j else f j
theorem midK_at (k i : Nat) (f : Nat → Nat) : midK k i f i = f i := by simp [midK]
theorem midK_k (k i : Nat) (f : Nat → Nat) : midK k i f k = f k := by unfold midK; split <;> simp [stepK_self]
theorem midK_succ_yes {k i : Nat} {f : Nat → Nat} (h : (f i).testBit k = true) (j : Nat) : (if j = i then f i ||| f k else midK k i f j) = midK k (i + 1) f j := by
  unfold midK
  by_cases e : j = i
  · subst e; simp [stepK, h]
  · rw [if_neg e]
    by_cases hl : j < i
    · rw [if_pos hl, if_pos (by omega)]
    · rw [if_neg hl, if_neg (by omega)]
theorem midK_succ_no {k i : Nat} {f : Nat → Nat} (h : (f i).testBit k = false) (j : Nat) : midK k i f j = midK k (i + 1) f j := by
  unfold midK
  by_cases e : j = i
  · subst e; simp [stepK, h]
  · by_cases hl : j < i
    · rw [if_pos hl, if_pos (by omega)]
    · rw [if_neg hl, if_neg (by omega)]

set_option maxRecDepth 100000 in
theorem reach_wrong (N : Int) (A : Option Addr) (len cap : Nat) (es : List (Int × Int)) (hlen : Hid (len = es.length)) (hbad : Hid (rightB N es = false)) (w : World) (hE : ERow w A es) :
    Calls Tryd.prog 13 #[.agg #[.int .i64 N, .slice A len cap]] w (Ret (.tuple #[.slice none 0 0, .int .i64 20]) w) := by
  go_enter Tryd.func13, Tryd.ntmps13
  go_wp2_with fail
  refine (check_wrong N A len cap es hlen hbad _ (hE.below (below_alloc (Below.refl _ _) _))).mono ?_
  rintro e w1 ⟨rfl, hb2⟩
  simp only [World.size_alloc] at hb2
  have hB := below_new hb2
  go_wp2
  go_ret2
  exact ⟨rfl, hB⟩

set_option maxRecDepth 100000 in
set_option maxHeartbeats 1000000 in
theorem reach_ok (n : Nat) (A : Option Addr) (len cap : Nat) (ns : List (Nat × Nat)) (hlen : Hid (len = ns.length)) (hG : GOk n ns) (w : World) (hE : NRow w A ns) :
    Calls Tryd.prog 13 #[.agg #[.int .i64 n, .slice A len cap]] w (RetRow0 33 n (u64F (viaF ns n)) w) := by
  have h1 : n ≤ 64 := hG.hn
  have h2 : len ≤ 4096 := by rw [hlen.out]; exact hG.hl
  go_enter Tryd.func13, Tryd.ntmps13
  go_wp2_with fail
  refine (check_ok n A len cap ns hlen hG _ (hE.below (below_alloc (Below.refl _ _) _))).mono ?_
  rintro e w1 ⟨rfl, hb2⟩
  simp only [World.size_alloc] at hb2
  have hB := below_new hb2
  have d0 : w1.cell? ⟨w.heap.size, 0, none⟩ = some (.int .i64 n) := (hb2.cell (show w.heap.size < w.heap.size + 1 by omega)).trans (World.cell?_alloc_at _ _ _ _ rfl)
  have d1 : w1.cell? ⟨w.heap.size, 1, none⟩ = some (.slice A len cap) := (hb2.cell (show w.heap.size < w.heap.size + 1 by omega)).trans (World.cell?_alloc_at _ _ _ _ rfl)
  have hs1 : w.heap.size < w1.heap.size := by have := hb2.size; simp at this; omega
  have d1' : ∀ o, (w1.alloc o).cell? ⟨w.heap.size, 1, none⟩ = some (.slice A len cap) := fun o => (World.cell?_alloc_past _ _ _ hs1).trans d1
  have hmk := run_make_row' (P := Tryd.prog) 27 33 (.int .u64 0) 8 Tryd.underlying27 info33 rfl .i64 .i64 n (by omega) (by omega)
  go_wp2
  clear hmk d1'
  have hE1 := hE.below hB
  have HD0 := Lib.hid d0
  clear hb2 hE d0 d1
  -- the edges
  go_loopg [21] len (fun g i wr => ∃ k : Nat, k ≤ len ∧ g = len - k ∧ i = .int .i64 k ∧ wr.rowIs w1.heap.size 33 n (u64F (outF (ns.take k))) ∧ Below w1.heap.size w1 wr)
  case atStart =>
    refine ⟨0, by omega, rfl, rfl, ?_, (Below.refl _ _).alloc (Nat.le_refl _) _⟩
    exact (World.rowIs_made w1 (.int .u64 0) n 33).congr fun j hj => rfl
  case round =>
    obtain ⟨k, hk, rfl, rfl, hrow, hb⟩ := hrel
    by_cases hlt : k < len
    · have hlt' : k < ns.length := by rw [← hlen.out]; exact hlt
      obtain ⟨b, o, rfl, c1, c2⟩ := hE1 k hlt'
      obtain ⟨q1, q2⟩ := hG.hk k hlt'
      have hbl : b < w1.heap.size := World.block_lt_of_cell? _ _ c1
      have d1 : wr.cell? ⟨b, o + k * 2, none⟩ = some (.int .i64 (ns.getD k (0, 0)).1) := (hb.cell hbl).trans c1
      have d2 : wr.cell? ⟨b, o + k * 2 + 1, none⟩ = some (.int .i64 (ns.getD k (0, 0)).2) := (hb.cell hbl).trans c2
      have hsz : w1.heap.size < wr.heap.size := hrow.lt
      clear c1 c2
      obtain ⟨x, hx⟩ : ∃ x, (ns.getD k (0, 0)).1 = x := ⟨_, rfl⟩
      obtain ⟨y, hy⟩ : ∃ y, (ns.getD k (0, 0)).2 = y := ⟨_, rfl⟩
      have hxy : ns.getD k (0, 0) = (x, y) := by rw [← hx, ← hy]
      rw [hx] at d1 q1
      rw [hy] at d2 q2
      have HX : Hid (ns.take (k + 1) = ns.take k ++ [(x, y)]) := Lib.hid (by rw [take_snoc ns (0, 0) hlt', hxy])
      clear hx hy hxy
      have e1 : ∀ o, (wr.alloc o).cell? ⟨w1.heap.size, x, none⟩ = some (.int .u64 (outF (ns.take k) x : Nat)) := fun o => (hrow.alloc o).cell q1
      have e2 : ∀ o, (wr.alloc o).frozen? ⟨w1.heap.size, x, none⟩ = false := fun o => (hrow.alloc o).frozen x
      have hs64 : outF (ns.take k) x < 2 ^ 64 := lt64 (outF_lt (fun e he => (hG.mem (List.mem_of_mem_take he)).2) x) h1
      have HV := Lib.hid (or_pow hs64 (show y < 64 by omega))
      obtain ⟨s, hs⟩ : ∃ s, outF (ns.take k) x = s := ⟨_, rfl⟩
      rw [hs] at e1
      have HS := Lib.hid hs
      have HR := Lib.hid hrow
      clear hs hrow hs64
      go_wp2
      go_region
      go_wp2
      go_roundg (len - (k + 1))
      case measure => omega
      case rel =>
        refine ⟨k + 1, by omega, rfl, by go_num, ?_, ((hb.setCell (by show w1.heap.size ≤ w1.heap.size; omega) _).alloc (by simp [World.setCell]; omega) _).drew⟩
        refine (((HR.out.set x _).alloc _).drew).congr fun j hj => ?_
        have hv := HV.out
        rw [HS.out] at hv
        rw [HX.out, hv]
        simp only [u64F, outF_snoc]
        by_cases e : j = x
        · subst e; rw [if_pos rfl, if_pos rfl, HS.out]
        · rw [if_neg e, if_neg e]
    · obtain rfl : k = len := by omega
      have HT : Hid (ns.take k = ns) := Lib.hid (by rw [hlen.out, List.take_length])
      have d0' : wr.cell? ⟨w.heap.size, 0, none⟩ = some (.int .i64 n) := (hb.cell hs1).trans HD0.out
      rw [HT.out] at hrow
      have hrow0 : wr.rowIs w1.heap.size 33 n (u64F (viaF ns 0)) := hrow
      clear hrow
      go_wp2
      obtain ⟨wo, rfl⟩ : ∃ wo : World, wo = wr := ⟨_, rfl⟩
      -- each node's turn
      go_loopg [38] n (fun g i wr => ∃ k : Nat, k ≤ n ∧ g = n - k ∧ i = .int .i64 k ∧ wr.rowIs w1.heap.size 33 n (u64F (viaF ns k)) ∧ Below w1.heap.size w1 wr)
      case atStart => exact ⟨0, by omega, rfl, rfl, hrow0, hb⟩
      case round =>
        clear hrow0 hb d0'
        obtain ⟨t, ht, rfl, rfl, hrow, hb⟩ := hrel
        by_cases hlt2 : t < n
        · obtain ⟨f, hf⟩ : ∃ f, viaF ns t = f := ⟨_, rfl⟩
          have hflt : ∀ j, f j < 2 ^ 64 := fun j => by rw [← hf]; exact lt64 (viaF_lt (fun e he => (hG.mem he).2) t j) h1
          rw [hf] at hrow
          have HF := Lib.hid hf
          have HL := Lib.hid hflt
          clear hf hflt
          go_wp2
          obtain ⟨wi, rfl⟩ : ∃ wi : World, wi = wr := ⟨_, rfl⟩
          go_loopg [9, 43] n (fun g s9 i wr => ∃ k : Nat, k ≤ n ∧ g = n - k ∧ i = .int .i64 k ∧ wr.rowIs w1.heap.size 33 n (u64F (midK t k f)) ∧ Below w1.heap.size w1 wr)
          case atStart => exact ⟨0, by omega, rfl, rfl, hrow.congr (fun j _ => by simp [u64F, midK]), hb⟩
          case round =>
            clear hrow hb
            obtain ⟨i, hi, rfl, rfl, hrow, hb⟩ := hrel
            have HR := Lib.hid hrow
            by_cases hlt3 : i < n
            · have e1 : wr.cell? ⟨w1.heap.size, i, none⟩ = some (.int .u64 (f i : Nat)) := by have := hrow.cell hlt3; rwa [u64F, midK_at] at this
              have e2 : wr.cell? ⟨w1.heap.size, t, none⟩ = some (.int .u64 (f t : Nat)) := by have := hrow.cell hlt2; rwa [u64F, midK_k] at this
              have e3 : wr.frozen? ⟨w1.heap.size, i, none⟩ = false := hrow.frozen i
              clear hrow
              cases hq : (f i).testBit t
              · have t1 := bit_false (HL.out i) hq
                have HN := Lib.hid (midK_succ_no hq)
                clear hq
                go_wp2
                go_roundg (n - (i + 1))
                case measure => omega
                case rel => exact ⟨i + 1, by omega, rfl, by go_num, HR.out.congr (fun j _ => by simp only [u64F, HN.out]), hb⟩
              · have t1 := bit_true (HL.out i) hq
                have HN := Lib.hid (midK_succ_yes hq)
                have HV := Lib.hid (or_nat (f i) (f t) (HL.out i) (HL.out t))
                clear hq
                go_wp2
                go_region
                go_wp2
                go_roundg (n - (i + 1))
                case measure => omega
                case rel =>
                  refine ⟨i + 1, by omega, rfl, by go_num, ((HR.out.set i _).drew).congr (fun j _ => ?_), (hb.setCell (by show w1.heap.size ≤ w1.heap.size; omega) _).drew⟩
                  rw [HV.out]
                  simp only [u64F, ← HN.out j]
                  split <;> rfl
            · obtain rfl : i = n := by omega
              clear hrow
              go_wp2
              go_roundg (i - (t + 1))
              case measure => omega
              case rel => exact ⟨t + 1, by omega, rfl, by go_num, HR.out.congr (fun j hj => by simp only [u64F, midK, viaF, HF.out, if_pos hj]), hb⟩
        · obtain rfl : t = n := by omega
          go_wp2
          go_ret2
          exact ⟨w1.heap.size, rfl, by omega, hrow, below_then hB hB.size hb⟩
end Go.Proofs.YtpdhggfmkmiebaaDoor
