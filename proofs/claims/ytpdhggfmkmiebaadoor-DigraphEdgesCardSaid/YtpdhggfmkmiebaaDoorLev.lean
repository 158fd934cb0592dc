/- What Levels works out, in plain words; and its contract. -/
import Derived.Test.YtpdhggfmkmiebaaDoorOrd
namespace Go.Proofs.YtpdhggfmkmiebaaDoor
open Go.RowKit

/-- node i is raised over node k, if there is an edge from k to i -/
def lvStep (ns : List (Nat × Nat)) (i k : Nat) (f : Nat → Nat) (j : Nat) : Nat := if j = i ∧ (aheadF ns i).testBit k then max (f i) (f k + 1) else f j
/-- node i is raised over all nodes below k -/
def lvIn (ns : List (Nat × Nat)) (i : Nat) (f : Nat → Nat) : Nat → Nat → Nat
  | 0 => f
  | k + 1 => lvStep ns i k (lvIn ns i f k)
/-- all the nodes of a list are raised, one behind the other -/
def lvAll (n : Nat) (ns : List (Nat × Nat)) (l : List Nat) : Nat → Nat := l.foldl (fun f i => lvIn ns i f n) (fun _ => 0)
theorem lvAll_snoc (n : Nat) (ns : List (Nat × Nat)) (l : List Nat) (i : Nat) : lvAll n ns (l ++ [i]) = lvIn ns i (lvAll n ns l) n := by
  simp [lvAll, List.foldl_append]
theorem lvStep_le {ns : List (Nat × Nat)} {i k : Nat} {f : Nat → Nat} {t : Nat} (h : ∀ j, f j ≤ t) (j : Nat) : lvStep ns i k f j ≤ t + 1 := by
  unfold lvStep
  have h1 := h i
  have h2 := h k
  have h3 := h j
  split <;> omega
theorem lvIn_le {ns : List (Nat × Nat)} {i : Nat} {f : Nat → Nat} {t : Nat} (h : ∀ j, f j ≤ t) : ∀ k j, lvIn ns i f k j ≤ t + k
  | 0, j => h j
  | k + 1, j => lvStep_le (lvIn_le h k) j
theorem lvAll_le (n : Nat) (ns : List (Nat × Nat)) : ∀ (l : List Nat) (j : Nat), lvAll n ns l j ≤ l.length * n := by
  intro l
  have : ∀ m, ∀ j, lvAll n ns (l.take m) j ≤ (l.take m).length * n := by
    intro m
    induction m with
    | zero => intro j; simp [lvAll]
    | succ m ih =>
      intro j
      by_cases hm : m < l.length
      · rw [take_snoc l 0 hm, lvAll_snoc, List.length_append]
        have := lvIn_le (ns := ns) (i := l.getD m 0) ih n j
        simp only [List.length_cons, List.length_nil, Nat.zero_add, Nat.add_mul, Nat.one_mul]
        exact this
      · rw [List.take_of_length_le (by omega)]
        rw [List.take_of_length_le (by omega)] at ih
        exact ih j
  have h := this l.length
  rwa [List.take_length] at h
theorem lvStep_yes {ns : List (Nat × Nat)} {i k : Nat} {f : Nat → Nat} (h : (aheadF ns i).testBit k = true) (j : Nat) : (if j = i then max (f i) (f k + 1) else f j) = lvStep ns i k f j := by
  unfold lvStep
  simp [h]
theorem lvStep_no {ns : List (Nat × Nat)} {i k : Nat} {f : Nat → Nat} (h : (aheadF ns i).testBit k = false) (j : Nat) : f j = lvStep ns i k f j := by
  unfold lvStep
  simp [h]

/-- the nodes of an order are nodes -/
theorem orderGo_lt {n : Nat} {ns : List (Nat × Nat)} (hn : n ≤ 64) : ∀ (f set : Nat) (out : List Nat), (∀ x ∈ out, x < n) → ∀ x ∈ orderGo n ns f set out, x < n
  | 0, _, out, h => h
  | f + 1, set, out, h => by
    unfold orderGo
    split
    · exact h
    · rename_i hr
      refine orderGo_lt hn f _ _ fun x hx => ?_
      simp only [List.mem_append, List.mem_singleton] at hx
      rcases hx with hx | rfl
      · exact h x hx
      · exact (nextF_spec hn hr).1
theorem orderV_lt {n : Nat} (ns : List (Nat × Nat)) (hn : n ≤ 64) : ∀ x ∈ orderV n ns, x < n := orderGo_lt hn n 0 [] (by simp)

/-- Levels' answer -/
def RetLevels (n : Nat) (ns : List (Nat × Nat)) (w : World) (e : Ending) (w' : World) : Prop :=
  Below w.heap.size w w' ∧
  ((orderV n ns).length < n ∧ e = .returned (.tuple #[.slice none 0 0, .int .i64 21]) ∨
   (orderV n ns).length = n ∧ ∃ b, e = .returned (.tuple #[.slice (some ⟨b, 0, none⟩) n n, .int .i64 0]) ∧ w'.rowIs b 3 n (i64F (lvAll n ns (orderV n ns))))

set_option maxRecDepth 100000 in
theorem levels_wrong (N : Int) (A : Option Addr) (len cap : Nat) (es : List (Int × Int)) (hlen : Hid (len = es.length)) (hbad : Hid (rightB N es = false)) (w : World) (hE : ERow w A es) :
    Calls Tryd.prog 26 #[.agg #[.int .i64 N, .slice A len cap]] w (Ret (.tuple #[.slice none 0 0, .int .i64 20]) w) := by
  go_enter Tryd.func26, Tryd.ntmps26
  go_wp2_with fail
  refine (order_wrong N A len cap es hlen hbad _ (hE.below (below_alloc (Below.refl _ _) _))).mono ?_
  rintro e w1 ⟨rfl, hb2⟩
  simp only [World.size_alloc] at hb2
  have hB := below_new hb2
  go_wp2
  go_ret2
  exact ⟨rfl, hB⟩

set_option maxRecDepth 100000 in
set_option maxHeartbeats 1000000 in
theorem levels_ok (n : Nat) (A : Option Addr) (len cap : Nat) (ns : List (Nat × Nat)) (hlen : Hid (len = ns.length)) (hG : GOk n ns) (w : World) (hE : NRow w A ns) (hT : Tab w) :
    Calls Tryd.prog 26 #[.agg #[.int .i64 n, .slice A len cap]] w (RetLevels n ns w) := by
  have h1 : n ≤ 64 := hG.hn
  go_enter Tryd.func26, Tryd.ntmps26
  go_wp2_with fail
  refine (order_ok n A len cap ns hlen hG _ (hE.below (below_alloc (Below.refl _ _) _)) (hT.below (below_alloc (Below.refl _ _) _))).mono ?_
  rintro e w1 ⟨hb2, ⟨hl, rfl⟩ | ⟨hl, OA, oc, rfl, hI⟩⟩
  · simp only [World.size_alloc] at hb2
    have hB := below_new hb2
    go_wp2
    go_ret2
    exact ⟨hB, .inl ⟨hl, rfl⟩⟩
  · simp only [World.size_alloc] at hb2
    have hB := below_new hb2
    have d0 : w1.cell? ⟨w.heap.size, 0, none⟩ = some (.int .i64 n) := (hb2.cell (show w.heap.size < w.heap.size + 1 by omega)).trans (World.cell?_alloc_at _ _ _ _ rfl)
    have d1 : w1.cell? ⟨w.heap.size, 1, none⟩ = some (.slice A len cap) := (hb2.cell (show w.heap.size < w.heap.size + 1 by omega)).trans (World.cell?_alloc_at _ _ _ _ rfl)
    have hs1 : w.heap.size < w1.heap.size := by have := hb2.size; simp at this; omega
    have d0' : ∀ o, (w1.alloc o).cell? ⟨w.heap.size, 0, none⟩ = some (.int .i64 n) := fun o => (World.cell?_alloc_past _ _ _ hs1).trans d0
    have d1' : ∀ o, (w1.alloc o).cell? ⟨w.heap.size, 1, none⟩ = some (.slice A len cap) := fun o => (World.cell?_alloc_past _ _ _ hs1).trans d1
    have hmk := run_make_row' (P := Tryd.prog) 47 3 (.int .i64 0) 8 Tryd.underlying47 info3 rfl .i64 .i64 n (by omega) (by omega)
    have HLen := Lib.hid hl
    have hlt := orderV_lt ns h1
    obtain ⟨l, hl'⟩ : ∃ l, orderV n ns = l := ⟨_, rfl⟩
    rw [hl'] at HLen hlt hI
    have HO := Lib.hid hl'
    have HI := Lib.hid hI
    have HLT := Lib.hid hlt
    have hE1 := hE.below hB
    clear hb2 hE hl hl' hI hlt
    go_wp2_with fail
    refine (ahead_walk n A len cap ns hlen hG _ (hE1.below (below_alloc (Below.refl _ _) _))).mono ?_
    rintro e w2 ⟨ab, rfl, hab, hrowA, hb3⟩
    simp only [World.size_alloc] at hab hb3
    have hrow0 : w2.rowIs w1.heap.size 3 n (i64F (fun _ => 0)) := row_below (World.rowIs_made w1 (.int .i64 0) n 3) hb3 (by omega)
    have hB3 : Below w1.heap.size w1 w2 := below_new hb3
    clear hmk d0' d1'
    go_wp2
    go_loopg [26] n (fun g i wr => ∃ p : Nat, p ≤ n ∧ g = n - p ∧ i = .int .i64 p ∧ wr.rowIs w1.heap.size 3 n (i64F (lvAll n ns (l.take p))) ∧ wr.rowIs ab 33 n (u64F (aheadF ns)) ∧ Below w1.heap.size w1 wr)
    case atStart => exact ⟨0, by omega, rfl, rfl, hrow0, hrowA, hB3⟩
    case round =>
      clear hrow0 hrowA hb3 hB3
      obtain ⟨p, hp, rfl, rfl, hrow, hrowA, hb⟩ := hrel
      by_cases hlt : p < n
      · have hp' : p < l.length := by rw [HLen.out]; exact hlt
        obtain ⟨ob, oo, rfl, hoc⟩ := HI.out p hp'
        have c1 : wr.cell? ⟨ob, oo + p, none⟩ = some (.int .i64 (l.getD p 0 : Nat)) := (hb.cell (World.block_lt_of_cell? _ _ hoc)).trans hoc
        have c0 : wr.cell? ⟨w.heap.size, 0, none⟩ = some (.int .i64 n) := (hb.cell hs1).trans d0
        have hin : l.getD p 0 < n := HLT.out _ (getD_mem l 0 hp')
        have HTK := Lib.hid (take_snoc l 0 hp')
        clear hoc
        have hfle : ∀ j, lvAll n ns (l.take p) j ≤ 4096 := fun j => by
          have := lvAll_le n ns (l.take p) j
          have e1 : (l.take p).length ≤ n := Nat.le_trans (List.length_take_le _ _) hp
          exact Nat.le_trans this (Nat.le_trans (Nat.mul_le_mul (Nat.le_trans e1 h1) h1) (by omega))
        obtain ⟨i, hi⟩ : ∃ i, l.getD p 0 = i := ⟨_, rfl⟩
        rw [hi] at c1 hin HTK
        obtain ⟨f, hf⟩ : ∃ f, lvAll n ns (l.take p) = f := ⟨_, rfl⟩
        rw [hf] at hrow hfle
        have HF := Lib.hid hf
        have HFL := Lib.hid hfle
        clear hi hf hfle
        go_wp2
        obtain ⟨wi, rfl⟩ : ∃ wi : World, wi = wr := ⟨_, rfl⟩
        go_loopg [10, 32] n (fun g s10 s wr => ∃ k : Nat, k ≤ n ∧ g = n - k ∧ s = .int .i64 k ∧ wr.rowIs w1.heap.size 3 n (i64F (lvIn ns i f k)) ∧ wr.rowIs ab 33 n (u64F (aheadF ns)) ∧ Below w1.heap.size w1 wr)
        case atStart => exact ⟨0, by omega, rfl, rfl, hrow, hrowA, hb⟩
        case round =>
          clear hrow hrowA hb c1 c0
          obtain ⟨k, hk, rfl, rfl, hrow, hrowA, hb⟩ := hrel
          have HR := Lib.hid hrow
          have HA := Lib.hid hrowA
          by_cases hlt3 : k < n
          · have e1 : wr.cell? ⟨w1.heap.size, i, none⟩ = some (.int .i64 (lvIn ns i f k i : Nat)) := hrow.cell hin
            have e2 : wr.cell? ⟨w1.heap.size, k, none⟩ = some (.int .i64 (lvIn ns i f k k : Nat)) := hrow.cell hlt3
            have e3 : wr.frozen? ⟨w1.heap.size, i, none⟩ = false := hrow.frozen i
            have e4 : wr.cell? ⟨ab, i, none⟩ = some (.int .u64 (aheadF ns i : Nat)) := hrowA.cell hin
            have hA64 : aheadF ns i < 2 ^ 64 := lt64 (aheadF_lt (fun e he => (hG.mem he).1) i) h1
            have hle1 : lvIn ns i f k i ≤ 8192 := by have := lvIn_le (ns := ns) (i := i) HFL.out k i; omega
            have hle2 : lvIn ns i f k k ≤ 8192 := by have := lvIn_le (ns := ns) (i := i) HFL.out k k; omega
            have hne : ab ≠ w1.heap.size := by omega
            clear hrow hrowA
            cases hq : (aheadF ns i).testBit k
            · have t1 := bit_false hA64 hq
              have HN := Lib.hid (lvStep_no (f := lvIn ns i f k) hq)
              clear hq hA64
              go_wp2
              go_roundg (n - (k + 1))
              case measure => omega
              case rel => exact ⟨k + 1, by omega, rfl, by go_num, HR.out.congr (fun j _ => by simp only [i64F]; rw [lvIn, ← HN.out]), HA.out, hb⟩
            · have t1 := bit_true hA64 hq
              have HN := Lib.hid (lvStep_yes (f := lvIn ns i f k) hq)
              obtain ⟨x, hx⟩ : ∃ x, lvIn ns i f k i = x := ⟨_, rfl⟩
              obtain ⟨y, hy⟩ : ∃ y, lvIn ns i f k k = y := ⟨_, rfl⟩
              rw [hx] at e1 hle1 HN
              rw [hy] at e2 hle2 HN
              clear hq hA64 hx hy
              by_cases hm : (x : Int) < (y : Int) + 1
              · have HM : Hid (max x (y + 1) = y + 1) := Lib.hid (by omega)
                go_wp2
                go_region
                go_wp2
                go_roundg (n - (k + 1))
                case measure => omega
                case rel =>
                  refine ⟨k + 1, by omega, rfl, by go_num, ((HR.out.set i _).drew).congr (fun j _ => ?_), ((HA.out.setOther (by exact hne) _).drew), (hb.setCell (by show w1.heap.size ≤ w1.heap.size; omega) _).drew⟩
                  simp only [i64F]
                  rw [lvIn, ← HN.out j, HM.out]
                  split <;> simp <;> omega
              · have HM : Hid (max x (y + 1) = x) := Lib.hid (by omega)
                go_wp2
                go_region
                go_wp2
                go_roundg (n - (k + 1))
                case measure => omega
                case rel =>
                  refine ⟨k + 1, by omega, rfl, by go_num, ((HR.out.set i _).drew).congr (fun j _ => ?_), ((HA.out.setOther (by exact hne) _).drew), (hb.setCell (by show w1.heap.size ≤ w1.heap.size; omega) _).drew⟩
                  simp only [i64F]
                  rw [lvIn, ← HN.out j, HM.out]
                  split <;> simp <;> omega
          · obtain rfl : k = n := by omega
            clear hrow hrowA
            go_wp2
            go_roundg (k - (p + 1))
            case measure => omega
            case rel => exact ⟨p + 1, by omega, rfl, by go_num, HR.out.congr (fun j _ => by simp only [i64F]; rw [HTK.out, lvAll_snoc, HF.out]), HA.out, hb⟩
      · obtain rfl : p = n := by omega
        have HT2 : Hid (l.take p = l) := Lib.hid (by rw [← HLen.out, List.take_length])
        go_wp2
        go_ret2
        rw [HT2.out, ← HO.out] at hrow
        exact ⟨below_then hB hB.size hb, .inr ⟨by rw [HO.out]; exact HLen.out, w1.heap.size, rfl, hrow⟩⟩
end Go.Proofs.YtpdhggfmkmiebaaDoor
