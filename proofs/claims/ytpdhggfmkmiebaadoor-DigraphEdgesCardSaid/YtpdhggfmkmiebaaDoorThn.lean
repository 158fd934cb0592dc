/- What Thin works out, in plain words; and its contract. -/
import Derived.Test.YtpdhggfmkmiebaaDoorOrd
import Derived.Test.YtpdhggfmkmiebaaDoorRch
namespace Go.Proofs.YtpdhggfmkmiebaaDoor
open Go.RowKit

theorem info39 : (Tryd.prog.info? 39).map (fun i => (i.zero, i.size, i.bytes)) = some (some (.agg #[.int .i64 0, .int .i64 0]), 2, 16) := by kernel_rfl

/-- the cells of a list of pairs -/
def prs (l : List (Nat × Nat)) : List Value := l.flatMap fun e => [Value.int .i64 (e.1 : Int), Value.int .i64 (e.2 : Int)]
theorem prs_snoc (l : List (Nat × Nat)) (x y : Nat) : prs (l ++ [(x, y)]) = prs l ++ [Value.int .i64 (x : Int), Value.int .i64 (y : Int)] := by simp [prs]
theorem prs_length : ∀ l : List (Nat × Nat), (prs l).length = l.length * 2
  | [] => rfl
  | e :: r => by
    have := prs_length r
    simp only [prs, List.flatMap_cons, List.length_append, List.length_cons, List.length_nil] at *
    omega
theorem prs_get : ∀ (l : List (Nat × Nat)) (k : Nat), k < l.length → (prs l)[k * 2]? = some (.int .i64 ((l.getD k (0, 0)).1 : Nat)) ∧ (prs l)[k * 2 + 1]? = some (.int .i64 ((l.getD k (0, 0)).2 : Nat))
  | [], k, h => absurd h (by simp)
  | e :: r, 0, _ => by simp [prs]
  | e :: r, k + 1, h => by
    have ih := prs_get r k (by simpa using h)
    have e1 : (k + 1) * 2 = k * 2 + 1 + 1 := by omega
    rw [e1]
    simp only [prs, List.flatMap_cons, List.cons_append, List.nil_append, List.getElem?_cons_succ, List.getD_cons_succ]
    exact ih
theorem own_nrow {w : World} {base n : Nat} {A : Option Addr} {c : Nat} {l : List (Nat × Nat)} (h : w.ownsRow base 39 2 (.slice A n c) n (prs l)) : NRow w A l := fun k hk => by
  have hn : n = l.length := by have := h.1; rw [prs_length] at this; omega
  obtain ⟨g, cap, hv, _, _⟩ := h.form (by omega)
  simp only [Value.slice.injEq] at hv
  obtain ⟨rfl, _, rfl⟩ := hv
  obtain ⟨p1, p2⟩ := prs_get l k hk
  refine ⟨g, 0, rfl, ?_, ?_⟩
  · rw [Nat.zero_add, h.cellAt (k * 2) (by omega)]; exact p1
  · rw [Nat.zero_add, h.cellAt (k * 2 + 1) (by omega)]; exact p2

/-- all that is reached from one of the nodes of s below k -/
def farF (r : Nat → Nat) (s : Nat) : Nat → Nat
  | 0 => 0
  | k + 1 => if s.testBit k then farF r s k ||| r k else farF r s k
theorem farF_lt {r : Nat → Nat} {s m : Nat} (h : ∀ j, r j < 2 ^ m) : ∀ k, farF r s k < 2 ^ m
  | 0 => Nat.two_pow_pos _
  | k + 1 => by
    have ih := farF_lt (s := s) h k
    unfold farF
    split
    · exact Nat.or_lt_two_pow ih (h k)
    · exact ih
/-- the pairs (i, k), k a node of m below n -/
def pairs (i m : Nat) : Nat → List (Nat × Nat)
  | 0 => []
  | k + 1 => if m.testBit k then pairs i m k ++ [(i, k)] else pairs i m k
theorem pairs_le (i m : Nat) : ∀ n, (pairs i m n).length ≤ n
  | 0 => by simp [pairs]
  | k + 1 => by
    have ih := pairs_le i m k
    unfold pairs
    split
    · simp; exact ih
    · omega
/-- what is left of the edges from node i -/
def keptF (n : Nat) (ns : List (Nat × Nat)) (i : Nat) : Nat := outF ns i &&& (18446744073709551615 - farF (viaF ns n) (outF ns i) n)
/-- what is left of the edges from the nodes below i -/
def thinL (n : Nat) (ns : List (Nat × Nat)) : Nat → List (Nat × Nat)
  | 0 => []
  | i + 1 => thinL n ns i ++ pairs i (keptF n ns i) n
theorem thinL_le (n : Nat) (ns : List (Nat × Nat)) : ∀ i, (thinL n ns i).length ≤ i * n
  | 0 => by simp [thinL]
  | i + 1 => by
    have ih := thinL_le n ns i
    have := pairs_le i (keptF n ns i) n
    simp only [thinL, List.length_append, Nat.add_mul, Nat.one_mul]
    omega

/-- Thin's answer -/
def RetThin (n : Nat) (ns : List (Nat × Nat)) (w : World) (e : Ending) (w' : World) : Prop :=
  Below w.heap.size w w' ∧
  ((orderV n ns).length < n ∧ e = .returned (.tuple #[.slice none 0 0, .int .i64 21]) ∨
   (orderV n ns).length = n ∧ ∃ A c, e = .returned (.tuple #[.slice A (thinL n ns n).length c, .int .i64 0]) ∧ NRow w' A (thinL n ns n))

set_option maxRecDepth 100000 in
theorem thin_wrong (N : Int) (A : Option Addr) (len cap : Nat) (es : List (Int × Int)) (hlen : Hid (len = es.length)) (hbad : Hid (rightB N es = false)) (w : World) (hE : ERow w A es) :
    Calls Tryd.prog 17 #[.agg #[.int .i64 N, .slice A len cap]] w (Ret (.tuple #[.slice none 0 0, .int .i64 20]) w) := by
  go_enter Tryd.func17, Tryd.ntmps17
  go_wp2_with fail
  refine (order_wrong N A len cap es hlen hbad _ (hE.below (below_alloc (Below.refl _ _) _))).mono ?_
  rintro e w1 ⟨rfl, hb2⟩
  simp only [World.size_alloc] at hb2
  have hB := below_new hb2
  go_wp2
  go_ret2
  exact ⟨rfl, hB⟩

set_option maxRecDepth 100000 in
set_option maxHeartbeats 1000000 in
theorem thin_ok (n : Nat) (A : Option Addr) (len cap : Nat) (ns : List (Nat × Nat)) (hlen : Hid (len = ns.length)) (hG : GOk n ns) (w : World) (hE : NRow w A ns) (hT : Tab w) :
    Calls Tryd.prog 17 #[.agg #[.int .i64 n, .slice A len cap]] w (RetThin n ns w) := by
  have h1 : n ≤ 64 := hG.hn
  have h2 : len ≤ 4096 := by rw [hlen.out]; exact hG.hl
  go_enter Tryd.func17, Tryd.ntmps17
  go_wp2_with fail
  refine (order_ok n A len cap ns hlen hG _ (hE.below (below_alloc (Below.refl _ _) _)) (hT.below (below_alloc (Below.refl _ _) _))).mono ?_
  rintro e w1 ⟨hb2, ⟨hl, rfl⟩ | ⟨hl, OA, oc, rfl, hI⟩⟩
  · simp only [World.size_alloc] at hb2
    have hB := below_new hb2
    go_wp2
    go_ret2
    exact ⟨hB, .inl ⟨hl, rfl⟩⟩
  · simp only [World.size_alloc] at hb2
    have hB := below_new hb2
    have d0 : w1.cell? ⟨w.heap.size, 0, none⟩ = some (.int .i64 n) := (hb2.cell (show w.heap.size < w.heap.size + 1 by omega)).trans (World.cell?_alloc_at _ _ _ _ rfl)
    have d1 : w1.cell? ⟨w.heap.size, 1, none⟩ = some (.slice A len cap) := (hb2.cell (show w.heap.size < w.heap.size + 1 by omega)).trans (World.cell?_alloc_at _ _ _ _ rfl)
    have hs1 : w.heap.size < w1.heap.size := by have := hb2.size; simp at this; omega
    have HLen := Lib.hid hl
    have hE1 := hE.below hB
    clear hb2 hE hl hI
    go_wp2_with fail
    refine (reach_ok n A len cap ns hlen hG _ hE1).mono ?_
    rintro e w2 ⟨rb, rfl, hrb, hrowR, hb3⟩
    have hB2 := below_then hB hB.size hb3
    have hE2 := hE1.below hb3
    have hs2 : w1.heap.size ≤ w2.heap.size := hb3.size
    have e0 : w2.cell? ⟨w.heap.size, 0, none⟩ = some (.int .i64 n) := (hb3.cell hs1).trans d0
    have e1 : w2.cell? ⟨w.heap.size, 1, none⟩ = some (.slice A len cap) := (hb3.cell hs1).trans d1
    have e1' : ∀ o, (w2.alloc o).cell? ⟨w.heap.size, 1, none⟩ = some (.slice A len cap) := fun o => (World.cell?_alloc_past _ _ _ (by omega)).trans e1
    have hrb2 : rb < w2.heap.size := hrowR.lt
    have hmk := run_make_row' (P := Tryd.prog) 27 33 (.int .u64 0) 8 Tryd.underlying27 info33 rfl .i64 .i64 n (by omega) (by omega)
    have HR := Lib.hid hrowR
    clear hrowR d0 d1 hE1
    go_wp2
    have HE0 := Lib.hid e0
    clear hmk e1' e0 e1
    -- the edges
    go_loopg [36] len (fun g i wr => ∃ k : Nat, k ≤ len ∧ g = len - k ∧ i = .int .i64 k ∧ wr.rowIs w2.heap.size 33 n (u64F (outF (ns.take k))) ∧ Below w2.heap.size w2 wr)
    case atStart =>
      refine ⟨0, by omega, rfl, rfl, ?_, (Below.refl _ _).alloc (Nat.le_refl _) _⟩
      exact (World.rowIs_made w2 (.int .u64 0) n 33).congr fun j hj => rfl
    case round =>
      obtain ⟨k, hk, rfl, rfl, hrow, hb⟩ := hrel
      by_cases hlt : k < len
      · have hlt' : k < ns.length := by rw [← hlen.out]; exact hlt
        obtain ⟨b, o, rfl, c1, c2⟩ := hE2 k hlt'
        obtain ⟨q1, q2⟩ := hG.hk k hlt'
        have hbl : b < w2.heap.size := World.block_lt_of_cell? _ _ c1
        have d1 : wr.cell? ⟨b, o + k * 2, none⟩ = some (.int .i64 (ns.getD k (0, 0)).1) := (hb.cell hbl).trans c1
        have d2 : wr.cell? ⟨b, o + k * 2 + 1, none⟩ = some (.int .i64 (ns.getD k (0, 0)).2) := (hb.cell hbl).trans c2
        have hsz : w2.heap.size < wr.heap.size := hrow.lt
        clear c1 c2
        obtain ⟨x, hx⟩ : ∃ x, (ns.getD k (0, 0)).1 = x := ⟨_, rfl⟩
        obtain ⟨y, hy⟩ : ∃ y, (ns.getD k (0, 0)).2 = y := ⟨_, rfl⟩
        have hxy : ns.getD k (0, 0) = (x, y) := by rw [← hx, ← hy]
        rw [hx] at d1 q1
        rw [hy] at d2 q2
        have HX : Hid (ns.take (k + 1) = ns.take k ++ [(x, y)]) := Lib.hid (by rw [take_snoc ns (0, 0) hlt', hxy])
        clear hx hy hxy
        have e1 : ∀ o, (wr.alloc o).cell? ⟨w2.heap.size, x, none⟩ = some (.int .u64 (outF (ns.take k) x : Nat)) := fun o => (hrow.alloc o).cell q1
        have e2 : ∀ o, (wr.alloc o).frozen? ⟨w2.heap.size, x, none⟩ = false := fun o => (hrow.alloc o).frozen x
        have hs64 : outF (ns.take k) x < 2 ^ 64 := lt64 (outF_lt (fun e he => (hG.mem (List.mem_of_mem_take he)).2) x) h1
        have HV := Lib.hid (or_pow hs64 (show y < 64 by omega))
        obtain ⟨s, hs⟩ : ∃ s, outF (ns.take k) x = s := ⟨_, rfl⟩
        rw [hs] at e1
        have HS := Lib.hid hs
        have HR2 := Lib.hid hrow
        clear hs hrow hs64
        go_wp2
        go_region
        go_wp2
        go_roundg (len - (k + 1))
        case measure => omega
        case rel =>
          refine ⟨k + 1, by omega, rfl, by go_num, ?_, ((hb.setCell (by show w2.heap.size ≤ w2.heap.size; omega) _).alloc (by simp [World.setCell]; omega) _).drew⟩
          refine (((HR2.out.set x _).alloc _).drew).congr fun j hj => ?_
          have hv := HV.out
          rw [HS.out] at hv
          rw [HX.out, hv]
          simp only [u64F, outF_snoc]
          by_cases e : j = x
          · subst e; rw [if_pos rfl, if_pos rfl, HS.out]
          · rw [if_neg e, if_neg e]
      · obtain rfl : k = len := by omega
        have HT : Hid (ns.take k = ns) := Lib.hid (by rw [hlen.out, List.take_length])
        rw [HT.out] at hrow
        have hrowR' := row_below HR.out hb hrb2
        have hsz : w2.heap.size < wr.heap.size := hrow.lt
        have hBr : Below w.heap.size w wr := below_then hB2 hB2.size hb
        have d0' : wr.cell? ⟨w.heap.size, 0, none⟩ = some (.int .i64 n) := (hb.cell (by show w.heap.size < w2.heap.size; omega)).trans HE0.out
        have hO64 : ∀ j, outF ns j < 2 ^ 64 := fun j => lt64 (outF_lt (fun e he => (hG.mem he).2) j) h1
        have hV64 : ∀ j, viaF ns n j < 2 ^ 64 := fun j => lt64 (viaF_lt (fun e he => (hG.mem he).2) n j) h1
        have HO64 := Lib.hid hO64
        have HV64 := Lib.hid hV64
        have HN := Lib.hid hrow
        have HRR := Lib.hid hrowR'
        clear hO64 hV64 hrow hrowR' hb
        go_wp2
        obtain ⟨wo, rfl⟩ : ∃ wo : World, wo = wr := ⟨_, rfl⟩
        go_loopg [11, 53] n (fun g v s wr => ∃ (i : Nat) (V : Option Addr) (c : Nat), i ≤ n ∧ g = n - i ∧ s = .int .i64 i ∧ v = .slice V (thinL n ns i).length c ∧
          wr.ownsRow wo.heap.size 39 2 (.slice V (thinL n ns i).length c) (thinL n ns i).length (prs (thinL n ns i)) ∧ Below wo.heap.size wo wr)
        case atStart => exact ⟨0, none, 0, by omega, rfl, rfl, rfl, World.ownsRow_nil _ _ _ _, Below.refl _ _⟩
        case round =>
          obtain ⟨i, V, c, hi, rfl, rfl, rfl, hown, hb⟩ := hrel
          have c0 : wr.cell? ⟨w.heap.size, 0, none⟩ = some (.int .i64 n) := (hb.cell (by show w.heap.size < wo.heap.size; omega)).trans d0'
          by_cases hlt2 : i < n
          · have c1 : wr.cell? ⟨w2.heap.size, i, none⟩ = some (.int .u64 (outF ns i : Nat)) := (hb.cell hsz).trans (HN.out.cell hlt2)
            obtain ⟨set, hset⟩ : ∃ set, outF ns i = set := ⟨_, rfl⟩
            have hs64 : set < 2 ^ 64 := by rw [← hset]; exact HO64.out i
            rw [hset] at c1
            have HS := Lib.hid hset
            have HW := Lib.hid hown
            have HS64 := Lib.hid hs64
            have HB := Lib.hid hb
            clear hset hown hs64 hb
            go_wp2
            obtain ⟨wi, rfl⟩ : ∃ wi : World, wi = wr := ⟨_, rfl⟩
            -- all that is reached from the next ones
            go_loopg [14, 15, 60] n (fun g f s15 s wr => wr = wi ∧ ∃ k : Nat, k ≤ n ∧ g = n - k ∧ s = .int .i64 k ∧ f = .int .u64 (farF (viaF ns n) set k : Nat))
            case atStart => exact ⟨rfl, 0, by omega, rfl, rfl, rfl⟩
            case round =>
              obtain ⟨rfl, k, hk, rfl, rfl, rfl⟩ := hrel
              by_cases hlt3 : k < n
              · have c2 : wr.cell? ⟨rb, k, none⟩ = some (.int .u64 (viaF ns n k : Nat)) := (HB.out.cell (show rb < wo.heap.size by omega)).trans (HRR.out.cell hlt3)
                have hf64 : farF (viaF ns n) set k < 2 ^ 64 := farF_lt HV64.out k
                have HV := Lib.hid (or_nat _ _ hf64 (HV64.out k))
                clear hf64
                cases hq : set.testBit k
                · have t1 := bit_false HS64.out hq
                  have HF : Hid (farF (viaF ns n) set (k + 1) = farF (viaF ns n) set k) := Lib.hid (by simp [farF, hq])
                  clear hq
                  go_wp2
                  go_roundg (n - (k + 1))
                  case measure => omega
                  case rel => exact ⟨rfl, k + 1, by omega, rfl, by go_num, by rw [HF.out]⟩
                · have t1 := bit_true HS64.out hq
                  have HF : Hid (farF (viaF ns n) set (k + 1) = farF (viaF ns n) set k ||| viaF ns n k) := Lib.hid (by simp [farF, hq])
                  clear hq
                  go_wp2
                  go_roundg (n - (k + 1))
                  case measure => omega
                  case rel => exact ⟨rfl, k + 1, by omega, rfl, by go_num, by rw [HF.out, HV.out]⟩
              · obtain rfl : k = n := by omega
                have hf64 : farF (viaF ns k) set k < 2 ^ 64 := farF_lt HV64.out k
                have t0 := andNot_val HS64.out hf64
                have HK : Hid (keptF k ns i = set &&& (18446744073709551615 - farF (viaF ns k) set k)) := Lib.hid (by rw [keptF, HS.out])
                obtain ⟨m, hm⟩ : ∃ m, set &&& (18446744073709551615 - farF (viaF ns k) set k) = m := ⟨_, rfl⟩
                have hm64 : m < 2 ^ 64 := by rw [← hm]; exact Nat.lt_of_le_of_lt Nat.and_le_left HS64.out
                rw [hm] at t0 HK
                have HM64 := Lib.hid hm64
                have hlen0 : (thinL k ns i).length ≤ 4096 := Nat.le_trans (thinL_le k ns i) (Nat.le_trans (Nat.mul_le_mul (Nat.le_trans hi h1) h1) (by omega))
                obtain ⟨l, hl⟩ : ∃ l, thinL k ns i = l := ⟨_, rfl⟩
                rw [hl] at HW hlen0
                have HL0 := Lib.hid hl
                clear hm hm64 hf64 c1 hl
                go_wp2
                obtain ⟨wj, rfl⟩ : ∃ wj : World, wj = wr := ⟨_, rfl⟩
                go_loopg [11, 16, 77] k (fun g v s16 s wr => ∃ (j : Nat) (V : Option Addr) (c : Nat), j ≤ k ∧ g = k - j ∧ s = .int .i64 j ∧ v = .slice V (l.length + (pairs i m j).length) c ∧
                  wr.ownsRow wo.heap.size 39 2 (.slice V (l.length + (pairs i m j).length) c) (l.length + (pairs i m j).length) (prs (l ++ pairs i m j)) ∧ Below wo.heap.size wo wr)
                case atStart => exact ⟨0, V, c, by omega, rfl, rfl, by rw [HL0.out]; rfl, by simpa [pairs] using HW.out, HB.out⟩
                case round =>
                  obtain ⟨j, V', c', hj, rfl, rfl, rfl, hown, hb⟩ := hrel
                  by_cases hlt4 : j < k
                  · have hlp : (pairs i m j).length ≤ 64 := Nat.le_trans (pairs_le i m j) (by omega)
                    have hsz4 : wo.heap.size ≤ wr.heap.size := hb.size
                    cases hq : m.testBit j
                    · have t1 := bit_false HM64.out hq
                      have HP : Hid (pairs i m (j + 1) = pairs i m j) := Lib.hid (by simp [pairs, hq])
                      have HW2 := Lib.hid hown
                      clear hq hown
                      go_wp2
                      go_roundg (k - (j + 1))
                      case measure => omega
                      case rel => exact ⟨j + 1, V', c', by omega, rfl, by go_num, by rw [HP.out], by rw [HP.out]; exact HW2.out, hb⟩
                    · have t1 := bit_true HM64.out hq
                      have HP : Hid (pairs i m (j + 1) = pairs i m j ++ [(i, j)]) := Lib.hid (by simp [pairs, hq])
                      have HW2 := Lib.hid hown
                      clear hq hown
                      go_wp2_with (at_builtin; refine list_app (w0 := wo) wo.heap.size rfl _ _ 22 39 (.agg #[.int .i64 0, .int .i64 0]) 2 16 rfl Tryd.underlying22 info39 rfl (by decide) (by decide) (.slice V' (l.length + (pairs i m j).length) c') (l.length + (pairs i m j).length) (prs (l ++ pairs i m j)) [.int .i64 i, .int .i64 j] wr.heap.size rfl rfl rfl (by intro u hu; simp at hu; rcases hu with rfl | rfl <;> rfl) (heap_alloc_new wr _) (HW2.out.alloc _) (hb.alloc hsz4 _) (by simp; omega) (by omega) ?_; intro g cap2 w4 q1 q2 q3)
                      go_roundg (k - (j + 1))
                      case measure => omega
                      case rel => exact ⟨j + 1, some ⟨g, 0, none⟩, cap2, by omega, rfl, by go_num, by rw [HP.out, List.length_append]; rfl, by rw [HP.out, ← List.append_assoc, prs_snoc, List.length_append]; exact q1, q2⟩
                  · obtain rfl : j = k := by omega
                    have HTL : Hid (thinL j ns (i + 1) = l ++ pairs i m j) := Lib.hid (by rw [thinL, HL0.out, HK.out])
                    have HW2 := Lib.hid hown
                    clear hown
                    go_wp2
                    go_roundg (j - (i + 1))
                    case measure => omega
                    case rel => exact ⟨i + 1, V', c', by omega, rfl, by go_num, by rw [HTL.out, List.length_append], by rw [HTL.out, List.length_append]; exact HW2.out, hb⟩
          · obtain rfl : i = n := by omega
            go_wp2
            go_ret2
            exact ⟨below_then hBr hBr.size hb, .inr ⟨HLen.out, V, c, rfl, own_nrow hown⟩⟩
end Go.Proofs.YtpdhggfmkmiebaaDoor
