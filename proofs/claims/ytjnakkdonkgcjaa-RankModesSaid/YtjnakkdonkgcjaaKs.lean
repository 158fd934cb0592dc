/- The statement RankModes, walked. -/
import Derived.Test.YtjnakkdonkgcjaaKr
import Derived.Deep.AppendLies
namespace Go.Proofs.Ytjnakkdonkgcjaa
open Go.RowKit

def distL (c : Int) (v : Int) : Int := max (v - c) (c - v)
def modesOk (n c : Nat) : Bool :=
  decide (orderL 0 n c = (List.range n).map (fun (k : Nat) => (n : Int) - 1 - (k : Int))) && decide (orderL 1 n c = (List.range n).map (fun (k : Nat) => (k : Int))) &&
  decide (orderL 2 n c = (c : Int) :: ((orderL 0 n c).filter (fun v => decide (v ≠ (c : Int))))) && decide ((orderL 3 n c).getD 0 0 = (c : Int)) && pairsOk (fun v w => decide (distL c v ≤ distL c w)) (orderL 3 n c) && (orderL 3 n c).all (fun v => decide (0 ≤ v) && decide (v < (n : Int)))
set_option maxRecDepth 100000 in
theorem modesOk_all : ∀ n, n < 13 → ∀ c, c < n → modesOk n c = true := by decide +kernel
structure ModesAt (n c : Nat) (l0 l1 l2 l3 : List Int) : Prop where
  new : ∀ k, k < n → l0.getD k 0 = (n : Int) - 1 - (k : Int)
  old : ∀ k, k < n → l1.getD k 0 = (k : Int)
  held : l2 = (c : Int) :: (l0.filter (fun v => decide (v ≠ (c : Int))))
  first : l3.getD 0 0 = (c : Int)
  near : ∀ i j, i < j → j < n → distL c (l3.getD i 0) ≤ distL c (l3.getD j 0)
  rng : ∀ i, i < n → 0 ≤ l3.getD i 0 ∧ l3.getD i 0 < (n : Int)
theorem range_getD (f : Nat → Int) {n k : Nat} (hk : k < n) : ((List.range n).map f).getD k 0 = f k := by
  simp [List.getD_eq_getElem?_getD, List.getElem?_map, List.getElem?_range hk]
theorem modes_at {n c : Nat} (hn : n ≤ 12) (hc : c < n) : ModesAt n c (orderL 0 n c) (orderL 1 n c) (orderL 2 n c) (orderL 3 n c) := by
  have h := modesOk_all n (by omega) c hc
  simp only [modesOk, Bool.and_eq_true] at h
  obtain ⟨⟨⟨⟨⟨h1, h2⟩, h3⟩, h4⟩, h5⟩, h6⟩ := h
  have h1 := of_decide_eq_true h1
  have h2 := of_decide_eq_true h2
  refine ⟨fun k hk => by rw [h1, range_getD _ hk], fun k hk => by rw [h2, range_getD _ hk], of_decide_eq_true h3, of_decide_eq_true h4, fun i j hi hj => of_decide_eq_true (pairsOk_at h5 i j hi (by rw [orderL_length]; exact hj)), fun i hi => ?_⟩
  have := List.all_eq_true.1 h6 _ (getD_mem (orderL 3 n c) 0 (k := i) (by rw [orderL_length]; exact hi))
  simpa using this

theorem own_below {w w1 : World} {base n size : Nat} {e : TypeId} {v : Value} {xs : List Value} (h : w.ownsRow base e size v n xs) (hb : Below w.heap.size w w1) : w1.ownsRow base e size v n xs :=
  h.kept (row := none) ⟨hb.os, hb.tape, hb.output, hb.size, fun i hi _ => hb.block i hi⟩ (Classical.em _)
section
variable {P : Program} {ops : Array Oper} {o : Oper} {a : Act} {Q : Exit → Act → World → Prop} {rest : List Oper} {w w0 : World}
/-- one element is appended, in a plain region -/
theorem list_app (base : Nat) (hgd : o.guard = none) (s x : Operand) (t e : TypeId) (z : Value) (size bytes : Nat)
    (ho : o.op = .call { callee := .builtin .append, args := #[s, x], argTypes := #[t, t] })
    (ht : P.underlying t = some (.slice e)) (hinfo : (P.info? e).map (fun i => (i.zero, i.size, i.bytes)) = some (some z, size, bytes)) (hz : z.cells.size = size) (hs0 : 0 < size) (hb0 : 0 < bytes)
    (v : Value) (n : Nat) (xs ys : List Value) (B : Nat) (hs : a.eval s = v) (hx : a.eval x = .slice (some ⟨B, 0, none⟩) 1 1) (hys : ys.length = size) (h1 : ∀ u ∈ ys, u.oneCell' = true)
    (HN : w.heap[B]? = some (.cells ys.toArray e (0, 0))) (HO : w.ownsRow base e size v n xs) (HB : Below base w0 w) (hbase : base ≤ w.heap.size) (hl : (n + 1) * bytes ≤ 140737488355328)
    (h : ∀ g cap w1, w1.ownsRow base e size (.slice (some ⟨g, 0, none⟩) (n + 1) cap) (n + 1) (xs ++ ys) → Below base w0 w1 → w.grownBy w1 v.ownBlock → wpList P ops Q rest (a.put o.dst (.slice (some ⟨g, 0, none⟩) (n + 1) cap)) w1) :
    wpList P ops Q (o :: rest) a w := by
  obtain ⟨i0, hi, hzz⟩ := Option.map_eq_some_iff.1 hinfo
  simp only [Prod.mk.injEq] at hzz
  obtain ⟨hz0, hz1, hz2⟩ := hzz
  have hlen : n + 1 ≤ 140737488355328 := Nat.le_trans (Nat.le_mul_of_pos_right _ hb0) hl
  refine wpList_append_lies w hgd s x t ho base e i0 z size bytes ht hi hz0 hz1 hz2 hz hs0 v n xs hs HO ⟨B, 0, none⟩ 1 1 ys hx (by omega) (by simpa using World.news_of_block (cs := ys.toArray) HN) h1 (by omega) (by simp only [maxLen]; omega) hl hbase _ rfl ?_
  intro g cap w1 h2 h3 _ _
  exact h g cap w1 h2 (HB.grown h3 hbase (fun k hk => (HO.lt k hk).1)) h3
end

set_option maxRecDepth 100000 in
theorem modes_out (n c : Int) (w : World) (h : n < 1 ∨ (1 ≤ n ∧ 12 < n) ∨ (1 ≤ n ∧ n ≤ 12 ∧ c < 0) ∨ (1 ≤ n ∧ n ≤ 12 ∧ 0 ≤ c ∧ n ≤ c)) : Calls Try.prog 4 #[.int .i64 n, .int .i64 c] w (Ret (.bool true) w) := by
  rcases h with h1 | ⟨h1, h2⟩ | ⟨h1, h2, h3⟩ | ⟨h1, h2, h3, h4⟩
  all_goals
    go_enter Try.func4, Try.ntmps4
    go_wp2_with fail
    refine (anchor_any _).mono ?_
    rintro e w1 ⟨rfl, hb1⟩
    have HW := Lib.hid hb1
    clear hb1
    go_wp2_with fail
    go_ret
    exact ⟨rfl, HW.out⟩

set_option maxRecDepth 100000 in
set_option maxHeartbeats 4000000 in
theorem modes_ok (n c : Nat) (h1 : 1 ≤ n) (h2 : n ≤ 12) (h3 : c < n) (w : World) : Calls Try.prog 4 #[.int .i64 n, .int .i64 c] w (Ret (.bool true) w) := by
  have hM := modes_at h2 h3
  have ho0 := order_any 0 n c (by decide) h2 h3
  have ho1 := order_any 1 n c (by decide) h2 h3
  have ho2 := order_any 2 n c (by decide) h2 h3
  have ho3 := order_any 3 n c (by decide) h2 h3
  have hl0 := orderL_length 0 n c
  have hl1 := orderL_length 1 n c
  have hl2 := orderL_length 2 n c
  have hl3 := orderL_length 3 n c
  obtain ⟨l0, e0⟩ : ∃ l, orderL 0 n c = l := ⟨_, rfl⟩
  obtain ⟨l1, e1⟩ : ∃ l, orderL 1 n c = l := ⟨_, rfl⟩
  obtain ⟨l2, e2⟩ : ∃ l, orderL 2 n c = l := ⟨_, rfl⟩
  obtain ⟨l3, e3⟩ : ∃ l, orderL 3 n c = l := ⟨_, rfl⟩
  rw [e0, e1, e2, e3] at hM
  rw [e0] at ho0 hl0
  rw [e1] at ho1 hl1
  rw [e2] at ho2 hl2
  rw [e3] at ho3 hl3
  have HM := Lib.hid hM
  have HO0 := Lib.hid ho0
  have HO1 := Lib.hid ho1
  have HO2 := Lib.hid ho2
  have HO3 := Lib.hid ho3
  have HL0 := Lib.hid hl0
  have HL1 := Lib.hid hl1
  have HL2 := Lib.hid hl2
  have HL3 := Lib.hid hl3
  clear hM ho0 ho1 ho2 ho3 hl0 hl1 hl2 hl3 e0 e1 e2 e3
  have g1 : ¬ (n : Int) < 1 := by omega
  have g2 : ¬ (12 : Int) < (n : Int) := by omega
  have g3 : ¬ (c : Int) < 0 := by omega
  have g4 : ¬ (n : Int) ≤ (c : Int) := by omega
  go_enter Try.func4, Try.ntmps4
  go_wp2_with fail
  refine (anchor_any _).mono ?_
  rintro e w1 ⟨rfl, hb1⟩
  have HW := Lib.hid hb1
  clear hb1
  go_wp2_with fail
  refine (HO0.out _).mono ?_
  rintro e w2 ⟨b0, rfl, hS, hb2⟩
  have HA0 := Lib.hid hS
  have HB2 := Lib.hid (below_then HW.out HW.out.size hb2)
  clear hS hb2 HW HO0
  go_wp2_with fail
  refine (HO1.out _).mono ?_
  rintro e w3 ⟨b1, rfl, hS, hb3⟩
  have HA1 := Lib.hid (HA0.out.below hb3)
  have HS1 := Lib.hid hS
  have HB3 := Lib.hid (below_then HB2.out HB2.out.size hb3)
  clear hS hb3 HB2 HA0 HO1
  go_wp2_with fail
  refine (HO2.out _).mono ?_
  rintro e w4 ⟨b2, rfl, hS, hb4⟩
  have HA2 := Lib.hid (HA1.out.below hb4)
  have HS12 := Lib.hid (HS1.out.below hb4)
  have HS2 := Lib.hid hS
  have HB4 := Lib.hid (below_then HB3.out HB3.out.size hb4)
  clear hS hb4 HB3 HA1 HS1 HO2
  go_wp2_with fail
  refine (HO3.out _).mono ?_
  rintro e w5 ⟨b3, rfl, hS, hb5⟩
  have HA := Lib.hid (HA2.out.below hb5)
  have HS1 := Lib.hid (HS12.out.below hb5)
  have HS22 := Lib.hid (HS2.out.below hb5)
  have HS3 := Lib.hid hS
  have HB5 := Lib.hid (below_then HB4.out HB4.out.size hb5)
  clear hS hb5 HB4 HA2 HS12 HS2 HO3
  go_wp2_with fail
  generalize decide (n ≤ c) = dead1
  go_loopg [13, 103] n (fun g s13 s wr => Below w5.heap.size w5 wr ∧ ∃ (k m cc : Nat) (V : Option Addr) (l : List Int), k ≤ n ∧ g = n - k ∧ s = .int .i64 k ∧ s13 = .slice V m cc ∧ l = (c : Int) :: (l0.take k).filter (fun v => decide (v ≠ (c : Int))) ∧ m = l.length ∧ m ≤ k + 1 ∧ wr.ownsRow w5.heap.size 3 1 (.slice V m cc) m (l.map (Value.int .i64)))
  case atStart =>
    exact ⟨below_alloc (Below.refl _ _) _, 0, 1, 1, _, [(c : Int)], by omega, rfl, rfl, rfl, rfl, rfl, by omega, rfl, .inr ⟨w5.heap.size, 1, #[.int .i64 c], rfl, Nat.le_refl _, heap_alloc_new w5 _, Nat.le_refl _, by decide, rfl, rfl⟩⟩
  case round =>
    obtain ⟨hb, k, m, cc, V, l, hk, rfl, rfl, rfl, hl, hml, hmk, hown⟩ := hrel
    have HB := Lib.hid hb
    have HO := Lib.hid hown
    have HL := Lib.hid hl
    have HML := Lib.hid hml
    have hsz := hb.size
    by_cases hlt : k < n
    · have hkl : k < l0.length := by rw [HL0.out]; exact hlt
      obtain ⟨x, o, he, d1⟩ := (HA.out.below hb) k hkl
      simp at he
      obtain ⟨rfl, rfl⟩ := he
      obtain ⟨x, o, he, d2⟩ := (HS1.out.below hb) k (by rw [HL1.out]; exact hlt)
      simp at he
      obtain ⟨rfl, rfl⟩ := he
      rw [Nat.zero_add, HM.out.new k hlt] at d1
      rw [Nat.zero_add, HM.out.old k hlt] at d2
      have HT : Hid (∀ p : Int → Bool, (l0.take (k + 1)).filter p = (l0.take k).filter p ++ [(n : Int) - 1 - (k : Int)].filter p) := Lib.hid (fun p => by rw [take_snoc l0 0 hkl, List.filter_append, HM.out.new k hlt])
      clear hb hown hl hml
      by_cases hv : (n : Int) - 1 - (k : Int) = (c : Int)
      · have hvb : ((n : Int) - 1 - (k : Int) != (c : Int)) = false := by simp [hv]
        have HV := Lib.hid hv
        clear hv
        go_wp2_with fail
        go_roundg (n - (k + 1))
        case measure => omega
        case rel => exact ⟨HB.out, k + 1, m, cc, V, l, by omega, rfl, by go_num, rfl, by rw [HT.out, HL.out, HV.out]; simp, HML.out, by omega, HO.out⟩
      · have hvb : ((n : Int) - 1 - (k : Int) != (c : Int)) = true := by simp [hv]
        have HV := Lib.hid hv
        clear hv
        go_wp2_with (at_builtin; refine list_app (w0 := w5) w5.heap.size rfl _ _ 23 3 (.int .i64 0) 1 8 rfl Try.underlying23 info3 rfl (by decide) (by decide) (.slice V m cc) m (l.map (Value.int .i64)) [.int .i64 ((n : Int) - 1 - (k : Int))] wr.heap.size rfl rfl rfl (by intro u hu; simp at hu; subst hu; rfl) (heap_alloc_new wr _) (HO.out.alloc _) (below_alloc HB.out _) (by simp; omega) (by omega) ?_)
        intro g cap2 w6 q1 q2 q3
        go_wp2_with fail
        go_roundg (n - (k + 1))
        case measure => omega
        case rel => exact ⟨q2, k + 1, m + 1, cap2, _, l ++ [(n : Int) - 1 - (k : Int)], by omega, rfl, by go_num, rfl, by rw [HT.out, HL.out]; simp [HV.out], by rw [List.length_append, HML.out]; rfl, by omega, by rw [List.map_append]; exact q1⟩
    · obtain rfl : k = n := by omega
      have HW : Hid (l = l2) := Lib.hid (by rw [HL.out, HM.out.held, List.take_of_length_le (by rw [HL0.out]; exact Nat.le_refl _)])
      have HWS : Hid (SRow wr V l2) := Lib.hid (by
        rw [← HW.out]
        intro j hj
        obtain ⟨hx1, hx2⟩ := HO.out
        rcases hx2 with ⟨he, hm0⟩ | ⟨g, cap, cur, he, hg1, hg2, hg3, hg4, hg5, hg6⟩
        · rw [← HML.out, hm0] at hj; omega
        · simp only [Value.slice.injEq] at he
          obtain ⟨rfl, _, rfl⟩ := he
          refine ⟨g, 0, rfl, ?_⟩
          have h9 := World.ownsRow.cells HO.out (g := g) rfl j (.int .i64 (l.getD j 0)) (by rw [List.getElem?_map, List.getElem?_eq_getElem hj, getD_in l 0 hj]; rfl)
          rw [Addr.add_lit] at h9
          exact h9)
      have HM2 : Hid (m = l2.length) := Lib.hid (by rw [← HW.out]; exact HML.out)
      have HS2w := Lib.hid (HS22.out.below hb)
      have HS3w := Lib.hid (HS3.out.below hb)
      have HBw := Lib.hid (below_then HB5.out HB5.out.size hb)
      have hm13 : m ≤ 13 := by omega
      clear hb hown hl hml HA HS1 HS22 HS3 HB5 hlt
      go_wp2_with fail
      obtain ⟨wo, rfl⟩ : ∃ wo : World, wo = wr := ⟨_, rfl⟩
      go_loopg [16, 132] k (fun g s16 s wr => wr = wo ∧ ∃ (j : Nat) (x : Int), j ≤ k ∧ g = k - j ∧ s = .int .i64 j ∧ s16 = .int .i64 x ∧ 0 ≤ x ∧ x ≤ 1000 ∧ Hid (∀ i, j ≤ i → i < k → x ≤ distL c (l3.getD i 0)))
      case atStart => exact ⟨rfl, 0, 0, by omega, rfl, rfl, rfl, by omega, by omega, Lib.hid (fun i _ _ => by unfold distL; omega)⟩
      case round =>
        obtain ⟨rfl, j, x, hj, rfl, rfl, rfl, hx0, hx1, hx⟩ := hrel
        by_cases hlt : j < k
        · obtain ⟨y, o, he, d1⟩ := HS3w.out j (by rw [HL3.out]; exact hlt)
          simp at he
          obtain ⟨rfl, rfl⟩ := he
          rw [Nat.zero_add] at d1
          obtain ⟨r1, r2⟩ := HM.out.rng j hlt
          have hxx := hx.out j (Nat.le_refl _) hlt
          have HNR : Hid (∀ i, j + 1 ≤ i → i < k → distL c (l3.getD j 0) ≤ distL c (l3.getD i 0)) := Lib.hid (fun i hi hik => HM.out.near j i hi hik)
          obtain ⟨v, hv⟩ : ∃ v, l3.getD j 0 = v := ⟨_, rfl⟩
          rw [hv] at d1 r1 r2 hxx HNR
          unfold distL at hxx
          clear hv hx
          have f2 : ¬ (max (v - (c : Int)) ((c : Int) - v) < x) := by omega
          have f3 : 0 ≤ max (v - (c : Int)) ((c : Int) - v) ∧ max (v - (c : Int)) ((c : Int) - v) ≤ 1000 := by omega
          have HF := Lib.hid f3
          clear f3
          go_wp2_with fail
          go_roundg (k - (j + 1))
          case measure => omega
          case rel => exact ⟨rfl, j + 1, _, by omega, rfl, by go_num, rfl, HF.out.1, HF.out.2, HNR⟩
        · obtain rfl : j = k := by omega
          obtain ⟨y, o, he, d1⟩ := HS3w.out 0 (by rw [HL3.out]; omega)
          simp at he
          obtain ⟨rfl, rfl⟩ := he
          rw [Nat.zero_add, HM.out.first] at d1
          go_wp2_with fail
          refine (same_any (some ⟨b2, 0, none⟩) V j m j cc l2 l2 (Lib.hid HL2.out.symm) HM2 _ HS2w.out HWS.out (by omega)).mono ?_
          rintro e w7 ⟨rfl, rfl⟩
          rw [decide_eq_true (show l2 = l2 from rfl)]
          go_wp2_with fail
          go_ret
          exact ⟨rfl, HBw.out⟩

theorem modes_any (n c : Int) (w : World) (_i0 : -9223372036854775808 ≤ n ∧ n ≤ 9223372036854775807) (_i1 : -9223372036854775808 ≤ c ∧ c ≤ 9223372036854775807) : Calls Try.prog 4 #[.int .i64 n, .int .i64 c] w (Ret (.bool true) w) := by
  by_cases h : n < 1 ∨ (1 ≤ n ∧ 12 < n) ∨ (1 ≤ n ∧ n ≤ 12 ∧ c < 0) ∨ (1 ≤ n ∧ n ≤ 12 ∧ 0 ≤ c ∧ n ≤ c)
  · exact modes_out n c w h
  · obtain ⟨N, rfl⟩ : ∃ N : Nat, n = N := ⟨n.toNat, by omega⟩
    obtain ⟨C, rfl⟩ : ∃ C : Nat, c = C := ⟨c.toNat, by omega⟩
    exact modes_ok N C (by omega) (by omega) (by omega) w
end Go.Proofs.Ytjnakkdonkgcjaa
