/- The contract of the document's Thin: it answers just the pairs that the program's Thin answers. -/
import Derived.Test.YtpdhggfmkmiebaaDoorFrm
import Derived.Test.YtpdhggfmkmiebaaDoorThn
namespace Go.Proofs.YtpdhggfmkmiebaaDoor
open Go.RowKit

theorem pairs_yes {i m k : Nat} (h : m.testBit k = true) : pairs i m (k + 1) = pairs i m k ++ [(i, k)] := if_pos h
theorem pairs_no {i m k : Nat} (h : ¬ m.testBit k = true) : pairs i m (k + 1) = pairs i m k := if_neg h

theorem farF_bit (r : Nat → Nat) (s b : Nat) : ∀ k, (farF r s k).testBit b = true ↔ ∃ c, c < k ∧ s.testBit c = true ∧ (r c).testBit b = true
  | 0 => by simp [farF]
  | k + 1 => by
    have ih := farF_bit r s b k
    unfold farF
    by_cases hk : s.testBit k = true
    · rw [if_pos hk, Nat.testBit_or, Bool.or_eq_true, ih]
      constructor
      · rintro (⟨c, h1, h2, h3⟩ | h)
        · exact ⟨c, by omega, h2, h3⟩
        · exact ⟨k, by omega, hk, h⟩
      · rintro ⟨c, h1, h2, h3⟩
        by_cases e : c = k
        · subst e; exact .inr h3
        · exact .inl ⟨c, by omega, h2, h3⟩
    · rw [if_neg hk, ih]
      constructor
      · rintro ⟨c, h1, h2, h3⟩; exact ⟨c, by omega, h2, h3⟩
      · rintro ⟨c, h1, h2, h3⟩
        by_cases e : c = k
        · subst e; exact absurd h2 hk
        · exact ⟨c, by omega, h2, h3⟩
theorem keptF_bit {n : Nat} {ns : List (Nat × Nat)} (hG : GOk n ns) (a b : Nat) : (keptF n ns a).testBit b = true ↔ (a, b) ∈ ns ∧ ¬ ∃ c, (a, c) ∈ ns ∧ Way ns c b := by
  have hV : ∀ j, viaF ns n j < 2 ^ 64 := fun j => lt64 (viaF_lt (fun e he => (hG.mem he).2) n j) hG.hn
  have hF : farF (viaF ns n) (outF ns a) n < 2 ^ 64 := farF_lt hV n
  unfold keptF
  rw [Nat.testBit_and, Bool.and_eq_true, outF_bit, testBit_not hF, Bool.and_eq_true, decide_eq_true_eq, Bool.not_eq_true']
  refine and_congr_right fun hab => ?_
  have hb64 : b < 64 := Nat.lt_of_lt_of_le (hG.mem hab).2 hG.hn
  rw [← Bool.not_eq_true, farF_bit]
  simp only [hb64, true_and, outF_bit, viaF_way (fun e he => (hG.mem he).2)]
  refine not_congr ⟨fun ⟨c, _, h2, h3⟩ => ⟨c, h2, h3⟩, fun ⟨c, h2, h3⟩ => ⟨c, (hG.mem h2).2, h2, h3⟩⟩
theorem hasB_iff (ns : List (Nat × Nat)) (a b : Nat) : hasB ns a b = true ↔ (a, b) ∈ ns := by
  unfold hasB
  rw [List.any_eq_true]
  constructor
  · rintro ⟨⟨x, y⟩, h, he⟩
    simp only [isE, Bool.and_eq_true, beq_iff_eq] at he
    obtain ⟨rfl, rfl⟩ := he
    exact h
  · intro h; exact ⟨(a, b), h, by simp [isE]⟩
theorem has_yes {n : Nat} {A : Option Addr} {len cap : Nat} {ns : List (Nat × Nat)} (hlen : Hid (len = ns.length)) (hG : GOk n ns) (w : World) (hE : NRow w A ns) {a b : Nat} (h : (a, b) ∈ ns) :
    Calls Tryd.prog 31 #[.agg #[.int .i64 n, .slice A len cap], .int .i64 a, .int .i64 b] w (Ret (.bool true) w) := by
  have := has_any n A len cap ns hlen hG w hE a b
  rwa [(hasB_iff ns a b).2 h] at this
theorem has_no {n : Nat} {A : Option Addr} {len cap : Nat} {ns : List (Nat × Nat)} (hlen : Hid (len = ns.length)) (hG : GOk n ns) (w : World) (hE : NRow w A ns) {a b : Nat} (h : (a, b) ∉ ns) :
    Calls Tryd.prog 31 #[.agg #[.int .i64 n, .slice A len cap], .int .i64 a, .int .i64 b] w (Ret (.bool false) w) := by
  have := has_any n A len cap ns hlen hG w hE a b
  rwa [Bool.eq_false_iff.2 (fun hh => h ((hasB_iff ns a b).1 hh))] at this

/-- is an end reached from one of the nodes below c that are next to a? -/
def FarTo (ns : List (Nat × Nat)) (a b c : Nat) : Prop := ∃ x, x < c ∧ (a, x) ∈ ns ∧ Way ns x b
theorem FarTo.succ_no {ns : List (Nat × Nat)} {a b c : Nat} (h : ¬ ((a, c) ∈ ns ∧ Way ns c b)) : FarTo ns a b (c + 1) ↔ FarTo ns a b c := by
  constructor
  · rintro ⟨x, h1, h2, h3⟩
    by_cases e : x = c
    · subst e; exact absurd ⟨h2, h3⟩ h
    · exact ⟨x, by omega, h2, h3⟩
  · rintro ⟨x, h1, h2, h3⟩; exact ⟨x, by omega, h2, h3⟩

/-- a new list of pairs -/
def RetPairs (l : List (Nat × Nat)) (w : World) (e : Ending) (w' : World) : Prop := Below w.heap.size w w' ∧ ∃ A c, e = .returned (.slice A l.length c) ∧ NRow w' A l

set_option maxRecDepth 100000 in
set_option maxHeartbeats 1000000 in
theorem thinR_any (n : Nat) (A : Option Addr) (len cap : Nat) (ns : List (Nat × Nat)) (hlen : Hid (len = ns.length)) (hG : GOk n ns) (w : World) (hE : NRow w A ns) :
    Calls Tryd.prog 19 #[.agg #[.int .i64 n, .slice A len cap]] w (RetPairs (thinL n ns n) w) := by
  have h1 : n ≤ 64 := hG.hn
  obtain ⟨W, hW⟩ : ∃ W, W = w.alloc (Obj.cells #[Value.int IntKind.i64 n, Value.slice A len cap] 31) := ⟨_, rfl⟩
  have HW0 := Lib.hid hW
  have hWsz : W.heap.size = w.heap.size + 1 := by rw [hW]; simp
  have hW0 : W.cell? ⟨w.heap.size, 0, none⟩ = some (.int .i64 n) := by rw [hW]; exact World.cell?_alloc_at _ _ _ _ rfl
  have hW1 : W.cell? ⟨w.heap.size, 1, none⟩ = some (.slice A len cap) := by rw [hW]; exact World.cell?_alloc_at _ _ _ _ rfl
  have hWE : NRow W A ns := by rw [hW]; exact hE.below (below_alloc (Below.refl _ _) _)
  have hWB : Below w.heap.size w W := by rw [hW]; exact below_alloc (Below.refl _ _) _
  have HWsz := Lib.hid hWsz
  go_enter Tryd.func19, Tryd.ntmps19
  go_wp2
  rw [← hW]
  clear hW hWsz hE
  go_loopg [3, 4] n (fun g s3 s4 wr => ∃ (a : Nat) (V : Option Addr) (c : Nat), a ≤ n ∧ g = n - a ∧ s4 = .int .i64 a ∧ s3 = .slice V (thinL n ns a).length c ∧
    wr.ownsRow W.heap.size 39 2 (.slice V (thinL n ns a).length c) (thinL n ns a).length (prs (thinL n ns a)) ∧ Below W.heap.size W wr)
  case atStart => exact ⟨0, none, 0, by omega, rfl, rfl, rfl, World.ownsRow_nil _ _ _ _, Below.refl _ _⟩
  case round =>
    obtain ⟨a, V, c, ha, rfl, rfl, rfl, hown, hb⟩ := hrel
    have hsb : w.heap.size < W.heap.size := by rw [HWsz.out]; omega
    have d0 : wr.cell? ⟨w.heap.size, 0, none⟩ = some (.int .i64 n) := (hb.cell (by exact hsb)).trans hW0
    by_cases hlt : a < n
    · have hlen0 : (thinL n ns a).length ≤ 4096 := Nat.le_trans (thinL_le n ns a) (Nat.le_trans (Nat.mul_le_mul (Nat.le_trans ha h1) h1) (by omega))
      obtain ⟨l, hl⟩ : ∃ l, thinL n ns a = l := ⟨_, rfl⟩
      have HTL : Hid (thinL n ns (a + 1) = l ++ pairs a (keptF n ns a) n) := Lib.hid (by rw [thinL, hl])
      rw [hl] at hown hlen0 ⊢
      have HB0 := Lib.hid hb
      have HO0 := Lib.hid hown
      clear hl hown hb
      obtain ⟨m, hm⟩ : ∃ m, keptF n ns a = m := ⟨_, rfl⟩
      have hmb := keptF_bit hG a
      rw [hm] at hmb
      rw [hm] at HTL
      have HM := Lib.hid hmb
      clear hm hmb
      go_wp2
      obtain ⟨wo, rfl⟩ : ∃ wo : World, wo = wr := ⟨_, rfl⟩
      go_loopg [3, 5] n (fun g s3 s5 wr => ∃ (b : Nat) (V : Option Addr) (c : Nat), b ≤ n ∧ g = n - b ∧ s5 = .int .i64 b ∧ s3 = .slice V (l.length + (pairs a m b).length) c ∧
        wr.ownsRow W.heap.size 39 2 (.slice V (l.length + (pairs a m b).length) c) (l.length + (pairs a m b).length) (prs (l ++ pairs a m b)) ∧ Below W.heap.size W wr)
      case atStart => exact ⟨0, V, c, by omega, rfl, rfl, rfl, by simpa [pairs] using HO0.out, HB0.out⟩
      case round =>
        clear d0
        obtain ⟨b, V', c', hbn, rfl, rfl, rfl, hown, hb⟩ := hrel
        have d0 : wr.cell? ⟨w.heap.size, 0, none⟩ = some (.int .i64 n) := (hb.cell (by exact hsb)).trans hW0
        have d1 : wr.cell? ⟨w.heap.size, 1, none⟩ = some (.slice A len cap) := (hb.cell (by exact hsb)).trans hW1
        have hO2 := Lib.hid hown
        have hB2 := Lib.hid hb
        have hlp : (pairs a m b).length ≤ 64 := Nat.le_trans (pairs_le a m b) (by omega)
        have hszr : W.heap.size ≤ wr.heap.size := hb.size
        have hEr : NRow wr A ns := hWE.below hb
        have HEr := Lib.hid hEr
        clear hown hb hEr
        by_cases hlt2 : b < n
        · by_cases hab : (a, b) ∈ ns
          · have HAB := Lib.hid hab
            go_wp2_with fail
            refine (has_yes hlen hG _ HEr.out hab).mono ?_
            rintro e w2 ⟨rfl, hb2⟩
            have HB2 := Lib.hid (below_then hB2.out hszr hb2)
            have HO2 := Lib.hid (own_below hO2.out hb2)
            have d0' : w2.cell? ⟨w.heap.size, 0, none⟩ = some (.int .i64 n) := (HB2.out.cell (by exact hsb)).trans hW0
            clear hab d0 d1 hb2
            go_wp2
            obtain ⟨wi, rfl⟩ : ∃ wi : World, wi = w2 := ⟨_, rfl⟩
            go_loopg [6, 7] n (fun g s6 s7 wr => ∃ (c : Nat) (F : Bool), c ≤ n ∧ g = n - c ∧ s7 = .int .i64 c ∧ s6 = .bool F ∧ (F = true ↔ FarTo ns a b c) ∧ Below wi.heap.size wi wr)
            case atStart => exact ⟨0, false, by omega, rfl, rfl, rfl, ⟨fun h => by simp at h, fun ⟨x, hx, _⟩ => by omega⟩, Below.refl _ _⟩
            case round =>
              clear d0'
              obtain ⟨c, F, hc, rfl, rfl, rfl, hF, hb3⟩ := hrel
              have hbb := below_then HB2.out HB2.out.size hb3
              have d0 : wr.cell? ⟨w.heap.size, 0, none⟩ = some (.int .i64 n) := (hbb.cell (by exact hsb)).trans hW0
              have d1 : wr.cell? ⟨w.heap.size, 1, none⟩ = some (.slice A len cap) := (hbb.cell (by exact hsb)).trans hW1
              have HF := Lib.hid hF
              have HBB := Lib.hid hbb
              clear hF hbb
              by_cases hlt3 : c < n
              · by_cases hac : (a, c) ∈ ns
                · have HAC := Lib.hid hac
                  clear hac
                  go_wp2_with fail
                  refine (has_yes hlen hG _ (hWE.below HBB.out) HAC.out).mono ?_
                  rintro e w4 ⟨rfl, hb4⟩
                  have hbb4 := below_then HBB.out HBB.out.size hb4
                  have e0 : w4.cell? ⟨w.heap.size, 0, none⟩ = some (.int .i64 n) := (hbb4.cell (by exact hsb)).trans hW0
                  have e1 : w4.cell? ⟨w.heap.size, 1, none⟩ = some (.slice A len cap) := (hbb4.cell (by exact hsb)).trans hW1
                  go_wp2_with fail
                  refine (from_any n A len cap ns hlen hG _ (hWE.below hbb4) c).mono ?_
                  rintro e w5 ⟨fb, f, rfl, hfb, hrow, hf, hb5⟩
                  have c1 : w5.cell? ⟨fb, b, none⟩ = some (.bool (f b)) := hrow.cell hlt2
                  have HB5 := Lib.hid (below_then (below_then hb3 hb3.size hb4) (by have := hb3.size; have := hb4.size; omega) hb5)
                  have hfb' := hf b
                  clear hf hrow hb5 hbb4 hb4 e0 e1 d0 d1 hfb
                  cases hfv : f b
                  · rw [hfv] at c1 hfb'
                    have HN : Hid (F = true ↔ FarTo ns a b (c + 1)) := Lib.hid (HF.out.trans (FarTo.succ_no (fun h => by have := hfb'.2 h.2; cases this)).symm)
                    clear hfv hfb'
                    go_wp2
                    go_roundg (n - (c + 1))
                    case measure => omega
                    case rel => exact ⟨c + 1, F, by omega, rfl, by go_num, rfl, HN.out, HB5.out⟩
                  · rw [hfv] at c1 hfb'
                    have HN : Hid (FarTo ns a b (c + 1)) := Lib.hid ⟨c, by omega, HAC.out, hfb'.1 rfl⟩
                    clear hfv hfb'
                    go_wp2
                    go_roundg (n - (c + 1))
                    case measure => omega
                    case rel => exact ⟨c + 1, true, by omega, rfl, by go_num, rfl, ⟨fun _ => HN.out, fun _ => rfl⟩, HB5.out⟩
                · have HN : Hid (F = true ↔ FarTo ns a b (c + 1)) := Lib.hid (HF.out.trans (FarTo.succ_no (fun h => hac h.1)).symm)
                  have HAC := Lib.hid hac
                  clear hac
                  go_wp2_with fail
                  refine (has_no hlen hG _ (hWE.below HBB.out) HAC.out).mono ?_
                  rintro e w4 ⟨rfl, hb4⟩
                  have HB5 := Lib.hid (below_then hb3 hb3.size hb4)
                  clear d0 d1
                  go_wp2
                  go_roundg (n - (c + 1))
                  case measure => omega
                  case rel => exact ⟨c + 1, F, by omega, rfl, by go_num, rfl, HN.out, HB5.out⟩
              · obtain rfl : c = n := by omega
                have HO3 := Lib.hid (own_below HO2.out hb3)
                have hszw : W.heap.size ≤ wr.heap.size := HBB.out.size
                have hmb : m.testBit b = true ↔ ¬ F = true := by
                  rw [HM.out b, HF.out]
                  refine ⟨fun ⟨_, h⟩ ⟨x, _, h2, h3⟩ => h ⟨x, h2, h3⟩, fun h => ⟨HAB.out, fun ⟨x, h2, h3⟩ => h ⟨x, (hG.mem h2).2, h2, h3⟩⟩⟩
                cases F
                · have HP : Hid (pairs a m (b + 1) = pairs a m b ++ [(a, b)]) := Lib.hid (pairs_yes (hmb.2 (by simp)))
                  clear hmb
                  go_wp2_with (at_builtin; refine list_app (w0 := W) W.heap.size rfl _ _ 22 39 (.agg #[.int .i64 0, .int .i64 0]) 2 16 rfl Tryd.underlying22 info39 rfl (by decide) (by decide) (.slice V' (l.length + (pairs a m b).length) c') (l.length + (pairs a m b).length) (prs (l ++ pairs a m b)) [.int .i64 a, .int .i64 b] wr.heap.size rfl rfl rfl (by intro u hu; simp at hu; rcases hu with rfl | rfl <;> rfl) (heap_alloc_new wr _) (HO3.out.alloc _) (HBB.out.alloc hszw _) (by simp; omega) (by omega) ?_; intro g cap2 w4 q1 q2 q3)
                  go_roundg (c - (b + 1))
                  case measure => omega
                  case rel => exact ⟨b + 1, some ⟨g, 0, none⟩, cap2, by omega, rfl, by go_num, by rw [HP.out, List.length_append]; rfl, by rw [HP.out, ← List.append_assoc, prs_snoc, List.length_append]; exact q1, q2⟩
                · have HP : Hid (pairs a m (b + 1) = pairs a m b) := Lib.hid (pairs_no (fun h => (hmb.1 h) rfl))
                  clear hmb
                  go_wp2
                  go_roundg (c - (b + 1))
                  case measure => omega
                  case rel => exact ⟨b + 1, V', c', by omega, rfl, by go_num, by rw [HP.out], by rw [HP.out]; exact HO3.out, HBB.out⟩
          · have HP : Hid (pairs a m (b + 1) = pairs a m b) := Lib.hid (pairs_no (fun h => hab ((HM.out b).1 h).1))
            have HAB := Lib.hid hab
            clear hab
            go_wp2_with fail
            refine (has_no hlen hG _ HEr.out HAB.out).mono ?_
            rintro e w2 ⟨rfl, hb2⟩
            have HB2 := Lib.hid (below_then hB2.out hszr hb2)
            have HO2 := Lib.hid (own_below hO2.out hb2)
            clear d0 d1 hb2
            go_wp2
            go_roundg (n - (b + 1))
            case measure => omega
            case rel => exact ⟨b + 1, V', c', by omega, rfl, by go_num, by rw [HP.out], by rw [HP.out]; exact HO2.out, HB2.out⟩
        · obtain rfl : b = n := by omega
          clear d1
          go_wp2
          go_roundg (b - (a + 1))
          case measure => omega
          case rel => exact ⟨a + 1, V', c', by omega, rfl, by go_num, by rw [HTL.out, List.length_append], by rw [HTL.out, List.length_append]; exact hO2.out, hB2.out⟩
    · obtain rfl : a = n := by omega
      have HB0 := Lib.hid hb
      clear hb
      go_wp2
      go_ret
      exact ⟨below_then hWB hWB.size HB0.out, V, c, rfl, own_nrow hown⟩
end Go.Proofs.YtpdhggfmkmiebaaDoor
