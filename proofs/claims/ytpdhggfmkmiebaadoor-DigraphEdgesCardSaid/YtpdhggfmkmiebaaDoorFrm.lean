/- The contracts of the document's From and Circle: just the nodes to which there is a way. -/
import Derived.Test.YtpdhggfmkmiebaaDoorR2
import Derived.Test.YtpdhggfmkmiebaaDoorQue
import Derived.Test.YtpdhggfmkmiebaaDoorWay
namespace Go.Proofs.YtpdhggfmkmiebaaDoor
open Go.RowKit

/-- a new list of yes and no: yes just where there is a way from a -/
def RetFrom (n : Nat) (ns : List (Nat × Nat)) (a : Nat) (w : World) (e : Ending) (w' : World) : Prop :=
  ∃ b f, e = .returned (.slice (some ⟨b, 0, none⟩) n n) ∧ w.heap.size ≤ b ∧ w'.rowIs b 4 n (boolF f) ∧ (∀ j, f j = true ↔ Way ns a j) ∧ Below w.heap.size w w'

set_option maxRecDepth 100000 in
set_option maxHeartbeats 1000000 in
theorem from_any (n : Nat) (A : Option Addr) (len cap : Nat) (ns : List (Nat × Nat)) (hlen : Hid (len = ns.length)) (hG : GOk n ns) (w : World) (hE : NRow w A ns) (a : Nat) :
    Calls Tryd.prog 16 #[.agg #[.int .i64 n, .slice A len cap], .int .i64 a] w (RetFrom n ns a w) := by
  have h1 : n ≤ 64 := hG.hn
  have h2 : len ≤ 4096 := by rw [hlen.out]; exact hG.hl
  have hmk := run_make_row' (P := Tryd.prog) 34 4 (.bool false) 1 Tryd.underlying34 info4 rfl .i64 .i64 n (by omega) (by omega)
  go_enter Tryd.func16, Tryd.ntmps16
  go_wp2
  clear hmk
  go_loopg [6] (n + 1) (fun g s6 wr => ∃ (f : Nat → Bool) (q : List Nat) (b off c : Nat), s6 = .slice (some ⟨b, off, none⟩) q.length c ∧ QRow wr (w.heap.size + 1) b off q.length c q ∧ wr.rowIs (w.heap.size + 1) 4 n (boolF f) ∧
    Found ns a f q (fun _ => False) ∧ g = q.length + lack f n ∧ q.length + lack f n ≤ n + 1 ∧ Below (w.heap.size + 1) (w.alloc (Obj.cells #[Value.int IntKind.i64 n, Value.slice A len cap] 31)) wr)
  case atStart =>
    refine ⟨fun _ => false, [a], _, 0, 1, rfl, ?_, ?_, Found.start ns a, ?_, ?_, ((Below.refl _ _).alloc (by simp) _).alloc (by simp) _⟩
    · simpa using QRow.new (w := (w.alloc (Obj.cells #[Value.int IntKind.i64 n, Value.slice A len cap] 31)).alloc (Obj.cells (madeCells #[Value.bool false] n) 4)) (base := w.heap.size + 1) (by simp only [World.size_alloc]; omega) a
    · have := World.rowIs_made (w.alloc (Obj.cells #[Value.int IntKind.i64 n, Value.slice A len cap] 31)) (.bool false) n 4
      simp only [World.size_alloc] at this
      exact this.alloc _
    · rw [lack_none]; simp; omega
    · rw [lack_none]; simp; omega
  case round =>
    obtain ⟨f, q, b, off, c, rfl, hq, hrow, hF, rfl, hM, hb⟩ := hrel
    have HE : Hid (NRow wr A ns) := Lib.hid (hE.below (below_new hb))
    have d0 : wr.cell? ⟨w.heap.size, 1, none⟩ = some (.slice A len cap) := (hb.cell (show w.heap.size < w.heap.size + 1 by omega)).trans (World.cell?_alloc_at _ _ _ _ rfl)
    have hsz : w.heap.size + 1 < wr.heap.size := hrow.lt
    cases q with
    | nil =>
      go_wp2
      go_ret
      exact ⟨w.heap.size + 1, f, rfl, by omega, hrow, fun j => hF.all j, below_new hb⟩
    | cons x q =>
      have cx : wr.cell? ⟨b, off, none⟩ = some (.int .i64 x) := hq.cell (j := 0) (by simp)
      have hlenq : (x :: q).length = q.length + 1 := rfl
      rw [hlenq] at hq hM ⊢
      have hqc : q.length + 1 ≤ c := hq.2.2.1
      have hql : q.length ≤ 100 := by omega
      have hc1 : 1 ≤ c := by omega
      have HX : Hid (x = a ∨ Way ns a x) := Lib.hid (hF.ask x (by simp))
      have HFd := Lib.hid hF.pop
      have HM := Lib.hid hM
      have HR := Lib.hid hrow
      have HB := Lib.hid hb
      have hpop := hq.pop
      clear hF hM hq hrow hb hlenq hqc
      rcases hpop with ⟨rfl, -, hQ⟩ | ⟨hne, hQ⟩
      all_goals
        have HQ := Lib.hid hQ
        clear hQ
        go_wp2
        obtain ⟨wo, rfl⟩ : ∃ wo : World, wo = wr := ⟨_, rfl⟩
        go_loopg [6, 8] len (fun g s6 i wr => ∃ (k : Nat) (f' : Nat → Bool) (q' : List Nat) (b' off' c' : Nat), k ≤ len ∧ g = len - k ∧ i = .int .i64 k ∧ s6 = .slice (some ⟨b', off', none⟩) q'.length c' ∧ QRow wr (w.heap.size + 1) b' off' q'.length c' q' ∧
          wr.rowIs (w.heap.size + 1) 4 n (boolF f') ∧ Found ns a f' q' (fun z => z = x) ∧ (∀ e ∈ ns.take k, e.1 = x → f' e.2 = true) ∧ q'.length + lack f' n = q.length + lack f n ∧ Below (w.heap.size + 1) (w.alloc (Obj.cells #[Value.int IntKind.i64 n, Value.slice A len cap] 31)) wr)
        case atStart => exact ⟨0, f, q, _, _, _, by omega, rfl, rfl, rfl, HQ.out, HR.out, HFd.out, by simp, rfl, HB.out⟩
        case round =>
          clear d0 cx
          obtain ⟨k, f', q', b', off', c', hk, rfl, rfl, rfl, hq, hrow, hF, hdone, hM', hb⟩ := hrel
          have d0 : wr.cell? ⟨w.heap.size, 1, none⟩ = some (.slice A len cap) := (hb.cell (show w.heap.size < w.heap.size + 1 by omega)).trans (World.cell?_alloc_at _ _ _ _ rfl)
          by_cases hlt : k < len
          · have hlt' : k < ns.length := by rw [← hlen.out]; exact hlt
            have hEr : NRow wr A ns := hE.below (below_new hb)
            obtain ⟨eb, o, rfl, d1, d2⟩ := hEr k hlt'
            clear hEr
            obtain ⟨q1, q2⟩ := hG.hk k hlt'
            obtain ⟨u, hu⟩ : ∃ u, (ns.getD k (0, 0)).1 = u := ⟨_, rfl⟩
            obtain ⟨y, hy⟩ : ∃ y, (ns.getD k (0, 0)).2 = y := ⟨_, rfl⟩
            have hxy : ns.getD k (0, 0) = (u, y) := by rw [← hu, ← hy]
            have hmem : (u, y) ∈ ns := by rw [← hxy]; exact getD_mem ns (0, 0) hlt'
            have htk : ns.take (k + 1) = ns.take k ++ [(u, y)] := by rw [take_snoc ns (0, 0) hlt', hxy]
            rw [hu] at d1 q1
            rw [hy] at d2 q2
            have d3 : wr.cell? ⟨w.heap.size + 1, y, none⟩ = some (.bool (f' y)) := hrow.cell q2
            have d4 : wr.frozen? ⟨w.heap.size + 1, y, none⟩ = false := hrow.frozen y
            have hql' : q'.length ≤ 1000 := by have := HM.out; omega
            clear hu hy hxy
            by_cases e1 : u = x
            · have t1 : ((u : Int) == x) = true := by simp; omega
              cases hf : f' y
              · have HP : Hid (Found ns a (mark f' y) (q' ++ [y]) (fun z => z = x)) := Lib.hid (hF.push HX.out (by rw [← e1]; exact hmem))
                have HD : Hid (∀ e ∈ ns.take (k + 1), e.1 = x → mark f' y e.2 = true) := Lib.hid (fun e he hx => by
                  rw [htk, List.mem_append, List.mem_singleton] at he
                  unfold mark
                  split
                  · rfl
                  · rcases he with he | rfl
                    · exact hdone e he hx
                    · rename_i hne; exact absurd rfl hne)
                have HL := Lib.hid (lack_mark hf q2)
                have HM2 := Lib.hid hM'
                have HR2 := Lib.hid hrow
                have HQ2 := Lib.hid hq
                have HB2 := Lib.hid hb
                have hbn := hq.ne hrow (by decide)
                have hsz3 : w.heap.size + 1 < wr.heap.size := hrow.lt
                rw [hf] at d3
                clear hf hF hdone hmem htk e1 hM' hrow hq hb
                go_wp2_with (at_builtin; refine list_push (w0 := w.alloc (Obj.cells #[Value.int IntKind.i64 n, Value.slice (some ⟨eb, o, none⟩) len cap] 31)) (w.heap.size + 1) (w.heap.size + 1) rfl _ _ 47 rfl Tryd.underlying47 info3 b' off' q'.length c' q' y wr.heap.size rfl rfl (by simpa [World.setCell] using heap_alloc_new (wr.setCell ⟨w.heap.size + 1, y, none⟩ (.bool true)) (.cells #[.int .i64 (y : Int)] 3)) ((HQ2.out.setOther (by exact hbn) _).alloc _) ((HB2.out.setCell (by exact Nat.le_refl _) _).alloc (by simp [World.setCell]; omega) _) (Nat.le_refl _) (by simp [World.setCell]; omega) (by omega) ?_; intro b2 off2 c2 w4 p1 p2 p3)
                go_roundg (len - (k + 1))
                case measure => omega
                case rel =>
                  refine ⟨k + 1, mark f' y, q' ++ [y], b2, off2, c2, by omega, rfl, by go_num, by rw [List.length_append]; rfl, by rw [List.length_append]; exact p1, ?_, HP.out, HD.out, ?_, p2⟩
                  · refine (p3 _ _ _ _ (by decide) ((HR2.out.set y _).alloc _)).congr fun j hj => ?_
                    simp only [boolF, mark]
                    split <;> rfl
                  · have := HL.out
                    have := HM2.out
                    simp only [List.length_append, List.length_cons, List.length_nil]
                    omega
              · have HD : Hid (∀ e ∈ ns.take (k + 1), e.1 = x → f' e.2 = true) := Lib.hid (fun e he hx => by
                  rw [htk, List.mem_append, List.mem_singleton] at he
                  rcases he with he | rfl
                  · exact hdone e he hx
                  · exact hf)
                have HP := Lib.hid hF
                have HM2 := Lib.hid hM'
                have HR2 := Lib.hid hrow
                have HQ2 := Lib.hid hq
                have HB2 := Lib.hid hb
                rw [hf] at d3
                clear hf hF hdone hmem htk e1 hM' hrow hq hb
                go_wp2
                go_roundg (len - (k + 1))
                case measure => omega
                case rel => exact ⟨k + 1, f', q', b', off', c', by omega, rfl, by go_num, rfl, HQ2.out, HR2.out, HP.out, HD.out, HM2.out, HB2.out⟩
            · have t1 : ((u : Int) == x) = false := by simp; omega
              have HD : Hid (∀ e ∈ ns.take (k + 1), e.1 = x → f' e.2 = true) := Lib.hid (fun e he hx => by
                rw [htk, List.mem_append, List.mem_singleton] at he
                rcases he with he | rfl
                · exact hdone e he hx
                · exact absurd hx e1)
              have HP := Lib.hid hF
              have HM2 := Lib.hid hM'
              have HR2 := Lib.hid hrow
              have HQ2 := Lib.hid hq
              have HB2 := Lib.hid hb
              clear hF hdone hmem htk e1 hM' hrow hq hb
              go_wp2
              go_roundg (len - (k + 1))
              case measure => omega
              case rel => exact ⟨k + 1, f', q', b', off', c', by omega, rfl, by go_num, rfl, HQ2.out, HR2.out, HP.out, HD.out, HM2.out, HB2.out⟩
          · obtain rfl : k = len := by omega
            have HP : Hid (Found ns a f' q' (fun _ => False)) := Lib.hid (hF.round (fun y hy => hdone (x, y) (by rw [hlen.out, List.take_length]; exact hy) rfl))
            have HM2 := Lib.hid hM'
            have HR2 := Lib.hid hrow
            have HQ2 := Lib.hid hq
            have HB2 := Lib.hid hb
            clear hF hdone hM' hrow hq hb
            go_wp2
            go_roundg (q'.length + lack f' n)
            case measure => have := HM2.out; rw [List.length_cons]; omega
            case rel => exact ⟨f', q', b', off', c', rfl, HQ2.out, HR2.out, HP.out, rfl, by have := HM2.out; have := HM.out; omega, HB2.out⟩
end Go.Proofs.YtpdhggfmkmiebaaDoor
