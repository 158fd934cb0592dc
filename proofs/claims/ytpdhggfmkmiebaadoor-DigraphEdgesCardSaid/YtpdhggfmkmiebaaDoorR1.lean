/- The contracts of the document's small answers: Right, In, Has, Closed, Ready; and of the statements' own plain and small. -/
import Derived.Test.YtpdhggfmkmiebaaDoorC
namespace Go.Proofs.YtpdhggfmkmiebaaDoor
open Go.RowKit

theorem rightB_bad {N : Int} {es : List (Int × Int)} {k : Nat} (hk : k < es.length) (h : okE N (es.getD k (0, 0)) = false) : rightB N es = false := by
  simp [rightB, all_bad hk h]
theorem rightB_out {N : Int} {es : List (Int × Int)} (h : N < 0 ∨ 64 < N ∨ 4096 < es.length) : rightB N es = false := by
  simp [rightB]
  omega
theorem rightB_good {N : Int} {es : List (Int × Int)} (h0 : 0 ≤ N) (h1 : N ≤ 64) (h2 : es.length ≤ 4096) (h : es.all (okE N) = true) : rightB N es = true := by
  simp [rightB, h0, h1, h2, h]

set_option maxRecDepth 100000 in
theorem right_loop (N : Int) (A : Option Addr) (len cap : Nat) (es : List (Int × Int)) (hlen : Hid (len = es.length)) (w : World) (h0 : 0 ≤ N) (h1 : N ≤ 64) (h2 : len ≤ 4096) (hE : ERow w A es) :
    Calls Tryd.prog 15 #[.agg #[.int .i64 N, .slice A len cap]] w (Ret (.bool (rightB N es)) w) := by
  have hcell : ∀ k o, k < es.length → ∃ b o', A = some ⟨b, o', none⟩ ∧ (w.alloc o).cell? ⟨b, o' + k * 2, none⟩ = some (.int .i64 (es.getD k (0, 0)).1) ∧ (w.alloc o).cell? ⟨b, o' + k * 2 + 1, none⟩ = some (.int .i64 (es.getD k (0, 0)).2) := fun k o hk => hE.below (below_alloc (Below.refl _ _) o) k hk
  have HC := Lib.hid hcell
  clear hcell hE
  go_enter Tryd.func15, Tryd.ntmps15
  go_wp2
  go_loopg [3] len (fun g i wr => wr = (w.alloc (Obj.cells #[Value.int IntKind.i64 N, Value.slice A len cap] 31)) ∧ ∃ k : Nat, k ≤ len ∧ g = len - k ∧ i = .int .i64 k ∧ (es.take k).all (okE N) = true)
  case atStart => exact ⟨rfl, 0, by omega, rfl, rfl, rfl⟩
  case round =>
    obtain ⟨rfl, k, hk, rfl, rfl, hall⟩ := hrel
    have HA := Lib.hid hall
    clear hall
    by_cases hlt : k < len
    · have hlt' : k < es.length := by rw [← hlen.out]; exact hlt
      obtain ⟨b, o, rfl, d1, d2⟩ := HC.out k (Obj.cells #[Value.int IntKind.i64 N, Value.slice A len cap] 31) hlt'
      obtain ⟨x, hx⟩ : ∃ x, (es.getD k (0, 0)).1 = x := ⟨_, rfl⟩
      obtain ⟨y, hy⟩ : ∃ y, (es.getD k (0, 0)).2 = y := ⟨_, rfl⟩
      have hxy : es.getD k (0, 0) = (x, y) := by rw [← hx, ← hy]
      rw [hx] at d1
      rw [hy] at d2
      have HX := Lib.hid hxy
      clear hx hy hxy
      cases hok : okE N (x, y)
      · have HO := Lib.hid (rightB_bad hlt' (by rw [HX.out]; exact hok))
        have HN : Hid (¬ (0 ≤ x ∧ 0 ≤ y ∧ x < N ∧ y < N)) := Lib.hid (fun h => by rw [okE_mk h] at hok; cases hok)
        clear hok
        go_wp2
        all_goals first
          | (go_ret; exact ⟨by simp only [HO.out]; rfl, below_alloc (Below.refl _ _) _⟩)
          | (exfalso; have := HN.out; omega)
      · obtain ⟨p1, p2, p3, p4⟩ := okE_yes hok
        have HO := Lib.hid (all_step hlt' (by rw [HX.out]; exact hok) HA.out)
        clear hok
        go_wp2
        go_roundg (len - (k + 1))
        case measure => omega
        case rel => exact ⟨rfl, k + 1, by omega, rfl, by go_num, HO.out⟩
    · obtain rfl : k = len := by omega
      have HG := Lib.hid (rightB_good h0 h1 (by rw [← hlen.out]; exact h2) (by have := HA.out; rwa [hlen.out, List.take_length] at this))
      go_wp2
      go_ret
      exact ⟨by rw [HG.out]; rfl, below_alloc (Below.refl _ _) _⟩

set_option maxRecDepth 100000 in
theorem right_out (N : Int) (A : Option Addr) (len cap : Nat) (w : World) (h : N < 0 ∨ 64 < N ∨ 4096 < len) :
    Calls Tryd.prog 15 #[.agg #[.int .i64 N, .slice A len cap]] w (Ret (.bool false) w) := by
  by_cases h0 : N < 0
  · clear h
    go_enter Tryd.func15, Tryd.ntmps15
    go_wp2
    go_ret
    exact ⟨rfl, below_alloc (Below.refl _ _) _⟩
  · by_cases h1 : 64 < N
    · clear h
      go_enter Tryd.func15, Tryd.ntmps15
      go_wp2
      go_ret
      exact ⟨rfl, below_alloc (Below.refl _ _) _⟩
    · have h2 : 4096 < len := by omega
      clear h
      go_enter Tryd.func15, Tryd.ntmps15
      go_wp2
      go_ret
      exact ⟨rfl, below_alloc (Below.refl _ _) _⟩

theorem right_any (N : Int) (A : Option Addr) (len cap : Nat) (es : List (Int × Int)) (hlen : Hid (len = es.length)) (w : World) (hE : ERow w A es) :
    Calls Tryd.prog 15 #[.agg #[.int .i64 N, .slice A len cap]] w (Ret (.bool (rightB N es)) w) := by
  by_cases h : N < 0 ∨ 64 < N ∨ 4096 < len
  · rw [rightB_out (by rw [← hlen.out]; exact h)]
    exact right_out N A len cap w h
  · exact right_loop N A len cap es hlen w (by omega) (by omega) (by omega) hE

/-! ### plain, small -/
set_option maxRecDepth 100000 in
theorem plain_any (N : Int) (A : Option Addr) (len cap : Nat) (w : World) :
    Calls Tryd.prog 14 #[.agg #[.int .i64 N, .slice A len cap]] w (Ret (.agg #[.int .i64 N, .slice A len cap]) w) := by
  go_enter Tryd.func14, Tryd.ntmps14
  go_wp2
  refine bodyPost_end (v := .agg #[.int .i64 N, .slice A len cap]) (by simp [results, Tryd.results14, go_sem]) rfl ⟨rfl, ?_⟩
  exact below_alloc (below_alloc (Below.refl _ _) _) _

end Go.Proofs.YtpdhggfmkmiebaaDoor
