/- better: which version a mode prefers. -/
import Derived.Test.YtjnakkdonkgcjaaKl
namespace Go.Proofs.Ytjnakkdonkgcjaa
open Go.RowKit

def dist (v c : Int) : Int := max (v - c) (c - v)
def betterB (mode : Nat) (c v w : Int) : Bool :=
  match mode with
  | 1 => decide (v < w)
  | 2 => decide (v = c) || (decide (w ≠ c) && decide (w < v))
  | 3 => decide (dist v c < dist w c) || (decide (dist v c = dist w c) && decide (w < v))
  | _ => decide (w < v)
set_option maxRecDepth 100000 in
theorem better_any (mode : Nat) (hm : mode < 4) (c v u : Int) (hc : Small c) (hv : Small v) (hu : Small u) (w : World) :
    Calls Try.prog 13 #[.int .i64 mode, .int .i64 c, .int .i64 v, .int .i64 u] w fun e w' => e = .returned (.bool (betterB mode c v u)) ∧ w' = w := by
  obtain ⟨c1, c2⟩ := hc
  obtain ⟨v1, v2⟩ := hv
  obtain ⟨u1, u2⟩ := hu
  rcases mode with _ | _ | _ | _ | m
  · go_enter Try.func13, Try.ntmps13
    go_wp2
    all_goals
      go_ret
      refine ⟨?_, rfl⟩
      simp [betterB]
  · go_enter Try.func13, Try.ntmps13
    go_wp2
    all_goals
      go_ret
      refine ⟨?_, rfl⟩
      simp [betterB]
  · go_enter Try.func13, Try.ntmps13
    go_wp2
    all_goals
      go_ret
      refine ⟨?_, rfl⟩
      simp only [betterB]
      refine congrArg (fun b => Ending.returned (Value.bool b)) (Bool.eq_iff_iff.2 ?_)
      simp
      try omega
  · go_enter Try.func13, Try.ntmps13
    go_wp2
    all_goals
      go_ret
      refine ⟨?_, rfl⟩
      simp only [betterB, dist]
      refine congrArg (fun b => Ending.returned (Value.bool b)) (Bool.eq_iff_iff.2 ?_)
      simp only [Bool.or_eq_true, Bool.and_eq_true, decide_eq_true_eq]
      (try simp only [Int.max_def] at *)
      (repeat' split at *)
      all_goals (try simp only [decide_eq_true_eq, true_iff])
      all_goals (try omega)
  · omega
end Go.Proofs.Ytjnakkdonkgcjaa
