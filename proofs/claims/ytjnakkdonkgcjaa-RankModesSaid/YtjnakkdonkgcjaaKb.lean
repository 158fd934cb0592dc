/- The comparison that Order hands to the sort: it compares the two keys; it writes nothing. -/
import Derived.Test.YtjnakkdonkgcjaaKa
import Derived.Shelf.Abstract
namespace Go.Proofs.Ytjnakkdonkgcjaa
open Go.RowKit Go.Shelf

set_option maxRecDepth 100000 in
theorem less0 (a b c : Int) (K C : Nat) (w : World) (hK : w.cell? ⟨K, 0, none⟩ = some (.func (.func 31) #[] #[])) (hC : w.cell? ⟨C, 0, none⟩ = some (.int .i64 c)) :
    Calls Try.prog 24 #[.int .i64 a, .int .i64 b, .pointer (some ⟨K, 0, none⟩), .pointer (some ⟨C, 0, none⟩)] w fun e w' => e = .returned (.int .i64 (cmpV (keyV 0 a c) (keyV 0 b c))) ∧ ∃ q, w' = w.drewN q := by
  have e0 := enters_of Try.func31 (by kernel_rfl) rfl
  go_enter Try.func24, Try.ntmps24
  go_wp2
  go_quiet (first | (go_at_call 31; exact Calls.quiet_of_same (key0 _ _ _)) | (go_at_call 25; exact Calls.quiet_of_same (cmp_any _ _ _)))
  go_wp2
  go_ret
  exact ⟨rfl, _, rfl⟩
set_option maxRecDepth 100000 in
theorem less1 (a b c : Int) (K C : Nat) (w : World) (hK : w.cell? ⟨K, 0, none⟩ = some (.func (.func 32) #[] #[])) (hC : w.cell? ⟨C, 0, none⟩ = some (.int .i64 c)) :
    Calls Try.prog 24 #[.int .i64 a, .int .i64 b, .pointer (some ⟨K, 0, none⟩), .pointer (some ⟨C, 0, none⟩)] w fun e w' => e = .returned (.int .i64 (cmpV (keyV 1 a c) (keyV 1 b c))) ∧ ∃ q, w' = w.drewN q := by
  have e0 := enters_of Try.func32 (by kernel_rfl) rfl
  go_enter Try.func24, Try.ntmps24
  go_wp2
  go_quiet (first | (go_at_call 32; exact Calls.quiet_of_same (key1 _ _ _)) | (go_at_call 25; exact Calls.quiet_of_same (cmp_any _ _ _)))
  go_wp2
  go_ret
  exact ⟨rfl, _, rfl⟩
set_option maxRecDepth 100000 in
theorem less2 (a b c : Int) (ha : Small a) (hb : Small b) (hc : Small c) (K C : Nat) (w : World) (hK : w.cell? ⟨K, 0, none⟩ = some (.func (.func 33) #[] #[])) (hC : w.cell? ⟨C, 0, none⟩ = some (.int .i64 c)) :
    Calls Try.prog 24 #[.int .i64 a, .int .i64 b, .pointer (some ⟨K, 0, none⟩), .pointer (some ⟨C, 0, none⟩)] w fun e w' => e = .returned (.int .i64 (cmpV (keyV 2 a c) (keyV 2 b c))) ∧ ∃ q, w' = w.drewN q := by
  have e0 := enters_of Try.func33 (by kernel_rfl) rfl
  go_enter Try.func24, Try.ntmps24
  go_wp2
  go_quiet (first | (go_at_call 33; refine Calls.quiet_of_same (key2 _ _ ?_ hc _); assumption) | (go_at_call 25; exact Calls.quiet_of_same (cmp_any _ _ _)))
  go_wp2
  go_ret
  exact ⟨rfl, _, rfl⟩
set_option maxRecDepth 100000 in
theorem less3 (a b c : Int) (ha : Small a) (hb : Small b) (hc : Small c) (K C : Nat) (w : World) (hK : w.cell? ⟨K, 0, none⟩ = some (.func (.func 34) #[] #[])) (hC : w.cell? ⟨C, 0, none⟩ = some (.int .i64 c)) :
    Calls Try.prog 24 #[.int .i64 a, .int .i64 b, .pointer (some ⟨K, 0, none⟩), .pointer (some ⟨C, 0, none⟩)] w fun e w' => e = .returned (.int .i64 (cmpV (keyV 3 a c) (keyV 3 b c))) ∧ ∃ q, w' = w.drewN q := by
  have e0 := enters_of Try.func34 (by kernel_rfl) rfl
  go_enter Try.func24, Try.ntmps24
  go_wp2
  go_quiet (first | (go_at_call 34; refine Calls.quiet_of_same (key3 _ _ ?_ hc _); assumption) | (go_at_call 25; exact Calls.quiet_of_same (cmp_any _ _ _)))
  go_wp2
  go_ret
  exact ⟨rfl, _, rfl⟩

/-- .. for whichever mode -/
theorem less_any (mode : Nat) (hm : mode < 4) (a b c : Int) (ha : Small a) (hb : Small b) (hc : Small c) (K C : Nat) (w : World) (hK : w.cell? ⟨K, 0, none⟩ = some (.func (.func (31 + mode)) #[] #[])) (hC : w.cell? ⟨C, 0, none⟩ = some (.int .i64 c)) :
    Calls Try.prog 24 #[.int .i64 a, .int .i64 b, .pointer (some ⟨K, 0, none⟩), .pointer (some ⟨C, 0, none⟩)] w fun e w' => e = .returned (.int .i64 (cmpV (keyV mode a c) (keyV mode b c))) ∧ ∃ q, w' = w.drewN q := by
  rcases mode with _ | _ | _ | _ | m
  · exact less0 a b c K C w hK hC
  · exact less1 a b c K C w hK hC
  · exact less2 a b c ha hb hc K C w hK hC
  · exact less3 a b c ha hb hc K C w hK hC
  · omega

end Go.Proofs.Ytjnakkdonkgcjaa
