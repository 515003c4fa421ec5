/-
  The contracts of log.Blocks, keystoneref03.Blocks and keystonelaw03.live: what they answer for every int; nothing is written.
-/
import Derived.Test.YtflnlpbcmcfblaaRows
import Derived.WalkKit
import Derived.WalkSpells
import Derived.Lib.Hide
import Derived.WalkLawsBesides
namespace Go.Proofs.Ytflnlpbcmcfblaa
open Go.RowKit

/-- How many blocks a record of n bytes takes. -/
def blocksI (n : Int) : Int := if n < 0 then 0 else if n = 0 then 1 else (n - 1) / 40 + 1

set_option maxHeartbeats 400000 in
theorem logBlocks_any (n : Int) (h : n ≤ 9223372036854775807) (w : World) :
    Calls Try.prog 45 #[.int .i64 n] w fun e w' => e = .returned (.int .i64 (blocksI n)) ∧ w = w' := by
  by_cases h1 : n < 0
  · have hb : blocksI n = 0 := by unfold blocksI; rw [if_pos h1]
    have HB := Lib.hid hb
    clear hb
    go_enter Try.func45, Try.ntmps45
    go_wp2
    go_ret
    exact ⟨by rw [HB.out]; rfl, rfl⟩
  · by_cases h2 : n = 0
    · subst h2
      go_enter Try.func45, Try.ntmps45
      go_wp2
      go_ret
      exact ⟨rfl, rfl⟩
    · have hb : blocksI n = (n - 1) / 40 + 1 := by unfold blocksI; rw [if_neg h1, if_neg h2]
      have HB := Lib.hid hb
      have h3 : 0 < n := by omega
      clear hb h1 h2
      go_enter Try.func45, Try.ntmps45
      go_wp2
      go_ret
      exact ⟨by rw [HB.out]; rfl, rfl⟩

set_option maxHeartbeats 400000 in
theorem refBlocks_any (n : Int) (h : n ≤ 9223372036854775807) (w : World) :
    Calls Try.prog 46 #[.int .i64 n] w fun e w' => e = .returned (.int .i64 (blocksI n)) ∧ w = w' := by
  by_cases h1 : n < 0
  · have hb : blocksI n = 0 := by unfold blocksI; rw [if_pos h1]
    have HB := Lib.hid hb
    clear hb
    go_enter Try.func46, Try.ntmps46
    go_wp2
    go_ret
    exact ⟨by rw [HB.out]; rfl, rfl⟩
  · by_cases h2 : n = 0
    · subst h2
      go_enter Try.func46, Try.ntmps46
      go_wp2
      go_ret
      exact ⟨rfl, rfl⟩
    · have hb : blocksI n = (n - 1) / 40 + 1 := by unfold blocksI; rw [if_neg h1, if_neg h2]
      have HB := Lib.hid hb
      have h3 : 0 < n := by omega
      clear hb h1 h2
      go_enter Try.func46, Try.ntmps46
      go_wp2
      go_ret
      exact ⟨by rw [HB.out]; rfl, rfl⟩

set_option maxHeartbeats 400000 in
theorem live_any (w : World) :
    Calls Try.prog 44 #[] w fun e w' => e = .returned (.bool true) ∧ w = w' := by
  have b41 : blocksI 41 = 2 := by decide
  have b0 : blocksI 0 = 1 := by decide
  have H41 := Lib.hid b41
  have H0 := Lib.hid b0
  clear b41 b0
  go_enter Try.func44, Try.ntmps44
  go_wp2_with fail
  refine (logBlocks_any _ (by omega) _).mono ?_
  rintro e w' ⟨rfl, rfl⟩
  rw [H41.out]
  go_wp2_with fail
  refine (logBlocks_any _ (by omega) _).mono ?_
  rintro e w' ⟨rfl, rfl⟩
  rw [H0.out]
  go_wp2
  go_ret
  exact ⟨rfl, rfl⟩

end Go.Proofs.Ytflnlpbcmcfblaa
