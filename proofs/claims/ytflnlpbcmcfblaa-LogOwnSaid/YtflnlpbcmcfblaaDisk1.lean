/-
  The small calls of package disk on a disk that was made.
-/
import Derived.Test.YtflnlpbcmcfblaaBase3
namespace Go.Proofs.Ytflnlpbcmcfblaa
open Go.RowKit

/-- The struct of a disk lies in block d. -/
structure DStruct (w : World) (d : Nat) (bv tv pv : Value) (off pl : Bool) (left wr sy : Int) : Prop where
  row : rowOf w d = #[bv, tv, pv, .bool off, .bool pl, .int .i64 left, .int .i64 wr, .int .i64 sy]
  liv : live w d = true

section
variable (w : World) (d : Nat) (ba : Option Addr) (nb cb : Nat) (tv pv : Value) (off pl : Bool) (left wr sy : Int)

set_option maxHeartbeats 400000 in
theorem none_any (h : DStruct w d (.slice ba nb cb) tv pv off pl left wr sy) (hn : 0 < nb) :
    Calls Try.prog 64 #[.pointer (some ⟨d, 0, none⟩)] w fun e w' => e = .returned (.bool false) ∧ w = w' := by
  obtain ⟨h1, h2⟩ := h
  have hb : ((nb : Int) == 0) = false := by simp; omega
  go_enter Try.func64, Try.ntmps64
  go_wp2
  go_ret
  exact ⟨rfl, rfl⟩

/-- What 'ready' answers. -/
def readyI (off : Bool) (n : Int) (nb : Nat) : Int := if off then 22 else if n < 0 ∨ (nb : Int) ≤ n then 20 else 0

set_option maxHeartbeats 400000 in
theorem ready_any (h : DStruct w d (.slice ba nb cb) tv pv off pl left wr sy) (hn : 0 < nb) (n : Int) :
    Calls Try.prog 61 #[.pointer (some ⟨d, 0, none⟩), .int .i64 n] w fun e w' => e = .returned (.int .i64 (readyI off n nb)) ∧ w = w' := by
  have hH := Lib.hid h
  obtain ⟨h1, h2⟩ := h
  cases off with
  | true =>
    have hr := Lib.hid (show readyI true n nb = 22 by rfl)
    go_enter Try.func61, Try.ntmps61
    go_wp2_with (go_at_call 64; refine (none_any _ _ _ _ _ _ _ _ _ _ _ _ hH.out hn).mono ?_; rintro e w' ⟨rfl, rfl⟩)
    go_ret
    exact ⟨by rw [hr.out]; rfl, rfl⟩
  | false =>
    by_cases hn0 : n < 0
    · have hr := Lib.hid (show readyI false n nb = 20 by simp [readyI, hn0])
      go_enter Try.func61, Try.ntmps61
      go_wp2_with (go_at_call 64; refine (none_any _ _ _ _ _ _ _ _ _ _ _ _ hH.out hn).mono ?_; rintro e w' ⟨rfl, rfl⟩)
      go_ret
      exact ⟨by rw [hr.out]; rfl, rfl⟩
    · by_cases hn1 : (nb : Int) ≤ n
      · have hr := Lib.hid (show readyI false n nb = 20 by simp [readyI, hn1])
        go_enter Try.func61, Try.ntmps61
        go_wp2_with (go_at_call 64; refine (none_any _ _ _ _ _ _ _ _ _ _ _ _ hH.out hn).mono ?_; rintro e w' ⟨rfl, rfl⟩)
        go_ret
        exact ⟨by rw [hr.out]; rfl, rfl⟩
      · have hr := Lib.hid (show readyI false n nb = 0 by simp [readyI, hn0, hn1])
        go_enter Try.func61, Try.ntmps61
        go_wp2_with (go_at_call 64; refine (none_any _ _ _ _ _ _ _ _ _ _ _ _ hH.out hn).mono ?_; rintro e w' ⟨rfl, rfl⟩)
        go_ret
        exact ⟨by rw [hr.out]; rfl, rfl⟩

/-- The power of one thing more: does it stay; off, planned, left behind it. -/
def goesB (pl : Bool) (left : Int) : Bool := !(pl && left == 0)
def goesOff (off pl : Bool) (left : Int) : Bool := off || (pl && left == 0)
def goesPl (pl : Bool) (left : Int) : Bool := pl && !(left == 0)
def goesLeft (pl : Bool) (left : Int) : Int := if pl && !(left == 0) then left - 1 else left

set_option maxHeartbeats 400000 in
theorem goes_any (h : DStruct w d (.slice ba nb cb) tv pv off pl left wr sy) (hl0 : 0 ≤ left) (hl1 : left ≤ 9223372036854775807) :
    Calls Try.prog 62 #[.pointer (some ⟨d, 0, none⟩)] w fun e w' => e = .returned (.bool (goesB pl left)) ∧
      DStruct w' d (.slice ba nb cb) tv pv (goesOff off pl left) (goesPl pl left) (goesLeft pl left) wr sy ∧ Fr (· = d) w w' := by
  have hH := Lib.hid h
  obtain ⟨h1, h2⟩ := h
  cases pl with
  | false =>
    go_enter Try.func62, Try.ntmps62
    go_wp2
    go_ret
    exact ⟨rfl, by simpa [goesOff, goesPl, goesLeft] using hH.out, Fr.refl _ _⟩
  | true =>
    by_cases h0 : left = 0
    · subst h0
      go_enter Try.func62, Try.ntmps62
      go_wp2
      go_ret
      exact ⟨rfl, ⟨by simp [rowOf_setRow_same, h2, goesOff, goesPl, goesLeft], by simp [live_setRow, h2]⟩, (Fr.refl _ _).setRow _ _ (fun _ => rfl)⟩
    · have hb : (left == 0) = false := by simp [h0]
      have hp : 0 < left := by omega
      go_enter Try.func62, Try.ntmps62
      go_wp2
      go_ret
      exact ⟨by simp [goesB, hb], ⟨by simp [rowOf_setRow_same, h2, goesOff, goesPl, goesLeft, hb], by simp [live_setRow, h2]⟩, (Fr.refl _ _).setRow _ _ (fun _ => rfl)⟩

set_option maxHeartbeats 400000 in
theorem plan_off (h : DStruct w d (.slice ba nb cb) tv pv true pl left wr sy) (hn : 0 < nb) (n : Int) :
    Calls Try.prog 32 #[.pointer (some ⟨d, 0, none⟩), .int .i64 n] w fun e w' => e = .returned (.int .i64 22) ∧ w = w' := by
  have hH := Lib.hid h
  obtain ⟨h1, h2⟩ := h
  go_enter Try.func32, Try.ntmps32
  go_wp2_with (go_at_call 61; refine (ready_any _ _ _ _ _ _ _ _ _ _ _ _ hH.out hn _).mono ?_; rintro e w' ⟨rfl, rfl⟩)
  go_ret
  exact ⟨rfl, rfl⟩

set_option maxHeartbeats 400000 in
theorem plan_on (h : DStruct w d (.slice ba nb cb) tv pv false pl left wr sy) (hn : 0 < nb) (n : Int) :
    Calls Try.prog 32 #[.pointer (some ⟨d, 0, none⟩), .int .i64 n] w fun e w' => e = .returned (.int .i64 0) ∧
      DStruct w' d (.slice ba nb cb) tv pv false (decide (0 ≤ n)) (if 0 ≤ n then n else 0) wr sy ∧ Fr (· = d) w w' := by
  have hH := Lib.hid h
  have hr := Lib.hid (show readyI false 0 nb = 0 by simp [readyI]; omega)
  obtain ⟨h1, h2⟩ := h
  go_enter Try.func32, Try.ntmps32
  go_wp2_with (go_at_call 61; refine (ready_any _ _ _ _ _ _ _ _ _ _ _ _ hH.out hn _).mono ?_; rintro e w' ⟨rfl, rfl⟩; rw [hr.out])
  all_goals
    go_ret
    exact ⟨rfl, ⟨by simp [rowOf_setRow_same, *], by simp [live_setRow, h2]⟩, (Fr.refl _ _).setRow _ _ (fun _ => rfl)⟩
end

end Go.Proofs.Ytflnlpbcmcfblaa
