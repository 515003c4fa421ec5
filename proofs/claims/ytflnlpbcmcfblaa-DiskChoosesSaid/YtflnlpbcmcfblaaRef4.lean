/-
  The reference of package disk: Write.
-/
import Derived.Test.YtflnlpbcmcfblaaRef3
namespace Go.Proofs.Ytflnlpbcmcfblaa
open Go.RowKit

/-- The answers that change nothing. -/
theorem RRep.row {w : World} {f : Nat → Prop} {r gd gt : Nat} {S : DS} (h : RRep w f r gd gt S) : ∃ cd ct wv, rowOf w r = #[.bool true, .bool S.off, .int .i64 (refLeft S), .slice (some ⟨gd, 0, none⟩) S.data.length cd, .slice (some ⟨gt, 0, none⟩) S.data.length ct, wv, .int .i64 S.wr, .int .i64 S.sy] := by
  obtain ⟨cd, ct, wv, e, _⟩ := h.ex
  exact ⟨cd, ct, wv, e⟩

set_option maxRecDepth 20000 in
set_option maxHeartbeats 1000000 in
theorem rwrite_bad1 (w : World) (f : Nat → Prop) (r gd gt : Nat) (S : DS) (h : RRep w f r gd gt S) (n : Int) (va : Value) (hr : S.ready n ≠ 0) :
    Calls Try.prog 33 #[.pointer (some ⟨r, 0, none⟩), .int .i64 n, va] w fun e w' => e = .returned (.int .i64 (S.ready n)) ∧ w = w' := by
  obtain ⟨cd, ct, wv, hrow⟩ := h.row
  clear h
  unfold DS.ready at *
  cases ho : S.off with
  | true =>
    rw [ho] at hrow
    have e : readyI true n S.data.length = 22 := by simp [readyI]
    rw [e]
    clear hr ho
    go_enter Try.func33, Try.ntmps33
    go_wp2
    go_ret
    exact ⟨rfl, rfl⟩
  | false =>
    rw [ho] at hrow hr
    have e : readyI false n S.data.length = 20 := by
      unfold readyI at hr ⊢
      simp at hr ⊢
      omega
    rw [e]
    have hb : n < 0 ∨ (S.data.length : Int) ≤ n := by
      unfold readyI at hr
      simp at hr
      omega
    clear hr ho e
    rcases hb with hb | hb
    · go_enter Try.func33, Try.ntmps33
      go_wp2
      go_ret
      exact ⟨rfl, rfl⟩
    · have hn : ¬ n < 0 := by omega
      go_enter Try.func33, Try.ntmps33
      go_wp2
      go_ret
      exact ⟨rfl, rfl⟩

set_option maxRecDepth 20000 in
set_option maxHeartbeats 1000000 in
theorem rwrite_bad2 (w : World) (f : Nat → Prop) (r gd gt : Nat) (S : DS) (h : RRep w f r gd gt S) (n : Int) (a : Option Addr) (len cap : Nat) (hr : S.ready n = 0) (hl : len ≠ 64) :
    Calls Try.prog 33 #[.pointer (some ⟨r, 0, none⟩), .int .i64 n, .slice a len cap] w fun e w' => e = .returned (.int .i64 21) ∧ w = w' := by
  obtain ⟨cd, ct, wv, hrow⟩ := h.row
  obtain ⟨ho, h0, h1⟩ := readyI_zero.1 (show readyI S.off n S.data.length = 0 from hr)
  rw [ho] at hrow
  have hl2 : ¬ ((len : Int) = 64) := by omega
  have hn0 : ¬ n < 0 := by omega
  have hn1 : ¬ (S.data.length : Int) ≤ n := by omega
  clear h hr ho
  go_enter Try.func33, Try.ntmps33
  go_wp2
  go_ret
  exact ⟨rfl, rfl⟩

set_option maxRecDepth 20000 in
set_option maxHeartbeats 1000000 in
theorem rwrite_bad3 (w : World) (f : Nat → Prop) (r gd gt : Nat) (S : DS) (h : RRep w f r gd gt S) (n : Int) (a : Option Addr) (cap : Nat) (hr : S.ready n = 0) (hg : S.goesB = false) :
    Calls Try.prog 33 #[.pointer (some ⟨r, 0, none⟩), .int .i64 n, .slice a 64 cap] w fun e w' => e = .returned (.int .i64 22) ∧ RRep w' f r gd gt S.goes ∧ Fr (fun k => k = r) w w' := by
  obtain ⟨cd, ct, wv, hrow⟩ := h.row
  have H := Lib.hid h
  obtain ⟨ho, h0, h1⟩ := readyI_zero.1 (show readyI S.off n S.data.length = 0 from hr)
  rw [ho] at hrow
  have hn0 : ¬ n < 0 := by omega
  have hn1 : ¬ (S.data.length : Int) ≤ n := by omega
  have HG := Lib.hid hg
  clear h hr ho hg
  go_enter Try.func33, Try.ntmps33
  go_wp2_with fail
  refine (power_any w f r gd gt S H.out).mono ?_
  rintro e w1 ⟨rfl, h1, f1⟩
  rw [HG.out]
  clear hrow
  go_wp2
  go_ret
  exact ⟨rfl, h1, f1⟩

end Go.Proofs.Ytflnlpbcmcfblaa
