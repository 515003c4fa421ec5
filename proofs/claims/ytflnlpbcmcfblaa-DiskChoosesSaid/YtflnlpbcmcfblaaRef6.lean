/-
  The reference of package disk: Plan, Sync.
-/
import Derived.Test.YtflnlpbcmcfblaaRef5
namespace Go.Proofs.Ytflnlpbcmcfblaa
open Go.RowKit

theorem plan_ok {S : DS} (h : S.Ok) {n : Int} (hn : n ≤ 9223372036854775807) : (S.plan n).2.Ok := by
  unfold DS.plan
  split
  · exact h
  · refine ⟨h.n0, h.n1, h.tl, h.dl, h.pe, ?_, ?_⟩ <;> simp only <;> split <;> omega

set_option maxRecDepth 20000 in
set_option maxHeartbeats 1000000 in
theorem rplan_any (w : World) (f : Nat → Prop) (r gd gt : Nat) (S : DS) (h : RRep w f r gd gt S) (n : Int) (hn : n ≤ 9223372036854775807) :
    Calls Try.prog 76 #[.pointer (some ⟨r, 0, none⟩), .int .i64 n] w fun e w' => e = .returned (.int .i64 (S.plan n).1) ∧ RRep w' f r gd gt (S.plan n).2 ∧ Fr (fun k => k = r) w w' := by
  obtain ⟨cd, ct, wv, hrow⟩ := h.row
  have HR := Lib.hid hrow
  have H := Lib.hid h
  have OK := Lib.hid (plan_ok h.ok hn)
  have hl := h.lr
  clear h hn
  cases ho : S.off with
  | true =>
    have e : S.plan n = (22, S) := by unfold DS.plan; rw [if_pos ho]
    rw [e]
    rw [ho] at hrow
    clear ho e HR OK
    go_enter Try.func76, Try.ntmps76
    go_wp2
    go_ret
    exact ⟨rfl, H.out, Fr.refl _ _⟩
  | false =>
    have e : S.plan n = (0, { S with pl := decide (0 ≤ n), left := if 0 ≤ n then n else 0 }) := by unfold DS.plan; rw [if_neg (by rw [ho]; simp)]
    obtain ⟨S', hS⟩ : ∃ S', (S.plan n).2 = S' := ⟨_, rfl⟩
    have e1 : (S.plan n).1 = 0 := by rw [e]
    have OK2 := OK.out
    rw [hS] at OK2
    have E := Lib.hid (show S'.data = S.data ∧ S'.torn = S.torn ∧ S'.off = S.off ∧ S'.pend = S.pend ∧ S'.wr = S.wr ∧ S'.sy = S.sy ∧ (n < 0 → refLeft S' = -1) ∧ (¬ n < 0 → refLeft S' = n) by
      rw [← hS, e]
      refine ⟨rfl, rfl, rfl, rfl, rfl, rfl, fun h => ?_, fun h => ?_⟩
      · have hz : ¬ 0 ≤ n := by omega
        simp [refLeft, hz]
      · have hz : 0 ≤ n := by omega
        simp [refLeft, hz])
    have OK3 := Lib.hid OK2
    have HO := Lib.hid ho
    rw [e1, hS]
    rw [ho] at hrow
    clear ho e e1 hS OK OK2
    by_cases hn0 : n < 0
    · have HL := Lib.hid (E.out.2.2.2.2.2.2.1 hn0)
      go_enter Try.func76, Try.ntmps76
      go_wp2
      go_ret
      exact ⟨rfl, H.out.set HR.out E.out.1 E.out.2.1 OK3.out (E.out.2.2.1.trans HO.out) HL.out E.out.2.2.2.2.1 E.out.2.2.2.2.2.1 (.inl ⟨rfl, E.out.2.2.2.1⟩), (Fr.refl (fun k => k = r) w).setRow _ _ (fun _ => rfl)⟩
    · have HL := Lib.hid (E.out.2.2.2.2.2.2.2 hn0)
      go_enter Try.func76, Try.ntmps76
      go_wp2
      go_ret
      exact ⟨rfl, H.out.set HR.out E.out.1 E.out.2.1 OK3.out (E.out.2.2.1.trans HO.out) HL.out E.out.2.2.2.2.1 E.out.2.2.2.2.2.1 (.inl ⟨rfl, E.out.2.2.2.1⟩), (Fr.refl (fun k => k = r) w).setRow _ _ (fun _ => rfl)⟩

end Go.Proofs.Ytflnlpbcmcfblaa
