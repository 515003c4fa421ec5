/-
  The reference of package disk: New.
-/
import Derived.Test.YtflnlpbcmcfblaaRef9
namespace Go.Proofs.Ytflnlpbcmcfblaa
open Go.RowKit

def zero50 : Array Value := #[.bool false, .bool false, .int .i64 0, .slice none 0 0, .slice none 0 0, .slice none 0 0, .int .i64 0, .int .i64 0]

theorem size50 : (Try.prog.info? 50).map (·.size) = some 8 := by kernel_rfl

/-- What New and Load answer: the struct of the result's block, and the error. -/
theorem results31 {w : World} {t : Array Value} {g : Nat} {q : Int} {c0 c1 c2 c3 c4 c5 c6 c7 : Value} (h2 : t[2]?.getD undef = .pointer (some ⟨g, 0, none⟩)) (h3 : t[3]?.getD undef = .int .i64 q) (hr : rowOf w g = #[c0, c1, c2, c3, c4, c5, c6, c7]) :
    (results Try.f31 t).run Try.prog w = .ok (.tuple #[.agg #[c0, c1, c2, c3, c4, c5, c6, c7], .int .i64 q]) w := by
  cases hi : Try.prog.info? 50 with
  | none => have := size50; rw [hi] at this; cases this
  | some i =>
    have hs : i.size = 8 := by have := size50; rw [hi] at this; exact Option.some.inj this
    simp [results, Try.results31, go_sem, h2, h3, isAgg, run_underlying Try.underlying50, sizeOf, typeInfo, hi, hs, hr]

set_option maxHeartbeats 400000 in
theorem rnew_bad (w : World) (n : Int) (h : n < 1 ∨ 16384 < n) :
    Calls Try.prog 31 #[.int .i64 n] w fun e w' => e = .returned (.tuple #[.agg zero50, .int .i64 1]) ∧ Fr (fun _ => False) w w' := by
  by_cases h1 : n < 1
  · clear h
    go_enter Try.func31, Try.ntmps31
    go_wp2
    exact bodyPost_ret (results31 rfl rfl (rowOf_alloc_at _ _ _ _ _ rfl)) rfl ⟨rfl, (Fr.refl _ w).alloc _⟩
  · have h2 : 16384 < n := by omega
    clear h
    go_enter Try.func31, Try.ntmps31
    go_wp2
    exact bodyPost_ret (results31 rfl rfl (rowOf_alloc_at _ _ _ _ _ rfl)) rfl ⟨rfl, (Fr.refl _ w).alloc _⟩

end Go.Proofs.Ytflnlpbcmcfblaa
