/-
  Package log: get.
-/
import Derived.Laws.BitsLemmas
import Derived.Laws.Bits64
import Derived.Deep.RegionHeld3
import Derived.Test.YtflnlpbcmcfblaaOwnM
namespace Go.Proofs.Ytflnlpbcmcfblaa
open Go.RowKit

/-- The number that bytes say, the lowest first. -/
def le : List UInt8 → Nat
  | [] => 0
  | x :: l => x.toNat + 256 * le l

theorem le_append (a b : List UInt8) : le (a ++ b) = le a + 256 ^ a.length * le b := by
  induction a with
  | nil => simp [le]
  | cons x a ih =>
    simp only [List.cons_append, le, ih, List.length_cons, Nat.pow_succ]
    rw [Nat.mul_add, Nat.add_assoc, ← Nat.mul_assoc, Nat.mul_comm 256 (256 ^ a.length)]

theorem le_lt : ∀ b : List UInt8, le b < 256 ^ b.length
  | [] => by simp [le]
  | x :: l => by
    have := le_lt l
    have hx := x.toNat_lt
    simp only [le, List.length_cons, Nat.pow_succ]
    omega

theorem le_take_succ {b : List UInt8} {k : Nat} (hk : k < b.length) : le (b.take (k + 1)) = le (b.take k) + 256 ^ k * b[k].toNat := by
  rw [List.take_succ_eq_append_getElem hk, le_append, List.length_take, Nat.min_eq_left (by omega)]
  simp [le]

theorem wraps_u64 (n : Int) (h₀ : 0 ≤ n) (h₁ : n < 2 ^ 64) : IntKind.u64.wrap n = n := by rw [IntKind.wrap_u64]; omega

theorem pow256 (k : Nat) : 256 ^ k = 2 ^ (8 * k) := by
  rw [show (256 : Nat) = 2 ^ 8 from rfl, ← Nat.pow_mul]

theorem or_step {b : List UInt8} {k : Nat} (hk : k < b.length) (h8 : k < 8) :
    bits .or .u64 (le (b.take k) : Int) (IntKind.u64.wrap (IntKind.u64.wrap (b[k].toNat : Int) * 2 ^ (8 * k))) = (le (b.take (k + 1)) : Int) := by
  have hx := b[k].toNat_lt
  have e1 : IntKind.u64.wrap (b[k].toNat : Int) = (b[k].toNat : Int) := wraps_u64 _ (by omega) (by omega)
  have hl := le_lt (b.take k)
  rw [List.length_take, Nat.min_eq_left (by omega), pow256] at hl
  have hp : 2 ^ (8 * k) * 256 ≤ 2 ^ 64 := by
    rw [show (256 : Nat) = 2 ^ 8 from rfl, ← Nat.pow_add]
    exact Nat.pow_le_pow_right (by omega) (by omega)
  have hlt : b[k].toNat * 2 ^ (8 * k) < 2 ^ 64 := by
    have : b[k].toNat * 2 ^ (8 * k) ≤ 255 * 2 ^ (8 * k) := Nat.mul_le_mul_right _ (by omega)
    have h0 := Nat.two_pow_pos (8 * k)
    omega
  have e2 : (b[k].toNat : Int) * 2 ^ (8 * k) = ((b[k].toNat * 2 ^ (8 * k) : Nat) : Int) := by simp
  rw [e1, e2, wraps_u64 _ (Int.natCast_nonneg _) (by exact_mod_cast hlt)]
  have h64 : le (b.take k) < 2 ^ 64 := by omega
  rw [(bits_nat .u64 64 (by decide) wraps_u64 _ _ h64 hlt).2, le_take_succ hk, pow256]
  have := Nat.two_pow_add_eq_or_of_lt hl b[k].toNat
  rw [Nat.or_comm, Nat.mul_comm b[k].toNat, ← this, Nat.add_comm]

theorem cut_drop {cur : Array Value} {off : Nat} {b : List UInt8} (hx : off + b.length ≤ cur.size) (hc : cut cur off b.length = bvA b) (n : Nat) : cut cur (off + n) (b.length - n) = bvA (b.drop n) := by
  by_cases hn : n ≤ b.length
  · refine cut_ext (by rw [bvA_size, List.length_drop]) (by omega) (fun i hi => ?_)
    have := cut_get hx (n + i) (by omega)
    rw [hc, bvA_get] at this
    rw [Nat.add_assoc, ← this, bvA_get, List.getElem?_drop]
  · have e : b.drop n = [] := List.drop_eq_nil_of_le (by omega)
    rw [e, Nat.sub_eq_zero_of_le (by omega)]
    simp [cut, bvA]; omega

set_option maxRecDepth 20000 in
set_option maxHeartbeats 2000000 in
theorem get_any (w : World) (bx g off cap : Nat) (b : List UInt8) (q n : Nat) (hq : b.length = q) (hn : n < q) (h8 : n ≤ 8) (hcap : q ≤ cap) (hcm : cap ≤ 9223372036854775807) (hrow : rowOf w bx = #[.slice (some ⟨g, off, none⟩) q cap]) (hl : live w bx = true)
    (hx : off + b.length ≤ (rowOf w g).size) (hc : cut (rowOf w g) off b.length = bvA b) :
    Calls Try.prog 93 #[.pointer (some ⟨bx, 0, none⟩), .int .i64 n] w fun e w' => e = .returned (.int .u64 (le (b.take n))) ∧ rowOf w' bx = #[.slice (some ⟨g, off + n, none⟩) (q - n) (cap - n)] ∧ live w' bx = true ∧ Fr (fun k => k = bx) w w' := by
  have HX := Lib.hid hx
  have HC := Lib.hid hc
  have HQ := Lib.hid hq
  have hni : (n : Int) < (q : Int) := by omega
  clear hx hc hq
  go_enter Try.func93, Try.ntmps93
  go_wp2
  go_loop [5, 6, 8] (fun v _ i => ∃ k : Nat, k ≤ n ∧ i = .int .i64 k ∧ v = .int .u64 (le (b.take k))) (fun _ _ i => n - (intOf i).toNat)
  case atStart => exact ⟨0, Nat.zero_le _, rfl, rfl⟩
  case round =>
    obtain ⟨k, hk, rfl, rfl⟩ := hrel
    by_cases hlt : k < n
    · have hki : (k : Int) < (n : Int) := by omega
      have hkq : (k : Int) < (q : Int) := by omega
      have hkl : k < b.length := by rw [HQ.out]; omega
      have hcell : (rowOf w g)[off + k]? = some (bv b[k]) := by
        have := cut_get HX.out k hkl
        rw [← this, HC.out, bvA_get, List.getElem?_eq_getElem hkl]; rfl
      have OS := Lib.hid (or_step hkl (by omega))
      obtain ⟨x, hx⟩ : ∃ x, b[k] = x := ⟨_, rfl⟩
      rw [hx] at hcell OS
      unfold bv at hcell
      clear hx
      go_wp2
      go_round
      case rel => exact ⟨k + 1, by omega, by go_num, by rw [OS.out]⟩
      case measure => simp [intOf]; omega
    · obtain rfl : k = n := by omega
      go_wp2
      go_ret
      exact ⟨rfl, rowOf_setRow_same _ _ _ hl, by rw [live_setRow]; exact hl, (Fr.refl (fun k => k = bx) w).setRow _ _ (fun _ => rfl)⟩

end Go.Proofs.Ytflnlpbcmcfblaa
