/-
  The walk of DiskNone.
-/
import Derived.Test.YtflnlpbcmcfblaaDisk3
import Derived.Test.YtflnlpbcmcfblaaNoDisk
namespace Go.Proofs.Ytflnlpbcmcfblaa
open Go.RowKit

set_option maxRecDepth 100000 in
set_option maxHeartbeats 1000000 in
theorem diskNone_walk (n : Int) (vb vk : Value) (w : World) :
    Calls Try.prog 8 #[.int .i64 n, vb, vk] w fun e w' => e = .returned (.bool true) ∧ Below w.heap.size w w' := by
  go_enter Try.func8, Try.ntmps8
  go_wp2_with fail
  refine (begun2_any _).mono ?_
  rintro e w1 ⟨rfl, f1⟩
  have F1 := Lib.hid f1
  clear f1
  go_wp2_with fail
  generalize hg : w1.heap.size = g
  have hg2 : w1.heap.size ≤ g := by omega
  have r0 : (w1.alloc (.cells #[.slice none 0 0, .slice none 0 0, .slice none 0 0, .bool false, .bool false, .int .i64 0, .int .i64 0, .int .i64 0] 69)).heap.size = g + 1 := by simp [hg]
  go_loopw [21] (fun i wr => ∃ k : Nat, k ≤ 2 ∧ i = .int .i64 k ∧ rowOf wr (g + 1) = #[.pointer none, .pointer (some ⟨g, 0, none⟩)] ∧ (rowOf wr g)[0]? = some (.slice none 0 0) ∧ g + 1 < wr.heap.size ∧ Fr (fun _ => False) w1 wr) (fun i _ => 2 - (intOf i).toNat)
  case atStart =>
    refine ⟨0, by omega, rfl, ?_, ?_, ?_, ((Fr.refl _ _).alloc _).alloc _⟩
    · rw [rowOf_alloc_at _ _ _ _ _ (by rw [r0])]
    · rw [rowOf_alloc_lt _ _ _ (by rw [r0]; omega), rowOf_alloc_at _ _ _ _ _ hg.symm]; rfl
    · simp; omega
  case round =>
    obtain ⟨k, hk, rfl, hr1, hr2, hlt, hf⟩ := hrel
    have HF := Lib.hid hf
    clear hf hg r0
    rcases (by omega : k = 0 ∨ k = 1 ∨ k = 2) with rfl | rfl | rfl
    · have H : Hid (NoDisk wr (.pointer none)) := .inl rfl
      go_wp2_with fail
      refine (nd_read _ _ H.out n).mono ?_
      rintro e w2 ⟨rfl, f2⟩
      have H2 : Hid (NoDisk w2 (.pointer none)) := .inl rfl
      have R1 := Lib.hid ((f2.row (by omega) (fun h => h)).trans hr1)
      have R2 := Lib.hid (show (rowOf w2 g)[0]? = some (.slice none 0 0) by rw [f2.row (by omega) (fun h => h)]; exact hr2)
      have L2 := Nat.lt_of_lt_of_le hlt f2.size
      have F2 := Lib.hid f2
      clear f2 hr1 hr2
      go_wp2_with (first | (go_at_call 29; refine (nd_image _ _ H2.out).mono ?_; rintro e w' ⟨rfl, rfl⟩) | (go_at_call 42; refine (nd_counts _ _ H2.out).mono ?_; rintro e w' ⟨rfl, rfl⟩) | (go_at_call 27; refine (nd_write _ _ H2.out _ _).mono ?_; rintro e w' ⟨rfl, rfl⟩) | (go_at_call 21; refine (nd_sync _ _ H2.out).mono ?_; rintro e w' ⟨rfl, rfl⟩) | (go_at_call 32; refine (nd_plan _ _ H2.out _).mono ?_; rintro e w' ⟨rfl, rfl⟩) | (go_at_call 23; refine (nd_crash _ _ H2.out _).mono ?_; rintro e w' ⟨rfl, rfl⟩) | (go_at_call 24; refine (nd_off _ _ H2.out).mono ?_; rintro e w' ⟨rfl, rfl⟩) | (go_at_call 37; refine (nd_blocks _ _ H2.out).mono ?_; rintro e w' ⟨rfl, rfl⟩) | (go_at_call 22; refine (nd_pending _ _ H2.out).mono ?_; rintro e w' ⟨rfl, rfl⟩) | (go_at_call 40; refine (nd_clone _ _ H2.out).mono ?_; rintro e w' ⟨rfl, rfl⟩))
      go_roundw
      case rel => exact ⟨1, by omega, by go_num, R1.out, R2.out, L2, HF.out.trans F2.out (fun _ _ h => h)⟩
      case measure => simp [intOf]
    · have H : Hid (NoDisk wr (.pointer (some ⟨g, 0, none⟩))) := .inr ⟨g, rfl, hr2⟩
      go_wp2_with fail
      refine (nd_read _ _ H.out n).mono ?_
      rintro e w2 ⟨rfl, f2⟩
      have H2 := Lib.hid (H.out.keep f2)
      have R1 := Lib.hid ((f2.row (by omega) (fun h => h)).trans hr1)
      have R2 := Lib.hid (show (rowOf w2 g)[0]? = some (.slice none 0 0) by rw [f2.row (by omega) (fun h => h)]; exact hr2)
      have L2 := Nat.lt_of_lt_of_le hlt f2.size
      have F2 := Lib.hid f2
      clear f2 hr1 hr2
      go_wp2_with (first | (go_at_call 29; refine (nd_image _ _ H2.out).mono ?_; rintro e w' ⟨rfl, rfl⟩) | (go_at_call 42; refine (nd_counts _ _ H2.out).mono ?_; rintro e w' ⟨rfl, rfl⟩) | (go_at_call 27; refine (nd_write _ _ H2.out _ _).mono ?_; rintro e w' ⟨rfl, rfl⟩) | (go_at_call 21; refine (nd_sync _ _ H2.out).mono ?_; rintro e w' ⟨rfl, rfl⟩) | (go_at_call 32; refine (nd_plan _ _ H2.out _).mono ?_; rintro e w' ⟨rfl, rfl⟩) | (go_at_call 23; refine (nd_crash _ _ H2.out _).mono ?_; rintro e w' ⟨rfl, rfl⟩) | (go_at_call 24; refine (nd_off _ _ H2.out).mono ?_; rintro e w' ⟨rfl, rfl⟩) | (go_at_call 37; refine (nd_blocks _ _ H2.out).mono ?_; rintro e w' ⟨rfl, rfl⟩) | (go_at_call 22; refine (nd_pending _ _ H2.out).mono ?_; rintro e w' ⟨rfl, rfl⟩) | (go_at_call 40; refine (nd_clone _ _ H2.out).mono ?_; rintro e w' ⟨rfl, rfl⟩))
      go_roundw
      case rel => exact ⟨2, by omega, by go_num, R1.out, R2.out, L2, HF.out.trans F2.out (fun _ _ h => h)⟩
      case measure => simp [intOf]
    · go_wp2
      go_ret
      exact ⟨rfl, (F1.out.trans HF.out (fun _ _ h => h)).below (Nat.le_refl _) (fun _ _ h => h)⟩

end Go.Proofs.Ytflnlpbcmcfblaa
