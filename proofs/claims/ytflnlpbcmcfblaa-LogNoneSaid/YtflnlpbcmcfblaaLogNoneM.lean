/-
  The walk of LogNone: it returns true and writes nothing that was there.
-/
import Derived.Test.YtflnlpbcmcfblaaLogNoneW
namespace Go.Proofs.Ytflnlpbcmcfblaa
open Go.RowKit

set_option maxHeartbeats 800000 in
theorem logNone_walk (v : Value) (w : World) :
    Calls Try.prog 13 #[v] w fun e w' => e = .returned (.bool true) ∧ Below w.heap.size w w' := by
  go_enter Try.func13, Try.ntmps13
  go_wp2_with fail
  refine (logFormat_nil _).mono ?_
  rintro e w' ⟨rfl, rfl⟩
  go_wp2_with fail
  refine (logOpen_nil _).mono ?_
  rintro e w' ⟨rfl, rfl⟩
  go_wp2_with fail
  refine (live_any _).mono ?_
  rintro e w' ⟨rfl, rfl⟩
  go_wp2_with fail
  refine (logAppend_none _ _ _ (.inl rfl)).mono ?_
  rintro e w' ⟨rfl, rfl⟩
  go_wp2_with fail
  refine (logCheckpoint_none _ _ _ (.inl rfl)).mono ?_
  rintro e w' ⟨rfl, rfl⟩
  go_wp2_with fail
  refine (logRoom_none _ _ (.inl rfl)).mono ?_
  rintro e w' ⟨rfl, rfl⟩
  go_wp2_with fail
  refine (logCount_none _ _ (.inl rfl)).mono ?_
  rintro e w' ⟨rfl, rfl⟩
  go_wp2_with fail
  refine (logAppend_none _ _ _ (.inr ⟨_, rfl, World.cell?_alloc_new _ _ _ _⟩)).mono ?_
  rintro e w' ⟨rfl, rfl⟩
  go_wp2_with fail
  refine (logCheckpoint_none _ _ _ (.inr ⟨_, rfl, World.cell?_alloc_new _ _ _ _⟩)).mono ?_
  rintro e w' ⟨rfl, rfl⟩
  go_wp2_with fail
  refine (logRoom_none _ _ (.inr ⟨_, rfl, World.cell?_alloc_new _ _ _ _⟩)).mono ?_
  rintro e w' ⟨rfl, rfl⟩
  go_wp2_with fail
  refine (logCount_none _ _ (.inr ⟨_, rfl, World.cell?_alloc_new _ _ _ _⟩)).mono ?_
  rintro e w' ⟨rfl, rfl⟩
  go_wp2
  go_ret
  exact ⟨rfl, (Below.refl _ _).alloc (Nat.le_refl _) _⟩

end Go.Proofs.Ytflnlpbcmcfblaa
