/-
  disk.lay: a write is laid on its block.
-/
import Derived.Test.YtflnlpbcmcfblaaDisk1
namespace Go.Proofs.Ytflnlpbcmcfblaa
open Go.RowKit

section
variable (w : World) (d gb gt nb cb nt ct : Nat) (pv : Value) (off pl : Bool) (left wr sy : Int)

set_option maxRecDepth 10000 in
set_option maxHeartbeats 1000000 in
theorem lay_any (h : DStruct w d (.slice (some ⟨gb, 0, none⟩) nb cb) (.slice (some ⟨gt, 0, none⟩) nt ct) pv off pl left wr sy)
    (lb : live w gb = true) (lt : live w gt = true) (n1 : d ≠ gb) (n2 : d ≠ gt) (n3 : gb ≠ gt)
    (k : Nat) (hk : k < nb) (hkt : k < nt) (cs : Array Value) (hcs : cs.size = 64) (h1 : ones cs)
    (hsb : k * 64 + 64 ≤ (rowOf w gb).size) (tv : Value) (hst : (rowOf w gt)[k]? = some tv) :
    Calls Try.prog 63 #[.pointer (some ⟨d, 0, none⟩), .agg (wrC k cs)] w fun e w' => e = .returned (.tuple #[]) ∧
      rowOf w' gb = blit (rowOf w gb) (k * 64) cs ∧ rowOf w' gt = (rowOf w gt).setIfInBounds k (.bool false) ∧ live w' gb = true ∧ live w' gt = true ∧ Fr (fun i => i = gb ∨ i = gt) w w' := by
  obtain ⟨hr, hl⟩ := h
  have m1 := n1.symm
  have m2 := n2.symm
  have m3 := n3.symm
  have ld := live_lt hl
  have lgb := live_lt lb
  have lgt := live_lt lt
  have c1 := wrC_cut k cs hcs
  have c2 : (wrC k cs).size = 65 := by rw [wrC_size, hcs]
  have k0 : (0 : Int) ≤ (k : Int) := by omega
  have k1 : (k : Int) < (nb : Int) := by omega
  have k2 : (k : Int) < (nt : Int) := by omega
  go_enter Try.func63, Try.ntmps63
  go_wp2
  go_region
  go_end0
  have e1 : gb ≠ w.heap.size := by omega
  have e2 : gt ≠ w.heap.size := by omega
  refine ⟨rfl, ?_, ?_, ?_, ?_, ?_⟩
  · rw [rowOf_drew, rowOf_setRow_ne _ _ _ _ n3, rowOf_setRow_same _ _ _ (by rw [live_alloc_lt _ _ _ lgb]; exact lb)]
  · rw [rowOf_drew, rowOf_setRow_same _ _ _ (by rw [live_setRow, live_alloc_lt _ _ _ lgt]; exact lt)]
  · rw [live_drew, live_setRow, live_setRow, live_alloc_lt _ _ _ lgb]; exact lb
  · rw [live_drew, live_setRow, live_setRow, live_alloc_lt _ _ _ lgt]; exact lt
  · exact ((((Fr.refl _ _).alloc _).setRow _ _ (fun _ => .inl rfl)).setRow _ _ (fun _ => .inr rfl)).drew
end

end Go.Proofs.Ytflnlpbcmcfblaa
