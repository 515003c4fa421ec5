/-
  make of the slices of packages disk and log, as single laws for the walk.
-/
import Derived.Test.YtflnlpbcmcfblaaRep
namespace Go.Proofs.Ytflnlpbcmcfblaa
open Go.RowKit

def makeBig (t : TypeId) (l c : Value) : Sem Value := Instr.makeSlice t l c

section
variable (ρ : Operand → Value) (dst : Option Tmp) (x y : Operand) (type : TypeId) (pos : String) (after : Array Edge) (guard : Option (Nat × Bool))
@[go_sem ↓] theorem execOp_make66 : execOp ρ { dst, op := .makeSlice 66 x y, type, pos, after, guard } = (do pure (.value (← makeBig 66 (ρ x) (ρ y)))) := rfl
@[go_sem ↓] theorem execOp_make48 : execOp ρ { dst, op := .makeSlice 48 x y, type, pos, after, guard } = (do pure (.value (← makeBig 48 (ρ x) (ρ y)))) := rfl
@[go_sem ↓] theorem execOp_make36 : execOp ρ { dst, op := .makeSlice 36 x y, type, pos, after, guard } = (do pure (.value (← makeBig 36 (ρ x) (ρ y)))) := rfl
@[go_sem ↓] theorem execOp_make29 : execOp ρ { dst, op := .makeSlice 29 x y, type, pos, after, guard } = (do pure (.value (← makeBig 29 (ρ x) (ρ y)))) := rfl
end
attribute [go_sem high] execOp_make66 execOp_make48 execOp_make36 execOp_make29

theorem madeCells_rep (z : Array Value) (v : Value) (n : Nat) (hz : 0 < z.size) (h : ∀ i (hi : i < z.size), z[i] = v) : madeCells z n = Array.replicate n v := by
  apply Array.ext
  · simp [madeCells]
  · intro i h1 h2
    have hm : i % z.size < z.size := Nat.mod_lt _ hz
    simp [madeCells, hm, h]

section
variable (w : World)
theorem run_make_rep (t e : TypeId) (z v : Value) (size bytes : Nat) (ht : Try.prog.underlying t = some (.slice e))
    (hi : (Try.prog.info? e).map (fun i => (i.zero, i.size, i.bytes)) = some (some z, size, bytes)) (hz : 0 < z.cells.size) (_hs : z.cells.size = size) (hv : ∀ i (hi : i < z.cells.size), z.cells[i] = v)
    (l c : Int) (h0 : 0 ≤ l) (h1 : l ≤ c) (hb : (bytes : Int) * c ≤ 281474976710656) (h63 : c ≤ 9223372036854775807) :
    (makeBig t (.int .i64 l) (.int .i64 c)).run Try.prog w = .ok (.slice (some ⟨w.heap.size, 0, none⟩) l.toNat c.toNat) (w.alloc (.cells (Array.replicate (c.toNat * size) v) e)) := by
  obtain ⟨i, hi, hz', hs', hb'⟩ := info_parts hi
  have := run_make (P := Try.prog) w t e i z ht hi hz' .i64 .i64 l c h0 h1 (by rw [hb']; exact hb) h63
  rw [hs', madeCells_rep _ v _ hz hv] at this
  exact this

theorem infoB4 : (Try.prog.info? 4).map (fun i => (i.zero, i.size, i.bytes)) = some (some (.bool false), 1, 1) := by kernel_rfl
theorem infoB5 : (Try.prog.info? 5).map (fun i => (i.zero, i.size, i.bytes)) = some (some (.int .u8 0), 1, 1) := by kernel_rfl
theorem infoB36 : (Try.prog.info? 36).map (fun i => (i.zero, i.size, i.bytes)) = some (some (.slice none 0 0), 1, 24) := by kernel_rfl

@[go_sem] theorem run_make66 (c : Int) (h0 : 0 ≤ c) (h1 : c ≤ 16384) :
    (makeBig 66 (.int .i64 c) (.int .i64 c)).run Try.prog w = .ok (.slice (some ⟨w.heap.size, 0, none⟩) c.toNat c.toNat) (w.alloc (.cells (Array.replicate (c.toNat * 64) (.int .u8 0)) 110)) :=
  run_make_rep w 66 110 _ (.int .u8 0) 64 64 Try.underlying66 info110 (by simp [Value.cells]) (by simp [Value.cells]) (by simp [Value.cells]) c c h0 (Int.le_refl _) (by omega) (by omega)
@[go_sem] theorem run_make48 (c : Int) (h0 : 0 ≤ c) (h1 : c ≤ 16384) :
    (makeBig 48 (.int .i64 c) (.int .i64 c)).run Try.prog w = .ok (.slice (some ⟨w.heap.size, 0, none⟩) c.toNat c.toNat) (w.alloc (.cells (Array.replicate c.toNat (.bool false)) 4)) := by
  have := run_make_rep w 48 4 _ (.bool false) 1 1 Try.underlying48 infoB4 (by simp [Value.cells]) (by simp [Value.cells]) (by simp [Value.cells]) c c h0 (Int.le_refl _) (by omega) (by omega)
  simpa using this
@[go_sem] theorem run_make36 (c : Int) (h0 : 0 ≤ c) (h1 : c ≤ 140737488355328) :
    (makeBig 36 (.int .i64 c) (.int .i64 c)).run Try.prog w = .ok (.slice (some ⟨w.heap.size, 0, none⟩) c.toNat c.toNat) (w.alloc (.cells (Array.replicate c.toNat (.int .u8 0)) 5)) := by
  have := run_make_rep w 36 5 _ (.int .u8 0) 1 1 Try.underlying36 infoB5 (by simp [Value.cells]) (by simp [Value.cells]) (by simp [Value.cells]) c c h0 (Int.le_refl _) (by omega) (by omega)
  simpa using this
@[go_sem] theorem run_make29 (c : Int) (h0 : 0 ≤ c) (h1 : c ≤ 16384) :
    (makeBig 29 (.int .i64 c) (.int .i64 c)).run Try.prog w = .ok (.slice (some ⟨w.heap.size, 0, none⟩) c.toNat c.toNat) (w.alloc (.cells (Array.replicate c.toNat (.slice none 0 0)) 36)) := by
  have := run_make_rep w 29 36 _ (.slice none 0 0) 1 24 Try.underlying29 infoB36 (by simp [Value.cells]) (by simp [Value.cells]) (by simp [Value.cells]) c c h0 (Int.le_refl _) (by omega) (by omega)
  simpa using this
end

set_option maxHeartbeats 400000 in
theorem new_bad (w : World) (n : Int) (h : n < 1 ∨ 16384 < n) :
    Calls Try.prog 19 #[.int .i64 n] w fun e w' => e = .returned (.tuple #[.pointer none, .int .i64 1]) ∧ w = w' := by
  by_cases h1 : n < 1
  · clear h
    go_enter Try.func19, Try.ntmps19
    go_wp2
    go_ret2
    exact ⟨rfl, rfl⟩
  · have h2 : 16384 < n := by omega
    clear h
    go_enter Try.func19, Try.ntmps19
    go_wp2
    go_ret2
    exact ⟨rfl, rfl⟩

theorem new_rep {w : World} {d gb gt n : Nat} (h1 : 1 ≤ n) (h2 : n ≤ 16384) (n1 : d ≠ gb) (n2 : d ≠ gt) (n3 : gb ≠ gt)
    (r : rowOf w d = #[.slice (some ⟨gb, 0, none⟩) n n, .slice (some ⟨gt, 0, none⟩) n n, .slice none 0 0, .bool false, .bool false, .int .i64 0, .int .i64 0, .int .i64 0]) (l : live w d = true)
    (rb : rowOf w gb = Array.replicate (n * 64) (.int .u8 0)) (lb : live w gb = true) (rt : rowOf w gt = Array.replicate n (.bool false)) (lt : live w gt = true) :
    DiskRep w ⟨d, gb, gt, .slice none 0 0⟩ (DS.new n) := by
  refine ⟨⟨by simp [DS.new]; omega, by simpa [DS.new] using h2, by simp [DS.new], ?_, by simp [DS.new], by simp [DS.new], by simp [DS.new]⟩, ⟨n, n, ?_⟩, lb, lt, ?_, ?_, .inl ⟨rfl, rfl⟩, n1, n2, n3, by simp [Value.ownBlock]⟩
  · intro b hb
    simp only [DS.new, List.mem_replicate] at hb
    rw [hb.2]; simp [zeros64]
  · simp only [DS.new, List.length_replicate]
    exact ⟨⟨r, l⟩, Nat.le_refl _, Nat.le_refl _, by rw [rb]; simp, by rw [rt]; simp⟩
  · intro i hi
    simp only [DS.new, List.length_replicate] at hi
    simp only [DS.new, List.getElem_replicate, rb]
    apply cut_ext (by simp [bvA, zeros64]) (by simp; omega)
    intro k hk
    rw [Array.getElem?_replicate, if_pos (by omega), bvA_get, zeros64, List.getElem?_replicate, if_pos hk]
    rfl
  · intro i hi
    simp only [DS.new, List.length_replicate] at hi
    simp [DS.new, rt, hi]

set_option maxHeartbeats 800000 in
theorem new_ok (w : World) (n : Nat) (h1 : 1 ≤ n) (h2 : n ≤ 16384) :
    Calls Try.prog 19 #[.int .i64 (n : Int)] w fun e w' => ∃ p : DP, e = .returned (.tuple #[.pointer (some ⟨p.d, 0, none⟩), .int .i64 0]) ∧ DiskRep w' p (DS.new n) ∧
      Fr (fun _ => False) w w' ∧ ∀ k, p.foot k → w.heap.size ≤ k := by
  have a1 : ¬ (n : Int) < 1 := by omega
  have a2 : (n : Int) ≤ 16384 := by omega
  have a3 : (0 : Int) ≤ n := by omega
  go_enter Try.func19, Try.ntmps19
  go_wp2
  go_region
  all_goals
    go_wp2
    go_ret2
  · refine ⟨⟨w.heap.size + 1 + 1, w.heap.size, w.heap.size + 1, .slice none 0 0⟩, rfl, new_rep h1 h2 (by omega) (by omega) (by omega) (by simp [go_sem]) (by simp [go_sem]) (by simp [go_sem]) (by simp [go_sem]) (by simp [go_sem]) (by simp [go_sem]), ?_, ?_⟩
    · exact ((((Fr.refl _ _).alloc _).alloc _).alloc _).drew
    · rintro k (rfl | rfl | rfl | hk)
      · show _ ≤ w.heap.size + 1 + 1; omega
      · exact Nat.le_refl _
      · show _ ≤ w.heap.size + 1; omega
      · cases hk
  · refine ⟨⟨w.heap.size + 1 + 1, w.heap.size + 1, w.heap.size, .slice none 0 0⟩, rfl, new_rep h1 h2 (by omega) (by omega) (by omega) (by simp [go_sem]) (by simp [go_sem]) (by simp [go_sem]) (by simp [go_sem]) (by simp [go_sem]) (by simp [go_sem]), ?_, ?_⟩
    · exact ((((Fr.refl _ _).alloc _).alloc _).alloc _).drew
    · rintro k (rfl | rfl | rfl | hk)
      · show _ ≤ w.heap.size + 1 + 1; omega
      · show _ ≤ w.heap.size + 1; omega
      · exact Nat.le_refl _
      · cases hk

end Go.Proofs.Ytflnlpbcmcfblaa
