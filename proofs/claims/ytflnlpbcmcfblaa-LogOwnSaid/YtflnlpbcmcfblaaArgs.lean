/-
  What came in, as the walks take it: bytes, ints.
-/
import Derived.Test.YtflnlpbcmcfblaaBytes
namespace Go.Proofs.Ytflnlpbcmcfblaa
open Go.RowKit

theorem cell_row {w : World} {x : Addr} {v : Value} (h : w.cell? x = some v) : x.spot = none ∧ (rowOf w x.block)[x.off]? = some v := by
  unfold World.cell? at h
  unfold rowOf
  split at h
  · rename_i c t fr hh
    rw [hh]
    split at h
    · cases h
    · rename_i hs
      exact ⟨by simpa using hs, h⟩
  · cases h

theorem addr_plain {x : Addr} (h : x.spot = none) : x = ⟨x.block, x.off, none⟩ := by cases x; simp at h; simp [h]

/-- The cells of a slice that came in. -/
theorem cells_of {w : World} {x : Addr} {k : IntKind} {zs : List Int} (h : ∀ i, i < zs.length → w.cell? (x.add i) = some (.int k (zs.getD i 0))) (h0 : 0 < zs.length) :
    x.spot = none ∧ ∀ i (hi : i < zs.length), (rowOf w x.block)[x.off + i]? = some (.int k zs[i]) := by
  have hs := (cell_row (h 0 h0)).1
  have hs : x.spot = none := by simpa [Addr.add] using hs
  refine ⟨hs, fun i hi => ?_⟩
  have h1 := h i hi
  rw [addr_plain hs, Addr.add_lit] at h1
  have := (cell_row h1).2
  simpa [List.getElem?_eq_getElem hi] using this

def byteOf (n : Int) : UInt8 := UInt8.ofNat n.toNat
theorem byteOf_bv {n : Int} (h : (Lit.int .u8 n).wf = true) : bv (byteOf n) = .int .u8 n := by
  have : 0 ≤ n ∧ n < 256 := by
    simp only [Lit.wf, Bool.and_eq_true, decide_eq_true_eq] at h
    have e1 : IntKind.u8.min = 0 := by decide
    have e2 : IntKind.u8.max = 255 := by decide
    omega
  unfold bv byteOf
  congr 1
  simp [UInt8.ofNat, UInt8.toNat]
  omega

theorem bytes_of_row {w : World} {a : Option Addr} {len cap : Nat} {zs : List Int}
    (h : (a = none ∧ len = 0 ∧ cap = 0 ∧ zs = []) ∨ ∃ x, a = some x ∧ len ≤ cap ∧ cap ≤ maxLen ∧ zs.length = cap ∧ (∀ i, i < zs.length → w.cell? (x.add i) = some (.int .u8 (zs.getD i 0))) ∧ ∀ n ∈ zs, (Lit.int .u8 n).wf = true) :
    ∃ A : List UInt8, A.length = len ∧ BytesAt w (.slice a A.length cap) A := by
  rcases h with ⟨rfl, rfl, rfl, rfl⟩ | ⟨x, rfl, h1, h2, h3, h4, h5⟩
  · exact ⟨[], rfl, _, _, rfl, .inl rfl⟩
  · have hl : ((zs.take len).map byteOf).length = len := by simp; omega
    refine ⟨(zs.take len).map byteOf, hl, _, _, rfl, ?_⟩
    by_cases h0 : len = 0
    · left; apply List.eq_nil_of_length_eq_zero; omega
    · right
      obtain ⟨hs, hc⟩ := cells_of h4 (by omega)
      refine ⟨x.block, x.off, by rw [← addr_plain hs], ?_, ?_⟩
      · rw [hl]
        have := (Array.getElem?_eq_some_iff.1 (hc (len - 1) (by omega))).1
        omega
      · rw [hl]
        refine cut_ext (by rw [bvA_size, hl]) ?_ (fun i hi => ?_)
        · have := (Array.getElem?_eq_some_iff.1 (hc (len - 1) (by omega))).1
          omega
        · rw [hc i (by omega), bvA_get, List.getElem?_map, List.getElem?_take_of_lt hi, List.getElem?_eq_getElem (by omega)]
          have hz : i < zs.length := by omega
          have := byteOf_bv (h5 _ (List.getElem_mem hz))
          simp [this]

theorem ints_of_row {w : World} {a : Option Addr} {len cap : Nat} {zs : List Int}
    (h : (a = none ∧ len = 0 ∧ cap = 0 ∧ zs = []) ∨ ∃ x, a = some x ∧ len ≤ cap ∧ cap ≤ maxLen ∧ zs.length = cap ∧ (∀ i, i < zs.length → w.cell? (x.add i) = some (.int .i64 (zs.getD i 0))) ∧ ∀ n ∈ zs, (Lit.int .i64 n).wf = true) :
    ∃ l : List Int, l.length = len ∧ IntsAt w (.slice a l.length cap) l := by
  rcases h with ⟨rfl, rfl, rfl, rfl⟩ | ⟨x, rfl, h1, h2, h3, h4, h5⟩
  · exact ⟨[], rfl, _, _, rfl, by simp, .inl rfl⟩
  · have hl : (zs.take len).length = len := by simp; omega
    refine ⟨zs.take len, hl, _, _, rfl, by simp only [maxLen] at h2; omega, ?_⟩
    by_cases h0 : len = 0
    · left; apply List.eq_nil_of_length_eq_zero; omega
    · right
      obtain ⟨hs, hc⟩ := cells_of h4 (by omega)
      refine ⟨x.block, x.off, by rw [← addr_plain hs], fun i hi => ?_⟩
      rw [hc i (by omega)]
      simp

end Go.Proofs.Ytflnlpbcmcfblaa
