/-
  The law's scribble: it writes into a record's own memory, or into memory of its own.
-/
import Derived.Test.YtflnlpbcmcfblaaLR
namespace Go.Proofs.Ytflnlpbcmcfblaa
open Go.RowKit

theorem bits_u8 (o : BinOp) (x y : Int) : ∃ z : UInt8, Value.int .u8 (bits o .u8 x y) = bv z := by
  refine ⟨UInt8.ofNat (bits o .u8 x y).toNat, ?_⟩
  have h : 0 ≤ bits o .u8 x y ∧ bits o .u8 x y < 256 := by
    unfold bits
    exact ⟨Int.emod_nonneg _ (by decide), Int.emod_lt_of_pos _ (by decide)⟩
  unfold bv
  rw [UInt8.toNat_ofNat']
  congr 1
  omega

set_option maxRecDepth 20000 in
set_option maxHeartbeats 2000000 in
theorem scribble_any (w : World) (a : Option Addr) (L c : Nat) (b : List UInt8) (h : OwnB w (.slice a L c) b 0) (hL : b.length = L) (hB : L + 1 ≤ 140737488355328) :
    Calls Try.prog 50 #[.slice a L c] w fun e w' => e = .returned (.tuple #[]) ∧ Fr (fun i => (Value.slice a L c).ownBlock = some i) w w' := by
  have H := Lib.hid h
  clear h
  go_enter Try.func50, Try.ntmps50
  go_wp2
  go_loopw [2, 5] (fun _ i wr => ∃ (k : Nat) (b' : List UInt8), k ≤ L ∧ i = .int .i64 k ∧ b'.length = L ∧ OwnB wr (.slice a L c) b' 0 ∧ Fr (fun i => (Value.slice a L c).ownBlock = some i) w wr) (fun _ i _ => L - (intOf i).toNat)
  case atStart => exact ⟨0, b, Nat.zero_le _, rfl, hL, H.out, Fr.refl _ _⟩
  case round =>
    obtain ⟨k, b', hk, rfl, hb', ho, hf⟩ := hrel
    have HO := Lib.hid ho
    have HF := Lib.hid hf
    have HB' := Lib.hid hb'
    clear ho hf
    by_cases hlt : k < L
    · have hki : (k : Int) < (L : Int) := by omega
      obtain ⟨g, ext, e, h1, h2, h3, h4⟩ := HO.out.own (by omega)
      simp only [Value.slice.injEq] at e
      obtain ⟨rfl, -, e3⟩ := e
      have hkz : k < (rowOf wr g).size := by rw [h4, bvA_size, List.length_append]; omega
      have hn2 : (rowOf wr g)[k] = bv b'[k] := by
        have : (rowOf wr g)[k]? = some (bv b'[k]) := by rw [h4, bvA_get, List.getElem?_append_left (by omega), List.getElem?_eq_getElem (by omega)]; rfl
        rw [Array.getElem?_eq_getElem hkz] at this; exact Option.some.inj this
      obtain ⟨x, hx⟩ : ∃ x, b'[k] = x := ⟨_, rfl⟩
      rw [hx] at hn2
      have H4 := Lib.hid h4
      have H3 := Lib.hid (And.intro h1 h3)
      unfold bv at hn2
      clear h4 hx h3 h1 hb' hL
      go_wp2
      go_roundw
      case rel =>
        obtain ⟨z, hz⟩ := bits_u8 BinOp.xor (x.toNat : Int) 255
        rw [hz]
        refine ⟨k + 1, b'.set k z, by omega, by go_num, by rw [List.length_set]; exact HB'.out, .inr ⟨g, ext, ?_, H3.out.1, by rw [live_setRow]; exact h2, by rw [List.length_set]; exact H3.out.2, ?_⟩, HF.out.trans ((Fr.refl (fun i => (Value.slice (some ⟨g, 0, none⟩) L c).ownBlock = some i) wr).setRow _ _ (fun _ => rfl)) (fun _ _ h => h)⟩
        · rw [List.length_set, HB'.out, e3, HB'.out]
        · rw [rowOf_setRow_same _ _ _ h2, H4.out]
          have hkb : k < b'.length := by rw [HB'.out]; exact hlt
          apply Array.ext'
          simp [bvA, hkb, ← List.map_set]
      case measure => simp [intOf]; omega
    · obtain rfl : k = L := by omega
      have hsz : 0 ≤ wr.heap.size := Nat.zero_le _
      go_wp2_with (at_builtin; refine wpList_append_B rfl (.tmp 15) (.tmp 16) rfl (.slice a k c) b' 0 rfl (HO.out.keep ((Fr.refl (fun _ => False) wr).alloc _) (fun _ _ h => h)) (Nat.zero_le _) (.slice (some ⟨wr.heap.size, 0, none⟩) 1 1) [77] rfl (build_at wr [77] _ rfl) (by rw [HB'.out]; simpa using hB) ?_; intro v7 w7 o7 f7 n7; obtain ⟨g7, ext7, e7, h71, h72, h73, h74⟩ := o7.own (by simp); obtain ⟨c7, hc7⟩ : ∃ c7, (b' ++ [77]).length + ext7.length = c7 := ⟨_, rfl⟩; have hl7 : (b' ++ [(77 : UInt8)]).length = k + 1 := (by rw [List.length_append, HB'.out]; rfl); rw [hc7, hl7] at e7; subst e7; have hkz7 : k < (rowOf w7 g7).size := (by rw [h74, bvA_size, List.length_append, hl7]; omega); have hn7 : (rowOf w7 g7)[k] = .int .u8 77 := (by have hq : (rowOf w7 g7)[k]? = some (bv 77) := (by rw [h74, bvA_get, List.getElem?_append_left (by rw [hl7]; omega), List.getElem?_append_right (by rw [HB'.out]; exact Nat.le_refl _), HB'.out, Nat.sub_self]; rfl); rw [Array.getElem?_eq_getElem hkz7] at hq; exact Option.some.inj hq); have F7 := Lib.hid f7; have N7 := Lib.hid (n7 g7 rfl); clear o7 f7 n7 h71 h73 h74 hc7 hl7)
      go_end0
      have FA := (HF.out.trans ((Fr.refl (fun _ => False) wr).alloc (.cells #[.int .u8 77] 5)) (fun _ _ h => h.elim)).trans F7.out (fun _ _ h => h)
      have hw := HF.out.size
      exact ⟨rfl, FA.setRow _ _ (fun hlt => N7.out.resolve_right (by simp; omega))⟩

end Go.Proofs.Ytflnlpbcmcfblaa
