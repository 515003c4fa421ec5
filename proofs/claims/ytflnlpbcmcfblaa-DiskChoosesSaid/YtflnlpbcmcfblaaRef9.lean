/-
  The reference of package disk: Image.
-/
import Derived.Test.YtflnlpbcmcfblaaRef8
namespace Go.Proofs.Ytflnlpbcmcfblaa
open Go.RowKit

set_option maxRecDepth 20000 in
set_option maxHeartbeats 4000000 in
theorem rimage_any (w : World) (f : Nat → Prop) (r gd gt : Nat) (S : DS) (h : RRep w f r gd gt S) :
    Calls Try.prog 71 #[.pointer (some ⟨r, 0, none⟩)] w fun e w' => ∃ vi vt, e = .returned (.tuple #[vi, vt]) ∧ OwnB w' vi S.img w.heap.size ∧ OwnRows w' vt 1 (iRows S.tornL) w.heap.size ∧ Fr (fun _ => False) w w' := by
  obtain ⟨cd, ct, wv, hrow⟩ := h.row
  have H := Lib.hid h
  have HROW := Lib.hid hrow
  have n1 := h.ok.n1
  clear h hrow
  go_enter Try.func71, Try.ntmps71
  go_wp2
  go_loopw [4, 5, 6] (fun b t i wr => ∃ (k : Nat) (vb vt : Value), k ≤ S.data.length ∧ vb = b ∧ vt = t ∧ i = .int .i64 k ∧ OwnB wr vb (S.chunks.take k).flatten w.heap.size ∧ OwnRows wr vt 1 (iRows (tornUpto S.torn k)) w.heap.size ∧
      (∀ j, vb.ownBlock = some j → vt.ownBlock ≠ some j) ∧ Fr (fun _ => False) w wr) (fun _ _ i _ => S.data.length - (intOf i).toNat)
  case atStart => exact ⟨0, _, _, Nat.zero_le _, rfl, rfl, rfl, OwnB.nil _ _, OwnRows.nil _ _ _, fun j hj => by (cases hj), Fr.refl _ _⟩
  case round =>
    obtain ⟨k, vb, vt, hk, rfl, rfl, rfl, hb, ht, hne, hf⟩ := hrel
    have HF := Lib.hid hf
    have HBB := Lib.hid hb
    have HTT := Lib.hid ht
    have HNE := Lib.hid hne
    have HR := Lib.hid (H.out.keep hf (fun _ _ h => h))
    have hrow := (hf.row (live_lt H.out.lr) (fun h => h)).trans HROW.out
    have lr := HR.out.lr
    clear hb ht hne hf
    by_cases hlt : k < S.data.length
    · have hki : (k : Int) < (S.data.length : Int) := by omega
      have hkc : k < S.chunks.length := by rw [DS.chunks_len H.out.ok]; exact hlt
      have hkt : k < S.torn.length := by rw [H.out.ok.tl]; exact hlt
      obtain ⟨u, c0, ou, -⟩ := HR.out.data k hkc
      have t0 := HR.out.torn k hkt
      have c64 := DS.chunk64 H.out.ok _ (List.getElem_mem hkc)
      have OU := Lib.hid ou
      have TK := Lib.hid (show (S.chunks.take (k + 1)).flatten = (S.chunks.take k).flatten ++ S.chunks[k] by rw [List.take_succ_eq_append_getElem hkc, List.flatten_append]; simp only [List.flatten_cons, List.flatten_nil, List.append_nil])
      have LK := Lib.hid (show (S.chunks.take k).flatten.length ≤ 1048576 by
        rw [flat64 (fun c hc => DS.chunk64 H.out.ok c (List.mem_of_mem_take hc))]
        have := List.length_take_le k S.chunks
        omega)
      have C64 := Lib.hid c64
      have HTS := Lib.hid (tornUpto_succ S.torn k)
      have Htk := Lib.hid (List.getElem?_eq_getElem hkt)
      have hlen := Lib.hid (show (iRows (tornUpto S.torn k)).length ≤ 16384 by rw [iRows_len]; have := tornUpto_len S.torn k; omega)
      have hs0 := HF.out.size
      clear ou c64
      have hrr : r < wr.heap.size := live_lt lr
      have hgt : gt < wr.heap.size := live_lt HR.out.lt
      have hvr : ∀ j, vb.ownBlock = some j → ¬ j = r := fun j hj e => by have := (HBB.out.lt hj).1; have := live_lt H.out.lr; omega
      have hvt : ∀ j, vb.ownBlock = some j → ¬ j = gt := fun j hj e => by have := (HBB.out.lt hj).1; have := live_lt H.out.lt; omega
      cases htt : S.torn[k] with
      | true =>
        rw [htt] at t0
        have HT := Lib.hid htt
        clear htt
        go_wp2_with (at_builtin; first | (refine wpList_append_B rfl (.tmp 16) (.tmp 23) rfl vb _ w.heap.size rfl HBB.out HF.out.size u S.chunks[k] rfl OU.out.at_ (by have := LK.out; have := C64.out; omega) ?_; intro v3 w3 o3 f3 x3; have O3 := Lib.hid o3; have F3 := Lib.hid f3; have X3 := Lib.hid x3; have r3 := (F3.out.row hrr (fun e => hvr _ e rfl)).trans hrow; have l3 := (F3.out.liv hrr (fun e => hvr _ e rfl)).trans lr; have t3 : (rowOf w3 gt)[k]? = _ := (congrArg (fun x : Array Value => x[k]?) (F3.out.row hgt (fun e => hvt _ e rfl))).trans t0; clear o3 f3 x3) | (refine wpList_append_one rfl (.tmp 32) (.tmp 34) 23 rfl 3 _ 1 8 Try.underlying23 ti3 vt _ w.heap.size rfl ((HTT.out.keep F3.out (fun j hj e => HNE.out j e hj)).keep ((Fr.refl (fun _ => False) w3).alloc _) (fun _ _ h => h)) (by have := F3.out.size; simp; omega) w3.heap.size 1 rfl #[.int .i64 (k : Int)] (by simp [go_sem]) (by simp [go_sem]) (by intro y hy; simp at hy; subst hy; rfl) (iRows_size _) (by have := hlen.out; simp only [maxLen]; omega) (fitsN (by have := hlen.out; omega) (by omega)) ?_; intro g' cap' w4 ho4 f4 hn4; have HO4 := Lib.hid ho4; have F4 := Lib.hid (((Fr.refl (fun i => vt.ownBlock = some i) w3).alloc (.cells #[.int .i64 (k : Int)] 3)).trans f4 (fun _ _ h => h)); have N4 := Lib.hid hn4; clear ho4 f4 hn4))
        go_roundw
        case rel =>
          have eT : iRows (tornUpto S.torn (k + 1)) = iRows (tornUpto S.torn k) ++ [#[.int .i64 (k : Int)]] := by
            rw [HTS.out, Htk.out, HT.out]; simp [iRows]
          have hv3 : ∀ j, v3.ownBlock = some j → vt.ownBlock ≠ some j := fun j hj e => (X3.out j hj).elim (fun h => HNE.out j h e) (fun h => by have := (HTT.out.lt e).2; omega)
          refine ⟨k + 1, v3, _, by omega, rfl, rfl, by go_num, ?_, ?_, ?_, ?_⟩
          · rw [TK.out]; exact O3.out.keep F4.out (fun j hj e => hv3 j hj e)
          · rw [eT]; exact HO4.out
          · intro j hj e
            have e2 : g' = j := by simpa [Value.ownBlock] using e
            subst e2
            rcases N4.out with h | h
            · exact hv3 _ hj h
            · have := (O3.out.lt hj).2
              simp only [World.size_alloc] at h
              omega
          · refine (HF.out.trans F3.out (fun i hi e => ?_)).trans F4.out (fun i hi e => ?_)
            · have := (HBB.out.lt e).1; omega
            · have := (HTT.out.lt e).1; omega
        case measure => simp [intOf]; omega
      | false =>
        rw [htt] at t0
        have HT := Lib.hid htt
        clear htt
        go_wp2_with (at_builtin; (refine wpList_append_B rfl (.tmp 16) (.tmp 23) rfl vb _ w.heap.size rfl HBB.out HF.out.size u S.chunks[k] rfl OU.out.at_ (by have := LK.out; have := C64.out; omega) ?_; intro v3 w3 o3 f3 x3; have O3 := Lib.hid o3; have F3 := Lib.hid f3; have X3 := Lib.hid x3; have r3 := (F3.out.row hrr (fun e => hvr _ e rfl)).trans hrow; have l3 := (F3.out.liv hrr (fun e => hvr _ e rfl)).trans lr; have t3 : (rowOf w3 gt)[k]? = _ := (congrArg (fun x : Array Value => x[k]?) (F3.out.row hgt (fun e => hvt _ e rfl))).trans t0; clear o3 f3 x3))
        go_roundw
        case rel =>
          have eT : tornUpto S.torn (k + 1) = tornUpto S.torn k := by rw [HTS.out, Htk.out, HT.out]; rfl
          have hv3 : ∀ j, v3.ownBlock = some j → vt.ownBlock ≠ some j := fun j hj e => (X3.out j hj).elim (fun h => HNE.out j h e) (fun h => by have := (HTT.out.lt e).2; omega)
          refine ⟨k + 1, v3, vt, by omega, rfl, rfl, by go_num, by rw [TK.out]; exact O3.out, ?_, hv3, HF.out.trans F3.out (fun i hi e => by have := (HBB.out.lt e).1; omega)⟩
          rw [eT]; exact HTT.out.keep F3.out (fun j hj e => HNE.out j e hj)
        case measure => simp [intOf]; omega
    · obtain rfl : k = S.data.length := by omega
      go_wp2
      go_ret2
      refine ⟨vb, vt, rfl, ?_, ?_, HF.out⟩
      · have := HBB.out
        rwa [List.take_of_length_le (by rw [DS.chunks_len H.out.ok]; exact Nat.le_refl _)] at this
      · have e : tornUpto S.torn S.data.length = S.tornL := by rw [← H.out.ok.tl]; rfl
        rw [← e]; exact HTT.out

end Go.Proofs.Ytflnlpbcmcfblaa
