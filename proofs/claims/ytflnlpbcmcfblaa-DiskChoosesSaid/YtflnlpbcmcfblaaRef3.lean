/-
  The reference of package disk: tear, Write.
-/
import Derived.Test.YtflnlpbcmcfblaaRef2
namespace Go.Proofs.Ytflnlpbcmcfblaa
open Go.RowKit

def DS.tearN (S : DS) (n : Nat) : DS := { S with torn := S.torn.set n true }

theorem tearN_ok {S : DS} (h : S.Ok) (n : Nat) : (S.tearN n).Ok := ⟨h.n0, h.n1, by simp [DS.tearN, h.tl], h.dl, h.pe, h.l0, h.l1⟩

theorem made_zeros (w : World) : OwnBytes (w.alloc (.cells (Array.replicate 64 (.int .u8 0)) 5)) (.slice (some ⟨w.heap.size, 0, none⟩) 64 64) zeros64 w.heap.size := by
  refine ⟨w.heap.size, [], by simp [zeros64], Nat.le_refl _, live_alloc_at _ _ _ _ rfl, by simp [zeros64, maxLen], ?_⟩
  rw [rowOf_alloc_at _ _ _ _ _ rfl, List.append_nil]
  unfold zeros64 bvA bv
  rw [List.map_replicate, List.toArray_replicate]
  rfl

set_option maxRecDepth 20000 in
set_option maxHeartbeats 2000000 in
theorem rtear_any (w : World) (f : Nat → Prop) (r gd gt : Nat) (S : DS) (h : RRep w f r gd gt S) (n : Nat) (hn : n < S.data.length) :
    Calls Try.prog 70 #[.pointer (some ⟨r, 0, none⟩), .int .i64 n] w fun e w' => e = .returned (.tuple #[]) ∧ ∃ f', RRep w' f' r gd gt (S.tearN n) ∧ Moves f f' w w' := by
  have H := Lib.hid h
  obtain ⟨cd, ct, wv, hr, -⟩ := h.ex
  have hlr := h.lr
  have hlt := h.lt
  have hld := h.ld
  have lr := live_lt hlr
  have lt := live_lt hlt
  have ld := live_lt hld
  have n1 := h.n1
  have n2 := h.n2
  have n3 := h.n3
  have htn : n < S.torn.length := by rw [h.ok.tl]; exact hn
  have ct0 := h.torn n htn
  obtain ⟨u0, cd0, -⟩ := h.data n (by rw [DS.chunks_len h.ok]; exact hn)
  have hni : (n : Int) < (S.data.length : Int) := by omega
  have n1' : gd ≠ r := fun e => n1 e.symm
  have n2' : gt ≠ r := fun e => n2 e.symm
  have n3' : gt ≠ gd := fun e => n3 e.symm
  clear h
  go_enter Try.func70, Try.ntmps70
  go_wp2
  obtain ⟨W1, hW1⟩ : ∃ W1, w.setRow gt ((rowOf w gt).setIfInBounds n (Value.bool true)) = W1 := ⟨_, rfl⟩
  have F1 := Lib.hid (show Fr (fun k => k = gt) w W1 by rw [← hW1]; exact (Fr.refl (fun k => k = gt) w).setRow _ _ (fun _ => rfl))
  have T1 := Lib.hid (show rowOf W1 gt = (rowOf w gt).setIfInBounds n (.bool true) ∧ live W1 gt = true by rw [← hW1]; simp [go_sem, hlt])
  have sz1 : W1.heap.size = w.heap.size := by rw [← hW1]; simp
  rw [hW1]
  clear hW1 ct0 hlt
  have r1 := (F1.out.row lr n2).trans hr
  have l1 := (F1.out.liv ld n3).trans hld
  have c1 : (rowOf W1 gd)[n]? = some u0 := by rw [F1.out.row ld n3]; exact cd0
  clear hr hlr hld cd0
  go_region
  go_end0
  have eW : w.heap.size = W1.heap.size := sz1.symm
  rw [eW]
  have FW : Fr (fun k => k = gd ∨ k = gt) w (((W1.alloc (Obj.cells (Array.replicate 64 (Value.int IntKind.u8 0)) 5)).setRow gd ((rowOf W1 gd).setIfInBounds n (Value.slice (some { block := W1.heap.size, off := 0 }) 64 64))).drew) :=
    (((F1.out.mono (fun _ _ h => .inr h)).alloc _).setRow _ _ (fun _ => .inl rfl)).drew
  have MZ := made_zeros W1
  have hu : OwnBytes (((W1.alloc (Obj.cells (Array.replicate 64 (Value.int IntKind.u8 0)) 5)).setRow gd ((rowOf W1 gd).setIfInBounds n (Value.slice (some { block := W1.heap.size, off := 0 }) 64 64))).drew) (.slice (some { block := W1.heap.size, off := 0 }) 64 64) zeros64 w.heap.size :=
    (MZ.keep ((Fr.refl (fun k => k = gd) _).setRow _ _ (fun _ => rfl)).drew (fun k hk e => by have := (MZ.lt hk).1; omega)).weaken (by omega)
  have gd1 : gd < W1.heap.size := by omega
  have gt1 : gt < W1.heap.size := by omega
  refine ⟨rfl, _, H.out.put (t := true) (tearN_ok H.out.ok n) rfl rfl rfl rfl rfl rfl (chunks_tear n hn) rfl hu ?_ ?_ FW ?_ ?_, put_moves H.out.fd H.out.ft FW⟩
  · rw [rowOf_drew, rowOf_setRow_same _ _ _ (by rw [live_alloc_lt _ _ _ gd1]; exact l1), F1.out.row ld n3]
  · rw [rowOf_drew, rowOf_setRow_ne _ _ _ _ n3', rowOf_alloc_lt _ _ _ gt1, T1.out.1]
  · rw [live_drew, live_setRow, live_alloc_lt _ _ _ gd1]; exact l1
  · rw [live_drew, live_setRow, live_alloc_lt _ _ _ gt1]; exact T1.out.2

end Go.Proofs.Ytflnlpbcmcfblaa
