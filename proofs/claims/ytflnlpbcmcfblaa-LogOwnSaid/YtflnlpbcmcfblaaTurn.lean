/-
  Package log: turn writes the head anew.
-/
import Derived.Test.YtflnlpbcmcfblaaWriteL
namespace Go.Proofs.Ytflnlpbcmcfblaa
open Go.RowKit

/-- A log's struct. -/
def logRow (d : Nat) (h : HeadV) (slot size used records : Nat) (over : Bool) (bm : Nat) : Array Value :=
  #[.pointer (some ⟨d, 0, none⟩), .int .u64 h.turn, .int .u64 h.life, .int .u64 h.gen, .int .i64 h.area, .int .i64 slot, .int .i64 size, .int .i64 used, .int .i64 records, .bool over, .map (some bm)]

theorem one_block {w : World} {v : Value} {b : List UInt8} {base : Nat} (h : OwnB w v b base) (hb : base ≤ w.heap.size) (t : TypeId) : AllAt (w.alloc (.cells #[v] t)) (.slice (some ⟨w.heap.size, 0, none⟩) 1 1) [b] base := by
  have e : rowOf (w.alloc (.cells #[v] t)) w.heap.size = #[v] := rowOf_alloc_at _ _ _ _ _ rfl
  refine ⟨w.heap.size, 0, 1, rfl, Nat.le_refl _, hb, by rw [e]; simp, fun i hi => ?_⟩
  obtain rfl : i = 0 := by simpa using hi
  exact ⟨v, by rw [e]; rfl, h.keep ((Fr.refl (fun _ => False) w).alloc _) (fun _ _ h => h)⟩

set_option maxRecDepth 20000 in
set_option maxHeartbeats 4000000 in
theorem turn_any (w0 w : World) (p : DP) (S : DS) (h : St w0 w p S) (bl : Nat) (t l g ar slot size used records : Nat) (over : Bool) (bm : Nat) (hrow : rowOf w bl = logRow p.d ⟨t, l, g, ar⟩ slot size used records over bm) (hlv : live w bl = true) (hnf : ¬ p.foot bl)
    (hbl : w0.heap.size ≤ bl) (_ht : t < 18446744073709551616) (hl : l < 18446744073709551616) (hg : g < 18446744073709551616) (ha : ar ≤ 1) (hs : slot ≤ 1) (hm : S.pend.length ≤ 1099511627776) :
    Calls Try.prog 84 #[.pointer (some ⟨bl, 0, none⟩)] w fun e w' => ∃ p', p'.d = p.d ∧ e = .returned (.int .i64 (S.writeSeq slot [headB ⟨(t + 1) % 18446744073709551616, l, g, ar⟩]).1) ∧ DiskRep w' p' (S.writeSeq slot [headB ⟨(t + 1) % 18446744073709551616, l, g, ar⟩]).2 ∧
      rowOf w' bl = logRow p.d ⟨(t + 1) % 18446744073709551616, l, g, ar⟩ (1 - slot) size used records over bm ∧ live w' bl = true ∧ Moves (fun k => p.foot k ∨ k = bl) (fun k => p'.foot k ∨ k = bl) w w' ∧ ¬ p'.foot bl ∧ (∀ k, p'.foot k → p.foot k ∨ w.heap.size ≤ k) := by
  unfold logRow at hrow ⊢
  simp only at hrow ⊢
  have H := Lib.hid h
  have HL := Lib.hid hl
  have HG := Lib.hid hg
  have HM := Lib.hid hm
  have HT := Lib.hid (show (t + 1) % 18446744073709551616 < 18446744073709551616 by omega)
  have hw : IntKind.u64.wrap ((t : Int) + 1) = (((t + 1) % 18446744073709551616 : Nat) : Int) := by rw [IntKind.wrap_u64]; omega
  obtain ⟨T1, hT1⟩ : ∃ T1, (t + 1) % 18446744073709551616 = T1 := ⟨_, rfl⟩
  rw [hT1] at HT hw ⊢
  clear hT1
  have hlt := live_lt hlv
  clear h hl hg hm
  go_enter Try.func84, Try.ntmps84
  go_wp2
  obtain ⟨W1, hW1⟩ : ∃ W1, w.setRow bl #[.pointer (some ⟨p.d, 0, none⟩), .int .u64 T1, .int .u64 l, .int .u64 g, .int .i64 ar, .int .i64 slot, .int .i64 size, .int .i64 used, .int .i64 records, .bool over, .map (some bm)] = W1 := ⟨_, rfl⟩
  have F1 := Lib.hid (show Fr (fun k => k = bl) w W1.drew by rw [← hW1]; exact ((Fr.refl (fun k => k = bl) w).setRow _ _ (fun _ => rfl)).drew)
  have hr1 : rowOf W1 bl = #[.pointer (some ⟨p.d, 0, none⟩), .int .u64 T1, .int .u64 l, .int .u64 g, .int .i64 ar, .int .i64 slot, .int .i64 size, .int .i64 used, .int .i64 records, .bool over, .map (some bm)] := by rw [← hW1]; exact rowOf_setRow_same _ _ _ hlv
  have S1 := Lib.hid (H.out.calm F1.out (fun k hk => by subst hk; exact ⟨hbl, hnf⟩))
  have L1 := Lib.hid (show live W1.drew bl = true by rw [live_drew, ← hW1, live_setRow]; exact hlv)
  have hlt1 : bl < W1.drew.heap.size := live_lt L1.out
  have PM := Lib.hid (show ∀ k, p.foot k → k < w.heap.size from fun k hk => H.out.lt hk)
  rw [hW1]
  clear hW1 hrow
  go_region_held3 (fun w' => rowOf w' bl = #[.pointer (some ⟨p.d, 0, none⟩), .int .u64 T1, .int .u64 l, .int .u64 g, .int .i64 ar, .int .i64 slot, .int .i64 size, .int .i64 used, .int .i64 records, .bool over, .map (some bm)])
    (first | assumption | (rw [rowOf_drew]; exact hr1) | (rw [rowOf_alloc_lt _ _ _ hlt3]; assumption))
    (first | (go_simp; go_at_call 86; refine (headBlock_any _ T1 l g ar HT.out HL.out HG.out ha).mono ?_; rintro e w3 ⟨v3, rfl, o3, f3⟩; have O3 := Lib.hid o3; have F3 := Lib.hid f3; have K3 := (f3.row hlt1 (fun h => h)).trans ((rowOf_drew _ _).trans hr1); have hlt3 := Nat.lt_of_lt_of_le hlt1 f3.size; obtain ⟨a3, c3, e3⟩ := o3.shape; rw [headB_len] at e3; subst e3; clear o3 f3) | (go_simp; go_at_call 85; refine (writeL_any w0 _ p S ((S1.out.calm F3.out (fun _ h => h.elim)).calm ((Fr.refl (fun _ => False) w3).alloc _) (fun _ h => h.elim)) slot _ [headB ⟨T1, l, g, ar⟩] W1.drew.heap.size (one_block O3.out F3.out.size 36) (by simp) (by simp) (by omega) (fun k hk _ hf => by have := PM.out k hf; have := F1.out.size; omega) HM.out).mono ?_; rintro e w5 ⟨p5, hp5, rfl, s5, m5⟩; have M5 := Lib.hid m5; have S5 := Lib.hid s5; have P5 := Lib.hid hp5; have K5 := (m5.fr.row (g := bl) (by simp; omega) hnf).trans ((rowOf_alloc_lt _ _ _ hlt3).trans K3); have L5 := (m5.fr.liv (g := bl) (by simp; omega) hnf).trans ((live_alloc_lt _ _ _ hlt3).trans ((F3.out.liv hlt1 (fun h => h)).trans L1.out)); clear m5 s5 hp5))
  all_goals
    have hb5 := live_lt L5
    go_wp2
    go_ret
    have e1 : ((1 - slot : Nat) : Int) = 1 - (slot : Int) := by omega
    have FX := (Fr.refl (fun k => k = bl) w5).setRow bl #[.pointer (some ⟨p.d, 0, none⟩), .int .u64 T1, .int .u64 l, .int .u64 g, .int .i64 ar, .int .i64 (1 - slot), .int .i64 size, .int .i64 used, .int .i64 records, .bool over, .map (some bm)] (fun _ => rfl)
    have nf5 : ¬ p5.foot bl := fun e => (M5.out.new bl e).elim hnf (fun h => by simp at h; omega)
    have f3 := (F3.out.trans ((Fr.refl (fun _ => False) w3).alloc (.cells #[.slice a3 64 c3] 36)) (fun _ _ h => h))
    have s1 := F1.out.size
    have s3 := f3.size
    refine ⟨p5, P5.out, rfl, S5.out.rep.keep FX (fun k hk e => nf5 (e ▸ hk)), by rw [rowOf_setRow_same _ _ _ L5, e1], by rw [live_setRow]; exact L5, ⟨?_, fun k hk => ?_⟩, nf5, fun k hk => (M5.out.new k hk).imp id (fun h => by omega)⟩
    · exact (((F1.out.mono (fun k _ h => .inr h)).trans (f3.mono (fun _ _ h => h.elim)) (fun _ _ h => h)).trans (M5.out.fr.mono (fun k _ h => .inl h)) (fun i hi h => h)).trans (FX.mono (fun k _ h => .inr h)) (fun i hi h => h)
    · rcases hk with hk | hk
      · exact (M5.out.new k hk).elim (fun h => .inl (.inl h)) (fun h => .inr (by omega))
      · exact .inl (.inr hk)

end Go.Proofs.Ytflnlpbcmcfblaa
