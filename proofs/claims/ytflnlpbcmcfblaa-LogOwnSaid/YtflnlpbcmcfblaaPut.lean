/-
  Package log: put; a head's block.
-/
import Derived.Test.YtflnlpbcmcfblaaAppZ
namespace Go.Proofs.Ytflnlpbcmcfblaa
open Go.RowKit

/-- So many bytes of a number, the lowest first. -/
def leB (n : Nat) : Nat → List UInt8
  | 0 => []
  | k + 1 => leB n k ++ [UInt8.ofNat (n / 256 ^ k)]

theorem leB_len (n : Nat) : ∀ k, (leB n k).length = k
  | 0 => rfl
  | k + 1 => by simp [leB, leB_len n k]

set_option maxRecDepth 20000 in
set_option maxHeartbeats 2000000 in
theorem put_any (w : World) (v : Value) (b0 : List UInt8) (base : Nat) (h : OwnB w v b0 base) (hbase : base ≤ w.heap.size) (n m : Nat) (hn : n < 18446744073709551616) (hm : m ≤ 8) (hb : b0.length ≤ 1000) :
    Calls Try.prog 95 #[v, .int .u64 n, .int .i64 m] w fun e w' => ∃ v', e = .returned v' ∧ OwnB w' v' (b0 ++ leB n m) base ∧ Fr (fun i => v.ownBlock = some i) w w' ∧ (∀ k, v'.ownBlock = some k → v.ownBlock = some k ∨ w.heap.size ≤ k) := by
  have H := Lib.hid h
  have HN := Lib.hid hn
  clear h hn
  go_enter Try.func95, Try.ntmps95
  go_wp2
  go_loopw [0, 1, 8] (fun vb x i wr => ∃ k : Nat, k ≤ m ∧ i = .int .i64 k ∧ x = .int .u64 (n / 256 ^ k : Nat) ∧ OwnB wr vb (b0 ++ leB n k) base ∧ Fr (fun i => v.ownBlock = some i) w wr ∧ Hid (∀ j, vb.ownBlock = some j → v.ownBlock = some j ∨ w.heap.size ≤ j)) (fun _ _ i _ => m - (intOf i).toNat)
  case atStart => exact ⟨0, Nat.zero_le _, rfl, by simp, by simpa [leB] using H.out, Fr.refl _ _, Lib.hid (fun j hj => .inl hj)⟩
  case round =>
    obtain ⟨k, hk, rfl, rfl, ho, hf, hnw⟩ := hrel
    have HO := Lib.hid ho
    have HF := Lib.hid hf
    clear ho hf
    by_cases hlt : k < m
    · have hki : (k : Int) < (m : Int) := by omega
      obtain ⟨x, hx⟩ : ∃ x, n / 256 ^ k = x := ⟨_, rfl⟩
      have HX := Lib.hid hx
      have HX2 := Lib.hid (show n / 256 ^ (k + 1) = x / 256 by rw [← hx, Nat.pow_succ, Nat.div_div_eq_div_mul])
      have HXN := Lib.hid (show x < 18446744073709551616 by have := HN.out; have := Nat.div_le_self n (256 ^ k); omega)
      rw [hx]
      clear hx
      have FA := Lib.hid (show ∀ X, Fr (fun _ => False) wr (wr.alloc X) from fun X => (Fr.refl _ wr).alloc X)
      have BA := Lib.hid (show BytesAt (wr.alloc (.cells #[.int .u8 (IntKind.u8.wrap (x : Int))] 5)) (.slice (some ⟨wr.heap.size, 0, none⟩) 1 1) [UInt8.ofNat x] from
        build_at wr [UInt8.ofNat x] _ (by rw [IntKind.wrap_u8]; simp [bvA, bv]))
      have hsz := HF.out.size
      go_wp2_with (at_builtin; refine wpList_append_B rfl (.tmp 10) (.tmp 13) rfl u0 (b0 ++ leB n k) base rfl (HO.out.keep (FA.out _) (fun _ _ h => h)) (by simp; omega) (.slice (some ⟨wr.heap.size, 0, none⟩) 1 1) [UInt8.ofNat x] rfl BA.out (by simp [leB_len]; omega) ?_; intro v3 w3 o3 f3 x3; have O3 := Lib.hid o3; have F3 := Lib.hid f3; have X3 := Lib.hid x3; clear o3 f3 x3)
      go_roundw
      case rel =>
        refine ⟨k + 1, by omega, by go_num, by rw [HX2.out]; simp, ?_, (HF.out.trans (FA.out _) (fun _ _ h => h.elim)).trans F3.out (fun i hi e => (hnw.out i e).resolve_right (by omega)), Lib.hid (fun j hj => ?_)⟩
        · have := O3.out; rw [List.append_assoc] at this; simpa [leB, HX.out] using this
        · rcases X3.out j hj with e | e
          · exact hnw.out j e
          · simp only [World.size_alloc] at e; right; omega
      case measure => simp [intOf]; omega
    · obtain rfl : k = m := by omega
      go_wp2
      go_ret
      exact ⟨_, rfl, HO.out, HF.out, hnw.out⟩

/-- A head's block. -/
def headB (h : HeadV) : List UInt8 := [75] ++ leB h.turn 8 ++ leB h.life 8 ++ leB h.gen 8 ++ [UInt8.ofNat h.area] ++ List.replicate 38 0

theorem headB_len (h : HeadV) : (headB h).length = 64 := by simp [headB, leB_len]

/-- A block that is being put together, beside the box that it is read off. -/
structure Bld (w0 w : World) (b1 : Nat) (cells : Array Value) (v : Value) (b : List UInt8) : Prop where
  own : OwnB w v b (b1 + 1)
  row : rowOf w b1 = cells
  lt : b1 < w.heap.size
  fr : Fr (fun _ => False) w0 w
  b1g : w0.heap.size ≤ b1

theorem Bld.step {w0 w w' : World} {b1 : Nat} {cells : Array Value} {v v' : Value} {b b' : List UInt8} (h : Bld w0 w b1 cells v b) (o : OwnB w' v' b' (b1 + 1)) (f : Fr (fun i => v.ownBlock = some i) w w') : Bld w0 w' b1 cells v' b' := by
  have hn : ¬ v.ownBlock = some b1 := fun e => by have := (h.own.lt e).1; omega
  exact ⟨o, by rw [f.row h.lt hn]; exact h.row, Nat.lt_of_lt_of_le h.lt f.size, h.fr.trans f (fun i hi e => by have := (h.own.lt e).1; have := h.b1g; omega), h.b1g⟩

theorem bld_put {w0 w : World} {b1 : Nat} {cells : Array Value} {v : Value} {b : List UInt8} (h : Bld w0 w b1 cells v b) (n m : Nat) (hn : n < 18446744073709551616) (hm : m ≤ 8) (hb : b.length ≤ 1000) :
    Calls Try.prog 95 #[v, .int .u64 n, .int .i64 m] w fun e w' => ∃ v', e = .returned v' ∧ Bld w0 w' b1 cells v' (b ++ leB n m) := by
  refine (put_any w v b (b1 + 1) h.own (by have := h.lt; omega) n m hn hm hb).mono ?_
  rintro e w' ⟨v', rfl, o, f, -⟩
  exact ⟨v', rfl, h.step o f⟩

theorem bld_start (w0 w : World) (f : Fr (fun _ => False) w0 w) (cells : Array Value) (t : TypeId) (x : UInt8) (c : Value) (hc : c = bv x) :
    Bld w0 ((w.alloc (.cells cells t)).alloc (.cells #[c] 5)) w.heap.size cells (.slice (some ⟨w.heap.size + 1, 0, none⟩) 1 1) [x] := by
  subst hc
  have e : rowOf ((w.alloc (.cells cells t)).alloc (.cells #[bv x] 5)) (w.heap.size + 1) = #[bv x] := rowOf_alloc_at _ _ _ _ _ (by simp)
  refine ⟨.inr ⟨w.heap.size + 1, [], rfl, Nat.le_refl _, live_alloc_at _ _ _ _ (by simp), by simp [maxLen], by rw [e]; rfl⟩, ?_, by simp; omega, (f.alloc _).alloc _, f.size⟩
  rw [rowOf_alloc_lt _ _ _ (by simp)]
  exact rowOf_alloc_at _ _ _ _ _ rfl

set_option maxRecDepth 20000 in
set_option maxHeartbeats 2000000 in
theorem headBlock_any (w : World) (t l g ar : Nat) (ht : t < 18446744073709551616) (hl : l < 18446744073709551616) (hg : g < 18446744073709551616) (ha : ar ≤ 1) :
    Calls Try.prog 86 #[.agg #[.int .u64 t, .int .u64 l, .int .u64 g, .int .i64 ar]] w fun e w' => ∃ v', e = .returned v' ∧ OwnB w' v' (headB ⟨t, l, g, ar⟩) w.heap.size ∧ Fr (fun _ => False) w w' := by
  have HT := Lib.hid ht
  have HL := Lib.hid hl
  have HG := Lib.hid hg
  clear ht hl hg
  go_enter Try.func86, Try.ntmps86
  go_wp2_with fail
  have B0 := Lib.hid (bld_start w w (Fr.refl _ _) #[.int .u64 t, .int .u64 l, .int .u64 g, .int .i64 ar] 89 75 (.int .u8 75) rfl)
  obtain ⟨b1, hb1⟩ : ∃ b, w.heap.size = b := ⟨_, rfl⟩
  have HB1 := Lib.hid hb1
  rw [hb1] at B0 ⊢
  clear hb1
  show Calls _ _ #[_, _, .int .i64 ((8 : Nat) : Int)] _ _
  refine (bld_put B0.out t 8 HT.out (by omega) (by simp)).mono ?_
  rintro e w1 ⟨v1, rfl, o1⟩
  have B1 := Lib.hid o1
  have r1 := o1.row
  clear o1 B0
  go_wp2_with fail
  show Calls _ _ #[_, _, .int .i64 ((8 : Nat) : Int)] _ _
  refine (bld_put B1.out l 8 HL.out (by omega) (by simp [leB_len])).mono ?_
  rintro e w2 ⟨v2, rfl, o2⟩
  have B2 := Lib.hid o2
  have r2 := o2.row
  clear o2 B1 r1
  go_wp2_with fail
  show Calls _ _ #[_, _, .int .i64 ((8 : Nat) : Int)] _ _
  refine (bld_put B2.out g 8 HG.out (by omega) (by simp [leB_len])).mono ?_
  rintro e w3 ⟨v3, rfl, o3⟩
  have B3 := Lib.hid o3
  have r3 := o3.row
  have FA := Lib.hid (show ∀ X, Fr (fun _ => False) w3 (w3.alloc X) from fun X => (Fr.refl _ w3).alloc X)
  have BA := Lib.hid (show BytesAt (w3.alloc (.cells #[.int .u8 (ar : Int)] 5)) (.slice (some ⟨w3.heap.size, 0, none⟩) 1 1) [UInt8.ofNat ar] from
    build_at w3 [UInt8.ofNat ar] _ (by simp [bvA, bv]; omega))
  have L3 := Lib.hid (show ([75] ++ leB t 8 ++ leB l 8 ++ leB g 8).length = 25 by simp [leB_len])
  have hlt3 := o3.lt
  have L5 := Lib.hid (show ([75] ++ leB t 8 ++ leB l 8 ++ leB g 8 ++ [UInt8.ofNat ar]).length = 26 by simp [leB_len])
  obtain ⟨a3, c3, e3⟩ := o3.own.shape
  rw [L3.out] at e3
  subst e3
  clear o3 B2 r2
  go_wp2_with (at_builtin; first | (refine wpList_append_B rfl (.tmp 17) (.tmp 21) rfl (.slice a3 25 c3) ([75] ++ leB t 8 ++ leB l 8 ++ leB g 8) (b1 + 1) rfl (B3.out.own.keep (FA.out _) (fun _ _ h => h)) (by simp; omega) (.slice (some ⟨w3.heap.size, 0, none⟩) 1 1) [UInt8.ofNat ar] rfl BA.out (by rw [L3.out]; simp) ?_; intro v5 w5 o5 f5 x5; have O5 := Lib.hid o5; have F5 := Lib.hid f5; have hlt5 := Nat.lt_of_lt_of_le hlt3 (Nat.le_trans (FA.out (.cells #[.int .u8 (ar : Int)] 5)).size f5.size); obtain ⟨a5, c5, e5⟩ := o5.shape; rw [L5.out] at e5; subst e5; clear o5 f5 x5) | (refine wpList_append_Z rfl (.tmp 23) (.tmp 26) rfl (.slice a5 26 c5) _ (b1 + 1) rfl O5.out (by omega) 38 rfl (by omega) (by rw [L5.out]; omega) ?_; intro v6 w6 o6 f6 x6; have O6 := Lib.hid o6; have F6 := Lib.hid f6; clear o6 f6 x6))
  go_ret
  have e26 : [75] ++ leB t 8 ++ leB l 8 ++ leB g 8 ++ [UInt8.ofNat ar] ++ List.replicate 38 0 = headB ⟨t, l, g, ar⟩ := rfl
  have hb1 := HB1.out
  have fa := FA.out (.cells #[.int .u8 (ar : Int)] 5)
  refine ⟨v6, rfl, by rw [← e26]; exact O6.out.weaken (by omega), ((B3.out.fr.trans fa (fun _ _ h => h)).trans F5.out (fun i hi e => ?_)).trans F6.out (fun i hi e => ?_)⟩
  · have := (B3.out.own.lt e).1; omega
  · have := (O5.out.lt e).1; omega

end Go.Proofs.Ytflnlpbcmcfblaa
