/-
  The reference of package disk: New's walk.
-/
import Derived.Test.YtflnlpbcmcfblaaRef11
namespace Go.Proofs.Ytflnlpbcmcfblaa
open Go.RowKit

def app29 (ty : TypeId) (x y : Value) : Sem Value := Builtin.append_ #[29, 29] ty #[x, y]
@[go_sem ↓ high] theorem execOp_app29 (ρ : Operand → Value) (dst : Option Tmp) (x y : Operand) (type : TypeId) (pos : String) (after : Array Edge) (guard : Option (Nat × Bool)) :
    execOp ρ { dst, op := .call { callee := .builtin .append, args := #[x, y], argTypes := #[29, 29] }, type, pos, after, guard } = (do pure (.value (← app29 type (ρ x) (ρ y)))) := by
  simp [execOp, resolve, invoke, builtin, app29]
attribute [go_sem high] execOp_app29

theorem rep64 : Array.replicate 64 (Value.int .u8 0) = bvA (zeros64 ++ []) := rfl

theorem made64 (w : World) (t : TypeId) (base : Nat) (hb : base ≤ w.heap.size) : OwnBytes ((w.alloc (.cells (Array.replicate 64 (.int .u8 0)) t))) (.slice (some ⟨w.heap.size, 0, none⟩) 64 64) zeros64 base := by
  refine ⟨w.heap.size, [], by simp [zeros64], hb, live_alloc_at _ _ _ _ rfl, by simp only [maxLen]; simp [zeros64], ?_⟩
  rw [rowOf_alloc_at _ _ _ _ _ rfl]
  exact rep64

set_option maxRecDepth 20000 in
set_option maxHeartbeats 2000000 in
theorem rnew_ok2 (w : World) (n : Nat) (h1 : 1 ≤ n) (h2 : n ≤ 16384) :
    Calls Try.prog 31 #[.int .i64 (n : Int)] w fun e w' => ∃ gd gt cd ct, e = .returned (.tuple #[.agg #[.bool true, .bool false, .int .i64 (-1), .slice (some ⟨gd, 0, none⟩) n cd, .slice (some ⟨gt, 0, none⟩) n ct, .slice none 0 0, .int .i64 0, .int .i64 0], .int .i64 0]) ∧
      RVal w' (fun k => w.heap.size ≤ k ∧ k < w'.heap.size) gd gt n (DS.new n) ∧ Fr (fun _ => False) w w' ∧ RDist w' gd n := by
  have a1 : ¬ (n : Int) < 1 := by omega
  have a2 : (n : Int) ≤ 16384 := by omega
  go_enter Try.func31, Try.ntmps31
  go_wp2
  obtain ⟨b4, hb4⟩ : ∃ b4, w.heap.size + 1 = b4 := ⟨_, rfl⟩
  have HB4 := Lib.hid hb4
  rw [hb4]
  clear hb4
  go_loopw [5] (fun i wr => ∃ (k : Nat) (vd vt : Value) (us : List Value), k ≤ n ∧ i = .int .i64 k ∧ us.length = k ∧ rowOf wr b4 = #[.bool true, .bool false, .int .i64 (-1), vd, vt, .slice none 0 0, .int .i64 0, .int .i64 0] ∧ live wr b4 = true ∧
      rowOf wr w.heap.size = #[.bool false, .bool false, .int .i64 0, .slice none 0 0, .slice none 0 0, .slice none 0 0, .int .i64 0, .int .i64 0] ∧ live wr w.heap.size = true ∧ NewL wr vd vt us k (w.heap.size + 2) ∧ Fr (fun _ => False) w wr) (fun i _ => n - (intOf i).toNat)
  case atStart =>
    exact ⟨0, _, _, [], Nat.zero_le _, rfl, rfl, rowOf_alloc_at _ _ _ _ _ (by simp [← HB4.out]), live_alloc_at _ _ _ _ (by simp [← HB4.out]), by simp [go_sem], by simp [go_sem],
      ⟨OwnRows.nil _ _ _, fun u hu => by simp at hu, OwnRows.nil _ _ _, (fun j hj => by cases hj), List.Pairwise.nil⟩, ((Fr.refl _ w).alloc _).alloc _⟩
  case round =>
    obtain ⟨k, vd, vt, us, hk, rfl, hus, r4, l4, r2, l2, hnl, hf⟩ := hrel
    have HNL := Lib.hid hnl
    have HF := Lib.hid hf
    have HUS := Lib.hid hus
    have hl4 := live_lt l4
    have hl2 := live_lt l2
    clear hnl hf hus
    by_cases hlt : k < n
    · have hki : (k : Int) < (n : Int) := by omega
      have hkn : us.length ≤ 16384 := by rw [HUS.out]; omega
      have HKN := Lib.hid hkn
      obtain ⟨W2, hW2⟩ : ∃ W2, ((wr.alloc (.cells (Array.replicate 64 (.int .u8 0)) 5)).alloc (.cells #[Value.slice (some ⟨wr.heap.size, 0, none⟩) 64 64] 36)).drew = W2 := ⟨_, rfl⟩
      have F2 := Lib.hid (show Fr (fun _ => False) wr W2 by rw [← hW2]; exact (((Fr.refl _ wr).alloc _).alloc _).drew)
      have R2 := Lib.hid (show rowOf W2 (wr.heap.size + 1) = #[Value.slice (some ⟨wr.heap.size, 0, none⟩) 64 64] ∧ W2.heap.size = wr.heap.size + 2 by rw [← hW2]; exact ⟨by rw [rowOf_drew]; exact rowOf_alloc_at _ _ _ _ _ (by simp), by simp⟩)
      have O2 := Lib.hid (show OwnBytes W2 (.slice (some ⟨wr.heap.size, 0, none⟩) 64 64) zeros64 (w.heap.size + 2) by
        rw [← hW2]; exact (made64 wr 5 (w.heap.size + 2) (by have := HB4.out; omega)).keep (((Fr.refl (fun _ => False) _).alloc _).drew) (fun _ _ h => h))
      obtain ⟨g3, cap3, w3, hrun, ho3, f3, hn3⟩ := run_append_one (w := W2) 29 Try.underlying29 ti36 (HNL.out.da.keep F2.out (fun _ _ h => h)) (by rw [R2.out.2]; have := HB4.out; omega) (wr.heap.size + 1) 1 #[Value.slice (some ⟨wr.heap.size, 0, none⟩) 64 64] (by rw [R2.out.1]; simp) (by rw [R2.out.1]; simp [cut])
        (by intro y hy; simp at hy; subst hy; rfl) (by intro y hy; simp at hy; obtain ⟨u, _, rfl⟩ := hy; rfl) (by simp only [maxLen]; simp; omega) (fitsN (by simp; omega) (by omega))
      have hrun' : (app29 29 vd (.slice (some ⟨wr.heap.size + 1, 0, none⟩) 1 1)).run Try.prog W2 = _ := hrun
      have n3 := (HNL.out.data F2.out O2.out (fun j hj => by simp [Value.ownBlock] at hj; omega) ho3 f3 (fun j hj => by simp [Value.ownBlock] at hj; subst hj; exact hn3))
      simp only [List.length_map] at n3
      have hvd : ∀ x, x < w.heap.size + 2 → ¬ vd.ownBlock = some x := fun x hx e => by have := (HNL.out.da.lt e).1; omega
      have F3 := Lib.hid ((F2.out.mono (fun _ _ h => h.elim)).trans f3 (fun _ _ h => h))
      have r43 := (F3.out.row (by omega) (hvd _ (by have := HB4.out; omega))).trans r4
      have l43 := (F3.out.liv (by omega) (hvd _ (by have := HB4.out; omega))).trans l4
      have r23 := (F3.out.row (by omega) (hvd _ (by have := HB4.out; omega))).trans r2
      have l23 := (F3.out.liv (by omega) (hvd _ (by have := HB4.out; omega))).trans l2
      simp only [List.length_map] at hrun'
      have s3 := F3.out.size
      rw [← hW2] at hrun'
      clear hrun ho3 f3 hn3 hkn
      obtain ⟨L, hL⟩ : ∃ L, us.length + 1 = L := ⟨_, rfl⟩
      have HL := Lib.hid hL
      rw [hL] at hrun' n3
      have N3 := Lib.hid n3
      clear hL hW2 n3
      go_wp2
      go_region
      obtain ⟨W4, hW4⟩ : ∃ W4, w3.setRow b4 #[Value.bool true, Value.bool false, Value.int IntKind.i64 (-1), Value.slice (some ⟨g3, 0, none⟩) L cap3, vt, Value.slice none 0 0, Value.int IntKind.i64 0, Value.int IntKind.i64 0] = W4 := ⟨_, rfl⟩
      have F4 := Lib.hid (show Fr (fun k => k = b4) w3 W4 by rw [← hW4]; exact (Fr.refl (fun k => k = b4) w3).setRow _ _ (fun _ => rfl))
      have r44 : rowOf W4 b4 = #[Value.bool true, Value.bool false, Value.int IntKind.i64 (-1), Value.slice (some ⟨g3, 0, none⟩) L cap3, vt, Value.slice none 0 0, Value.int IntKind.i64 0, Value.int IntKind.i64 0] := by rw [← hW4]; exact rowOf_setRow_same _ _ _ l43
      have l44 : live W4 b4 = true := by rw [← hW4, live_setRow]; exact l43
      rw [hW4]
      have hlt3 := live_lt l43
      have hne : w.heap.size ≠ b4 := by have := HB4.out; omega
      have r24 := (F4.out.row (by omega) hne).trans r23
      have l24 := (F4.out.liv (by omega) hne).trans l23
      have N4 := Lib.hid (N3.out.keep F4.out (fun k hk _ e => by have := HB4.out; omega))
      have s4 := F4.out.size
      have hlt4 : b4 < W4.heap.size := by omega
      have hlt24 : w.heap.size < W4.heap.size := by omega
      clear hW4 r4 l4 r2 l2 r43 l43 r23 l23 hrun'
      go_wp2_with (at_builtin; refine wpList_append_one rfl (.tmp 26) (.tmp 27) 48 rfl 4 _ 1 1 Try.underlying48 ti4 vt _ (w.heap.size + 2) rfl (N4.out.ts.keep ((Fr.refl (fun _ => False) W4).alloc _) (fun _ _ h => h)) (by have := HB4.out; simp; omega) W4.heap.size 1 rfl #[.bool false] (by simp [go_sem]) (by simp [go_sem]) (by intro y hy; simp at hy; subst hy; rfl) (by intro y hy; simp at hy; rw [hy.2]; rfl) (by simp only [maxLen]; simp; omega) (fitsN (by simp; omega) (by omega)) ?_; intro g5 cap5 w5 ho5 f5 hn5; have HO5 := Lib.hid ho5; have F5 := Lib.hid f5; have N5 := Lib.hid hn5; have r45 := (F5.out.row (by simp; omega) (fun e => by have := (N4.out.ts.lt e).1; have := HB4.out; omega)).trans ((rowOf_alloc_lt W4 (.cells #[.bool false] 4) _ hlt4).trans r44); have l45 := (F5.out.liv (by simp; omega) (fun e => by have := (N4.out.ts.lt e).1; have := HB4.out; omega)).trans ((live_alloc_lt W4 (.cells #[.bool false] 4) _ hlt4).trans l44); clear ho5 f5 hn5)
      go_roundw
      case rel =>
        have e4 : Fr (fun _ => False) W4 (W4.alloc (.cells #[.bool false] 4)) := (Fr.refl _ W4).alloc _
        have sz : (W4.alloc (.cells #[.bool false] 4)).heap.size = W4.heap.size + 1 := by simp
        have hvt : ∀ x, x < w.heap.size + 2 → ¬ vt.ownBlock = some x := fun x hx e => by have := (N4.out.ts.lt e).1; omega
        have N6 := (N4.out.keep e4 (fun _ _ _ h => h)).mark (vt' := .slice (some ⟨g5, 0, none⟩) (k + 1) cap5) (by simpa using HO5.out) F5.out (fun j hj => by simp [Value.ownBlock] at hj; subst hj; exact N5.out)
        have F6 : Fr (fun i => i = b4 ∨ vt.ownBlock = some i) w3 w5 := (F4.out.mono (fun _ _ h => .inl h)).trans ((e4.mono (fun _ _ h => h.elim)).trans F5.out (fun _ _ h => h)) (fun _ _ h => .inr h)
        have FX : ∀ c, Fr (fun k => k = b4) w5 (w5.setRow b4 c) := fun c => (Fr.refl (fun k => k = b4) w5).setRow _ _ (fun _ => rfl)
        have r26 := (F5.out.row (by omega) (hvt _ (by omega))).trans ((rowOf_alloc_lt W4 (.cells #[.bool false] 4) _ hlt24).trans r24)
        have l26 := (F5.out.liv (by omega) (hvt _ (by omega))).trans ((live_alloc_lt W4 (.cells #[.bool false] 4) _ hlt24).trans l24)
        have lv := live_lt l26
        refine ⟨k + 1, _, _, us ++ [.slice (some ⟨wr.heap.size, 0, none⟩) 64 64], by omega, by go_num, by simp [HUS.out], rowOf_setRow_same _ _ _ l45, by rw [live_setRow]; exact l45, ((FX _).row lv hne).trans r26, by rw [live_setRow]; exact l26,
          N6.keep (FX _) (fun x hx _ e => by have := HB4.out; omega), ((HF.out.mono (fun _ _ h => h)).trans F3.out (fun i hi e => hvd _ (by omega) e)).trans (F6.trans (FX _) (fun _ _ e => .inl e)) (fun i hi e => by have := HB4.out; rcases e with e | e; omega; exact hvt _ (by omega) e)⟩
      case measure => simp [intOf]; omega
    · obtain rfl : k = n := by omega
      obtain ⟨gd, gt, cd, ct, rfl, rfl, hv, hdist⟩ := HNL.out.val HUS.out h1 h2
      have HV := Lib.hid hv
      have HDI := Lib.hid hdist
      clear hv hdist
      go_wp2
      refine bodyPost_ret (results31 rfl rfl (rowOf_setRow_same _ _ _ l2)) rfl ⟨gd, gt, cd, ct, rfl, ?_, HF.out.trans ((Fr.refl (fun k => k = w.heap.size) wr).setRow _ _ (fun _ => rfl)) (fun i hi e => by omega), ?_⟩
      rotate_left 1
      · have hgd := HV.out.fd.1
        have e : rowOf (wr.setRow w.heap.size _) gd = rowOf wr gd := rowOf_setRow_ne _ _ _ #[Value.bool true, Value.bool false, Value.int IntKind.i64 (-1), Value.slice (some ⟨gd, 0, none⟩) k cd, Value.slice (some ⟨gt, 0, none⟩) k ct, Value.slice none 0 0, Value.int IntKind.i64 0, Value.int IntKind.i64 0] (by omega)
        unfold RDist
        rw [e]
        exact HDI.out
      exact (HV.out.keep ((Fr.refl (fun k => k = w.heap.size) wr).setRow _ _ (fun _ => rfl)) (fun k hk e => by omega)).wide (fun k hk => ⟨by omega, by simpa using hk.2⟩) (fun k hk => by simpa using hk.2)

theorem rnew_ok (w : World) (n : Nat) (h1 : 1 ≤ n) (h2 : n ≤ 16384) :
    Calls Try.prog 31 #[.int .i64 (n : Int)] w fun e w' => ∃ gd gt cd ct, e = .returned (.tuple #[.agg #[.bool true, .bool false, .int .i64 (-1), .slice (some ⟨gd, 0, none⟩) n cd, .slice (some ⟨gt, 0, none⟩) n ct, .slice none 0 0, .int .i64 0, .int .i64 0], .int .i64 0]) ∧
      RVal w' (fun k => w.heap.size ≤ k ∧ k < w'.heap.size) gd gt n (DS.new n) ∧ Fr (fun _ => False) w w' := by
  refine (rnew_ok2 w n h1 h2).mono ?_
  rintro e w' ⟨gd, gt, cd, ct, rfl, a, b, -⟩
  exact ⟨gd, gt, cd, ct, rfl, a, b⟩

end Go.Proofs.Ytflnlpbcmcfblaa
