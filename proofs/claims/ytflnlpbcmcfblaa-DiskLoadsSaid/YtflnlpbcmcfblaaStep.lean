/-
  The laws' helper step: an operation answers alike of a disk and of the reference that hold the same.
-/
import Derived.Test.YtflnlpbcmcfblaaRef13
namespace Go.Proofs.Ytflnlpbcmcfblaa
open Go.RowKit

/-- What a step leaves. -/
def Stepped (w0 w' : World) (d : Nat) (r gd gt n : Nat) : Prop := ∃ (p' : DP) (f' : Nat → Prop) (S' : DS), p'.d = d ∧ Two w0 w' p' S' f' r gd gt S' ∧ S'.pend.length ≤ n + 1

theorem ReadOut.at_ {w : World} {v : Value} {o : Option (List UInt8)} {base : Nat} (h : ReadOut w v o base) : BytesAt w v (o.getD []) := by
  cases o with
  | none => obtain rfl : v = _ := h; exact ⟨none, 0, rfl, .inl rfl⟩
  | some b => exact OwnBytes.at_ (show OwnBytes w v b base from h)
theorem ReadOut.shape {w : World} {v : Value} {o : Option (List UInt8)} {base : Nat} (h : ReadOut w v o base) : ∃ a n c, v = .slice a n c := by
  obtain ⟨a, c, e, -⟩ := h.at_
  exact ⟨a, _, c, e⟩

theorem write_pend (S : DS) (n : Int) (b : List UInt8) : (S.write n b).2.pend.length ≤ S.pend.length + 1 := by
  unfold DS.write
  split
  · simp
  · split
    · simp
    · split
      · simp [DS.goes]
      · simp
theorem layAll_pend (l : List (Nat × List UInt8)) : ∀ S : DS, (S.layAll l).pend = S.pend := by
  induction l with
  | nil => intro S; rfl
  | cons x l ih => intro S; have := ih (S.lay x); simpa [DS.layAll, DS.lay] using this
theorem sync_pend (S : DS) : S.sync.2.pend.length ≤ S.pend.length + 1 := by
  unfold DS.sync
  split
  · simp
  · split
    · simp [DS.goes]
    · simp
theorem plan_pend (S : DS) (n : Int) : (S.plan n).2.pend.length ≤ S.pend.length + 1 := by
  unfold DS.plan
  split <;> simp
theorem crash_pend (S : DS) (l : List Int) : (S.crash l).2.pend.length ≤ S.pend.length + 1 := by
  unfold DS.crash
  split
  · simp
  · split <;> simp

theorem stepBox (w0 w : World) (p : DP) (S : DS) (f : Nat → Prop) (r gd gt : Nat) (h : Two w0 w p S f r gd gt S) (_hm : S.pend.length ≤ 2199023255552) (X : Array Value) : Two w0 (w.alloc (.cells X 55)) p S f r gd gt S ∧ Aside (w.alloc (.cells X 55)) p f w.heap.size X ∧ Two w0 (w.alloc (.cells X 55)).drew p S f r gd gt S ∧ Aside (w.alloc (.cells X 55)).drew p f w.heap.size X := by
  have a : Aside (w.alloc (.cells X 55)) p f w.heap.size X := ⟨by simp, fun e => by have := h.d.lt e; omega, fun e => by have := h.r.lt' _ e; omega, rowOf_alloc_at _ _ _ _ _ rfl⟩
  have t := h.still ((Fr.refl (fun _ => False) w).alloc (.cells X 55))
  have d : Fr (fun _ => False) (w.alloc (.cells X 55)) (w.alloc (.cells X 55)).drew := (Fr.refl _ _).drew
  exact ⟨t, a, t.still d, a.still d⟩

section
variable (w0 w : World) (p : DP) (S : DS) (f : Nat → Prop) (r gd gt : Nat) (h : Two w0 w p S f r gd gt S) (on : Int) (vd vk : Value) (ob : List UInt8) (ok : List Int) (hm : S.pend.length ≤ 2199023255552)
include h hm

set_option maxRecDepth 20000 in
set_option maxHeartbeats 2000000 in
theorem step_write (hd : BytesAt w0 vd ob) : Calls Try.prog 41 #[.pointer (some ⟨p.d, 0, none⟩), .pointer (some ⟨r, 0, none⟩), .agg #[.int .i64 0, .int .i64 on, vd, vk]] w fun e w' => e = .returned (.bool true) ∧ Stepped w0 w' p.d r gd gt S.pend.length := by
  obtain ⟨ht, hb, ht2, hb2⟩ := stepBox w0 w p S f r gd gt h hm #[.int .i64 0, .int .i64 on, vd, vk]
  have HT := Lib.hid ht2
  have HB := Lib.hid hb2
  have HD := Lib.hid hd
  have HM := Lib.hid hm
  have hrow := hb.row
  clear h hm hd ht hb ht2 hb2
  go_enter Try.func41, Try.ntmps41
  go_wp2
  go_region_held3 (fun w' => rowOf w' w.heap.size = #[.int .i64 0, .int .i64 on, vd, vk])
    (first | assumption | exact HB.out.row)
    (first | (go_simp; go_at_call 27; refine (two_writeD HT.out on _ ob HD.out HM.out).mono ?_; rintro e w4 ⟨p4, hp4, rfl, h4, m4⟩; have b4 := HB.out.moveD m4; have K4 := b4.row; have B4 := Lib.hid b4; have T4 := Lib.hid h4; have P4 := Lib.hid hp4; clear b4 h4 hp4 m4) | (go_simp; go_at_call 33; refine (two_writeR T4.out on _ ob HD.out HM.out).mono ?_; rintro e w5 ⟨rfl, f5, h5, m5⟩; have K5 := (B4.out.moveR m5).row; have T5 := Lib.hid h5; clear h5 m5))
  all_goals
    go_wp2
    go_ret
    exact ⟨by simp, p4, f5, _, P4.out, T5.out, write_pend _ _ _⟩

set_option maxRecDepth 20000 in
set_option maxHeartbeats 2000000 in
theorem step_sync : Calls Try.prog 41 #[.pointer (some ⟨p.d, 0, none⟩), .pointer (some ⟨r, 0, none⟩), .agg #[.int .i64 1, .int .i64 on, vd, vk]] w fun e w' => e = .returned (.bool true) ∧ Stepped w0 w' p.d r gd gt S.pend.length := by
  obtain ⟨ht, hb, -, -⟩ := stepBox w0 w p S f r gd gt h hm #[.int .i64 1, .int .i64 on, vd, vk]
  have HT := Lib.hid ht
  have hrow := hb.row
  clear h hm ht hb
  go_enter Try.func41, Try.ntmps41
  go_wp2_with fail
  refine (two_syncD HT.out).mono ?_
  rintro e w4 ⟨p4, hp4, rfl, h4, m4⟩
  have T4 := Lib.hid h4
  have P4 := Lib.hid hp4
  clear h4 hp4 m4 hrow
  go_wp2_with fail
  refine (two_syncR T4.out).mono ?_
  rintro e w5 ⟨rfl, f5, h5, m5⟩
  have T5 := Lib.hid h5
  clear h5 m5
  go_wp2
  go_ret
  exact ⟨by simp, p4, f5, _, P4.out, T5.out, sync_pend _⟩

set_option maxRecDepth 20000 in
set_option maxHeartbeats 2000000 in
theorem step_plan (hn : on ≤ 9223372036854775807) : Calls Try.prog 41 #[.pointer (some ⟨p.d, 0, none⟩), .pointer (some ⟨r, 0, none⟩), .agg #[.int .i64 2, .int .i64 on, vd, vk]] w fun e w' => e = .returned (.bool true) ∧ Stepped w0 w' p.d r gd gt S.pend.length := by
  obtain ⟨ht, hb, ht2, hb2⟩ := stepBox w0 w p S f r gd gt h hm #[.int .i64 2, .int .i64 on, vd, vk]
  have HT := Lib.hid ht2
  have HB := Lib.hid hb2
  have HN := Lib.hid hn
  have hrow := hb.row
  clear h hm hn ht hb ht2 hb2
  go_enter Try.func41, Try.ntmps41
  go_wp2
  go_region_held3 (fun w' => rowOf w' w.heap.size = #[.int .i64 2, .int .i64 on, vd, vk])
    (first | assumption | exact HB.out.row)
    (first | (go_simp; go_at_call 32; refine (two_planD HT.out on HN.out).mono ?_; rintro e w4 ⟨rfl, h4, m4⟩; have b4 := HB.out.moveD m4; have K4 := b4.row; have B4 := Lib.hid b4; have T4 := Lib.hid h4; clear b4 h4 m4) | (go_simp; go_at_call 76; refine (two_planR T4.out on HN.out).mono ?_; rintro e w5 ⟨rfl, h5, m5⟩; have K5 := (B4.out.moveR m5).row; have T5 := Lib.hid h5; clear h5 m5))
  all_goals
    go_wp2
    go_ret
    exact ⟨by simp, p, f, _, rfl, T5.out, plan_pend _ _⟩

set_option maxRecDepth 20000 in
set_option maxHeartbeats 2000000 in
theorem step_crash (hk : IntsAt w0 vk ok) : Calls Try.prog 41 #[.pointer (some ⟨p.d, 0, none⟩), .pointer (some ⟨r, 0, none⟩), .agg #[.int .i64 4, .int .i64 on, vd, vk]] w fun e w' => e = .returned (.bool true) ∧ Stepped w0 w' p.d r gd gt S.pend.length := by
  obtain ⟨ht, hb, ht2, hb2⟩ := stepBox w0 w p S f r gd gt h hm #[.int .i64 4, .int .i64 on, vd, vk]
  have HT := Lib.hid ht2
  have HB := Lib.hid hb2
  have HK := Lib.hid hk
  have hrow := hb.row
  clear h hm hk ht hb ht2 hb2
  go_enter Try.func41, Try.ntmps41
  go_wp2
  go_region_held3 (fun w' => rowOf w' w.heap.size = #[.int .i64 4, .int .i64 on, vd, vk])
    (first | assumption | exact HB.out.row)
    (first | (go_simp; go_at_call 23; refine (two_crashD HT.out _ ok HK.out).mono ?_; rintro e w4 ⟨p4, hp4, rfl, h4, m4⟩; have b4 := HB.out.moveD m4; have K4 := b4.row; have B4 := Lib.hid b4; have T4 := Lib.hid h4; have P4 := Lib.hid hp4; clear b4 h4 hp4 m4) | (go_simp; go_at_call 35; refine (two_crashR T4.out _ ok HK.out).mono ?_; rintro e w5 ⟨rfl, f5, h5, m5⟩; have K5 := (B4.out.moveR m5).row; have T5 := Lib.hid h5; clear h5 m5))
  all_goals
    go_wp2
    go_ret
    exact ⟨by simp, p4, f5, _, P4.out, T5.out, crash_pend _ _⟩

set_option maxRecDepth 20000 in
set_option maxHeartbeats 2000000 in
theorem step_read : Calls Try.prog 41 #[.pointer (some ⟨p.d, 0, none⟩), .pointer (some ⟨r, 0, none⟩), .agg #[.int .i64 3, .int .i64 on, vd, vk]] w fun e w' => e = .returned (.bool true) ∧ Stepped w0 w' p.d r gd gt S.pend.length := by
  obtain ⟨ht, hb, -, -⟩ := stepBox w0 w p S f r gd gt h hm #[.int .i64 3, .int .i64 on, vd, vk]
  have HT := Lib.hid ht
  have HB := Lib.hid hb
  have HM := Lib.hid hm
  have hrow := hb.row
  clear h hm ht hb
  go_enter Try.func41, Try.ntmps41
  go_wp2_with fail
  refine (read_any _ p S HT.out.d.rep on).mono ?_
  rintro e w4 ⟨v4, rfl, o4, f4⟩
  have T4 := Lib.hid (HT.out.still f4)
  have B4 := Lib.hid (HB.out.still f4)
  have O4 := Lib.hid o4.at_
  obtain ⟨a4, n4, c4, rfl⟩ := o4.shape
  clear o4 f4 hrow
  have hrow := B4.out.row
  go_wp2_with fail
  refine (rread_any w4 f r gd gt S T4.out.r on HM.out).mono ?_
  rintro e w5 ⟨v5, rfl, o5, f5⟩
  have T5 := Lib.hid (T4.out.still f5)
  have O5 := Lib.hid o5.at_
  have X4 := Lib.hid (O4.out.later f5)
  obtain ⟨a5, n5, c5, rfl⟩ := o5.shape
  clear o5 f5 hrow
  obtain ⟨q, hq⟩ : ∃ q, (S.read on).1 = q := ⟨_, rfl⟩
  rw [hq]
  clear hq
  go_wp2_with fail
  refine (alike_same w5 _ _ _ X4.out O5.out).mono ?_
  rintro e w6 ⟨rfl, rfl⟩
  go_wp2
  go_ret
  exact ⟨by simp, p, f, S, rfl, T5.out, by omega⟩

set_option maxRecDepth 20000 in
set_option maxHeartbeats 2000000 in
theorem step_off : Calls Try.prog 41 #[.pointer (some ⟨p.d, 0, none⟩), .pointer (some ⟨r, 0, none⟩), .agg #[.int .i64 5, .int .i64 on, vd, vk]] w fun e w' => e = .returned (.bool true) ∧ Stepped w0 w' p.d r gd gt S.pend.length := by
  obtain ⟨ht, hb, ht2, -⟩ := stepBox w0 w p S f r gd gt h hm #[.int .i64 5, .int .i64 on, vd, vk]
  have HT := Lib.hid ht
  have HT2 := Lib.hid ht2
  obtain ⟨cd, ct, wv, hr⟩ := ht.r.row
  obtain ⟨cd2, ct2, wv2, hr2⟩ := ht2.r.row
  rw [rowOf_drew, hr] at hr2
  simp only [Array.mk.injEq, List.cons.injEq, Value.slice.injEq, true_and, and_true] at hr2
  obtain ⟨rfl, rfl, rfl⟩ := hr2
  have hrow := hb.row
  have lr := live_lt ht.r.lr
  clear h hm ht hb ht2
  go_enter Try.func41, Try.ntmps41
  go_wp2
  go_region_held3 (fun w' => rowOf w' r = #[.bool true, .bool S.off, .int .i64 (refLeft S), .slice (some ⟨gd, 0, none⟩) S.data.length cd, .slice (some ⟨gt, 0, none⟩) S.data.length ct, wv, .int .i64 S.wr, .int .i64 S.sy] ∧ Fr (fun _ => False) (w.alloc (.cells #[.int .i64 5, .int .i64 on, vd, vk] 55)) w')
    (first | assumption | exact ⟨by rw [rowOf_drew]; exact hr, (Fr.refl _ _).drew⟩)
    (first | (go_simp; go_at_call 24; refine (off_rep _ p S (HT.out.d.rep.keep (And.right (by assumption)) (fun _ _ h => h))).mono ?_; rintro e w4 ⟨rfl, rfl⟩) | (go_simp; go_at_call 37; refine (blocks_rep _ p S (HT.out.d.rep.keep (And.right (by assumption)) (fun _ _ h => h))).mono ?_; rintro e w4 ⟨rfl, rfl⟩))
  all_goals
    go_wp2
    go_ret
    exact ⟨by simp, p, f, S, rfl, HT2.out, by omega⟩

set_option maxRecDepth 20000 in
set_option maxHeartbeats 2000000 in
theorem step_pending : Calls Try.prog 41 #[.pointer (some ⟨p.d, 0, none⟩), .pointer (some ⟨r, 0, none⟩), .agg #[.int .i64 6, .int .i64 on, vd, vk]] w fun e w' => e = .returned (.bool true) ∧ Stepped w0 w' p.d r gd gt S.pend.length := by
  obtain ⟨ht, hb, -, -⟩ := stepBox w0 w p S f r gd gt h hm #[.int .i64 6, .int .i64 on, vd, vk]
  have HT := Lib.hid ht
  obtain ⟨cd, ct, wv, hr, hwt⟩ := ht.r.ex
  have WT := Lib.hid hwt.at_
  have HM := Lib.hid (show S.pend.length * 32 ≤ 70368744177664 by omega)
  have hrow := hb.row
  have lr := live_lt ht.r.lr
  clear h hm ht hb hwt
  go_enter Try.func41, Try.ntmps41
  go_wp2
  go_region_held3 (fun w' => rowOf w' r = #[.bool true, .bool S.off, .int .i64 (refLeft S), .slice (some ⟨gd, 0, none⟩) S.data.length cd, .slice (some ⟨gt, 0, none⟩) S.data.length ct, wv, .int .i64 S.wr, .int .i64 S.sy] ∧ Fr (fun _ => False) (w.alloc (.cells #[.int .i64 6, .int .i64 on, vd, vk] 55)) w')
    (first | assumption | exact ⟨by rw [rowOf_drew]; exact hr, (Fr.refl _ _).drew⟩)
    (first | (go_simp; go_at_call 22; refine (pending_any _ p S (HT.out.d.rep.keep (And.right (by assumption)) (fun _ _ h => h)) HM.out).mono ?_; rintro e w6 ⟨v6, rfl, p6, f6⟩; have K6 := heldStep lr (by assumption) f6; have P6 := Lib.hid p6.at_; clear p6) | (go_simp; go_at_call 38; refine (alikePending_same _ v6 wv (pendI S.pend) P6.out (WT.out.later (And.right (by assumption)))).mono ?_; rintro e w7 ⟨rfl, f7⟩; have K7 := heldStep lr (by assumption) f7))
  all_goals
    go_wp2
    go_ret
    exact ⟨by simp, p, f, S, rfl, HT.out.still (And.right (by assumption : _ ∧ Fr (fun _ => False) (w.alloc (.cells #[.int .i64 6, .int .i64 on, vd, vk] 55)) _)), by omega⟩

set_option maxRecDepth 20000 in
set_option maxHeartbeats 2000000 in
theorem step_image : Calls Try.prog 41 #[.pointer (some ⟨p.d, 0, none⟩), .pointer (some ⟨r, 0, none⟩), .agg #[.int .i64 7, .int .i64 on, vd, vk]] w fun e w' => e = .returned (.bool true) ∧ Stepped w0 w' p.d r gd gt S.pend.length := by
  obtain ⟨ht, hb, -, -⟩ := stepBox w0 w p S f r gd gt h hm #[.int .i64 7, .int .i64 on, vd, vk]
  have HT := Lib.hid ht
  have hrow := hb.row
  clear h hm ht hb
  go_enter Try.func41, Try.ntmps41
  go_wp2_with fail
  refine (image_any _ p S HT.out.d.rep).mono ?_
  rintro e w1 ⟨vi, vt, rfl, oi, ot, -, f1⟩
  have OI := Lib.hid oi
  have OT := Lib.hid ot
  have T1 := Lib.hid (HT.out.still f1)
  clear oi ot f1 hrow
  go_wp2_with fail
  refine (rimage_any w1 f r gd gt S T1.out.r).mono ?_
  rintro e w2 ⟨vj, vu, rfl, oj, ou, f2⟩
  have T2 := Lib.hid (T1.out.still f2)
  have OI2 := Lib.hid (OI.out.keep f2 (fun _ _ h => h)).at_
  have OT2 := Lib.hid (OT.out.keep f2 (fun _ _ h => h)).ints
  have OJ2 := Lib.hid oj.at_
  have OU2 := Lib.hid ou.ints
  clear oj ou f2 OI OT
  go_wp2_with fail
  refine (alike_same w2 vi vj _ OI2.out OJ2.out).mono ?_
  rintro e w3 ⟨rfl, rfl⟩
  go_wp2_with fail
  refine (alikeInts_same w2 vt vu _ OT2.out OU2.out).mono ?_
  rintro e w3 ⟨rfl, f3⟩
  have T3 := Lib.hid (T2.out.still f3)
  clear f3
  go_wp2
  go_ret
  exact ⟨by simp, p, f, S, rfl, T3.out, by omega⟩

set_option maxRecDepth 20000 in
set_option maxHeartbeats 2000000 in
theorem step_counts : Calls Try.prog 41 #[.pointer (some ⟨p.d, 0, none⟩), .pointer (some ⟨r, 0, none⟩), .agg #[.int .i64 8, .int .i64 on, vd, vk]] w fun e w' => e = .returned (.bool true) ∧ Stepped w0 w' p.d r gd gt S.pend.length := by
  obtain ⟨ht, hb, -, -⟩ := stepBox w0 w p S f r gd gt h hm #[.int .i64 8, .int .i64 on, vd, vk]
  have HT := Lib.hid ht
  have hrow := hb.row
  clear h hm ht hb
  go_enter Try.func41, Try.ntmps41
  go_wp2_with fail
  refine (counts_rep _ p S HT.out.d.rep).mono ?_
  rintro e w3 ⟨rfl, f3⟩
  have T3 := Lib.hid (HT.out.still f3)
  clear f3 hrow
  obtain ⟨cd, ct, wv, hr⟩ := T3.out.r.row
  have lr := live_lt T3.out.r.lr
  go_wp2
  go_ret
  exact ⟨by simp, p, f, S, rfl, T3.out, by omega⟩

set_option maxRecDepth 20000 in
set_option maxHeartbeats 2000000 in
theorem step_other (od : Int) (hod : od < 0 ∨ 8 < od) : Calls Try.prog 41 #[.pointer (some ⟨p.d, 0, none⟩), .pointer (some ⟨r, 0, none⟩), .agg #[.int .i64 od, .int .i64 on, vd, vk]] w fun e w' => e = .returned (.bool true) ∧ Stepped w0 w' p.d r gd gt S.pend.length := by
  obtain ⟨ht, hb, -, -⟩ := stepBox w0 w p S f r gd gt h hm #[.int .i64 od, .int .i64 on, vd, vk]
  have HT := Lib.hid ht
  have hrow := hb.row
  have n0 : (od == 0) = false := by simp; omega
  have n1 : (od == 1) = false := by simp; omega
  have n2 : (od == 2) = false := by simp; omega
  have n3 : (od == 3) = false := by simp; omega
  have n4 : (od == 4) = false := by simp; omega
  have n5 : (od == 5) = false := by simp; omega
  have n6 : (od == 6) = false := by simp; omega
  have n7 : (od == 7) = false := by simp; omega
  have n8 : (od == 8) = false := by simp; omega
  clear h hm ht hb hod
  go_enter Try.func41, Try.ntmps41
  go_wp2
  go_ret
  exact ⟨by simp, p, f, S, rfl, HT.out, by omega⟩

/-- A step, whatever it is. -/
theorem step_any (od : Int) (hd : BytesAt w0 vd ob) (hk : IntsAt w0 vk ok) (hn : on ≤ 9223372036854775807) :
    Calls Try.prog 41 #[.pointer (some ⟨p.d, 0, none⟩), .pointer (some ⟨r, 0, none⟩), .agg #[.int .i64 od, .int .i64 on, vd, vk]] w fun e w' => e = .returned (.bool true) ∧ Stepped w0 w' p.d r gd gt S.pend.length := by
  by_cases h0 : od < 0 ∨ 8 < od
  · exact step_other w0 w p S f r gd gt h on vd vk hm od h0
  · have : od = 0 ∨ od = 1 ∨ od = 2 ∨ od = 3 ∨ od = 4 ∨ od = 5 ∨ od = 6 ∨ od = 7 ∨ od = 8 := by omega
    rcases this with rfl | rfl | rfl | rfl | rfl | rfl | rfl | rfl | rfl
    · exact step_write w0 w p S f r gd gt h on vd vk ob hm hd
    · exact step_sync w0 w p S f r gd gt h on vd vk hm
    · exact step_plan w0 w p S f r gd gt h on vd vk hm hn
    · exact step_read w0 w p S f r gd gt h on vd vk hm
    · exact step_crash w0 w p S f r gd gt h on vd vk ok hm hk
    · exact step_off w0 w p S f r gd gt h on vd vk hm
    · exact step_pending w0 w p S f r gd gt h on vd vk hm
    · exact step_image w0 w p S f r gd gt h on vd vk hm
    · exact step_counts w0 w p S f r gd gt h on vd vk hm
end

end Go.Proofs.Ytflnlpbcmcfblaa
