/-
  The laws' helper images: a disk and the reference that hold the same are seen to be the same.
-/
import Derived.Deep.RegionHeld3
import Derived.Test.YtflnlpbcmcfblaaRef12
namespace Go.Proofs.Ytflnlpbcmcfblaa
open Go.RowKit

theorem alike_same (w : World) (va vb : Value) (a : List UInt8) (ha : BytesAt w va a) (hb : BytesAt w vb a) :
    Calls Try.prog 26 #[va, vb] w fun e w' => e = .returned (.bool true) ∧ w = w' :=
  (alike_any w va vb a a ha hb).mono fun _ _ h => ⟨by rw [h.1]; simp, h.2⟩
theorem alikeInts_same (w : World) (v1 v2 : Value) (l : List Int) (h1 : IntsAt w v1 l) (h2 : IntsAt w v2 l) :
    Calls Try.prog 72 #[v1, v2] w fun e w' => e = .returned (.bool true) ∧ Fr (fun _ => False) w w' :=
  (alikeInts_any w v1 v2 l l h1 h2).mono fun _ _ h => ⟨by rw [h.1]; simp, h.2⟩
theorem alikePending_same (w : World) (v1 v2 : Value) (l : List (Int × List UInt8)) (h1 : PendAt w v1 l) (h2 : PendAt w v2 l) :
    Calls Try.prog 38 #[v1, v2] w fun e w' => e = .returned (.bool true) ∧ Fr (fun _ => False) w w' :=
  (alikePending_any w v1 v2 l l h1 h2).mono fun _ _ h => ⟨by rw [h.1]; simp, h.2⟩

theorem WaitRows.at_ {w : World} {f : Nat → Prop} {r gd gt : Nat} {v : Value} {l : List (Int × List UInt8)} (h : WaitRows w f r gd gt v l) : PendAt w v l := by
  obtain ⟨xs, h1, h2, h3, h4⟩ := h
  rcases h1 with ⟨rfl, rfl⟩ | ⟨g, cap, rfl, b1, b2, ⟨b3, b3p⟩, b4, b5, b6⟩
  · have : l = [] := List.eq_nil_of_length_eq_zero (by rw [← h3]; rfl)
    subst this
    exact ⟨none, 0, rfl, by simp, .inl rfl⟩
  · refine ⟨_, cap, by rw [h3], by simp only [maxLen] at b4; omega, .inr ⟨g, 0, rfl, fun i hi => ?_⟩⟩
    have hi2 : i < xs.length := by omega
    obtain ⟨vd, e1, e2, -⟩ := h4 i hi2 hi
    have hc := b6 i hi2
    have hb : i * 2 + 2 ≤ (rowOf w g).size := by omega
    have g0 := cut_get (cur := rowOf w g) (off := i * 2) (n := 2) hb 0 (by omega)
    have g1 := cut_get (cur := rowOf w g) (off := i * 2) (n := 2) hb 1 (by omega)
    rw [hc, e1] at g0 g1
    exact ⟨vd, by simpa using g0.symm, by simpa using g1.symm, e2.at_⟩

theorem heldStep {W w w' : World} {r : Nat} {row : Array Value} (lr : r < W.heap.size) (h : rowOf w r = row ∧ Fr (fun _ => False) W w) (f : Fr (fun _ => False) w w') : rowOf w' r = row ∧ Fr (fun _ => False) W w' :=
  ⟨(f.row (Nat.lt_of_lt_of_le lr h.2.size) (fun h => h)).trans h.1, h.2.trans f (fun _ _ h => h)⟩

set_option maxRecDepth 20000 in
set_option maxHeartbeats 4000000 in
theorem images_same (w : World) (p : DP) (S : DS) (hd : DiskRep w p S) (f : Nat → Prop) (r gd gt : Nat) (hr : RRep w f r gd gt S) (hm : S.pend.length * 32 ≤ 70368744177664) :
    Calls Try.prog 36 #[.pointer (some ⟨p.d, 0, none⟩), .pointer (some ⟨r, 0, none⟩)] w fun e w' => e = .returned (.bool true) ∧ Fr (fun _ => False) w w' := by
  have HD := Lib.hid hd
  have HR := Lib.hid hr
  have HM := Lib.hid hm
  clear hd hr hm
  go_enter Try.func36, Try.ntmps36
  go_wp2_with fail
  refine (image_any w p S HD.out).mono ?_
  rintro e w1 ⟨vi, vt, rfl, oi, ot, -, f1⟩
  have OI := Lib.hid oi
  have OT := Lib.hid ot
  have F1 := Lib.hid f1
  clear oi ot f1
  go_wp2_with fail
  refine (rimage_any w1 f r gd gt S (HR.out.keep F1.out (fun _ _ h => h))).mono ?_
  rintro e w2 ⟨vj, vu, rfl, oj, ou, f2⟩
  have F2 := Lib.hid (F1.out.trans f2 (fun _ _ h => h))
  have OI2 := Lib.hid (OI.out.keep f2 (fun _ _ h => h)).at_
  have OT2 := Lib.hid (OT.out.keep f2 (fun _ _ h => h)).ints
  have OJ2 := Lib.hid oj.at_
  have OU2 := Lib.hid ou.ints
  clear oj ou f2 OI OT
  go_wp2_with fail
  refine (counts_rep w2 p S (HD.out.keep F2.out (fun _ _ h => h))).mono ?_
  rintro e w3 ⟨rfl, f3⟩
  have F3 := Lib.hid (F2.out.trans f3 (fun _ _ h => h))
  have OI3 := Lib.hid (OI2.out.later f3)
  have OT3 := Lib.hid (OT2.out.later f3)
  have OJ3 := Lib.hid (OJ2.out.later f3)
  have OU3 := Lib.hid (OU2.out.later f3)
  have HD3 := Lib.hid (HD.out.keep F3.out (fun _ _ h => h))
  have HR3 := Lib.hid (HR.out.keep F3.out (fun _ _ h => h))
  clear f3 OI2 OT2 OJ2 OU2
  obtain ⟨cd, ct, wv, hrow, hwt⟩ := HR3.out.ex
  have HROW := Lib.hid hrow
  have lr := live_lt HR3.out.lr
  have WT := Lib.hid hwt.at_
  clear hwt
  go_wp2
  go_region_held3 (fun w' => rowOf w' r = #[.bool true, .bool S.off, .int .i64 (refLeft S), .slice (some ⟨gd, 0, none⟩) S.data.length cd, .slice (some ⟨gt, 0, none⟩) S.data.length ct, wv, .int .i64 S.wr, .int .i64 S.sy] ∧ Fr (fun _ => False) w3 w')
    (first | assumption | exact ⟨by rw [rowOf_drew]; exact hrow, (Fr.refl _ _).drew⟩)
    (first | (go_simp; go_at_call 26; refine (alike_same _ vi vj S.img (OI3.out.later (And.right (by assumption))) (OJ3.out.later (And.right (by assumption)))).mono ?_; rintro e w4 ⟨rfl, rfl⟩) | (go_simp; go_at_call 72; refine (alikeInts_same _ vt vu S.tornL (OT3.out.later (And.right (by assumption))) (OU3.out.later (And.right (by assumption)))).mono ?_; rintro e w5 ⟨rfl, f5⟩; have K5 := heldStep lr (by assumption) f5) | (go_simp; go_at_call 24; refine (off_rep _ p S (HD3.out.keep (And.right (by assumption)) (fun _ _ h => h))).mono ?_; rintro e w4 ⟨rfl, rfl⟩) | (go_simp; go_at_call 22; refine (pending_any _ p S (HD3.out.keep (And.right (by assumption)) (fun _ _ h => h)) HM.out).mono ?_; rintro e w6 ⟨v6, rfl, p6, f6⟩; have K6 := heldStep lr (by assumption) f6; have P6 := Lib.hid p6.at_; clear p6) | (go_simp; go_at_call 38; refine (alikePending_same _ v6 wv (pendI S.pend) P6.out (WT.out.later (And.right (by assumption)))).mono ?_; rintro e w7 ⟨rfl, f7⟩; have K7 := heldStep lr (by assumption) f7) | (go_simp; go_at_call 37; refine (blocks_rep _ p S (HD3.out.keep (And.right (by assumption)) (fun _ _ h => h))).mono ?_; rintro e w4 ⟨rfl, rfl⟩))
  all_goals
    go_wp2
    go_ret
    exact ⟨rfl, F3.out.trans (And.right (by assumption : _ ∧ Fr (fun _ => False) w3 _)) (fun _ _ h => h)⟩

end Go.Proofs.Ytflnlpbcmcfblaa
