/-
  DiskCuts: the walk.
-/
import Derived.Test.YtflnlpbcmcfblaaCutsP
namespace Go.Proofs.Ytflnlpbcmcfblaa
open Go.RowKit

set_option maxRecDepth 20000 in
set_option maxHeartbeats 4000000 in
theorem cuts_bad (w : World) (b n : Int) (vo : Value) (hb : b < 1 ∨ 16384 < b) :
    Calls Try.prog 5 #[.int .i64 b, .int .i64 n, vo] w fun e w' => e = .returned (.bool true) ∧ Below w.heap.size w w' := by
  have HB := Lib.hid hb
  clear hb
  go_enter Try.func5, Try.ntmps5
  go_wp2_with fail
  refine (begun2_any w).mono ?_
  rintro e w1 ⟨rfl, f1⟩
  have F1 := Lib.hid f1
  clear f1
  go_wp2_with fail
  refine (new_bad w1 b HB.out).mono ?_
  rintro e w2 ⟨rfl, rfl⟩
  go_wp2_with fail
  refine (rnew_bad w1 b HB.out).mono ?_
  rintro e w3 ⟨rfl, f3⟩
  have F3 := Lib.hid (F1.out.trans f3 (fun _ _ h => h))
  clear f3
  unfold zero50
  go_wp2
  go_ret
  exact ⟨rfl, ((F3.out.alloc _)).below (Nat.le_refl _) (fun _ _ h => h)⟩

set_option maxRecDepth 20000 in
set_option maxHeartbeats 4000000 in
theorem cuts_ok (w : World) (b : Nat) (n : Int) (vo : Value) (l : List OpV) (ho : OpsAt w vo l) (h1 : 1 ≤ b) (h2 : b ≤ 16384) (h64 : n ≤ 9223372036854775807) :
    Calls Try.prog 5 #[.int .i64 (b : Int), .int .i64 n, vo] w fun e w' => e = .returned (.bool true) ∧ Below w.heap.size w w' := by
  obtain ⟨a, cap, rfl, hl, hops⟩ := ho
  obtain ⟨q, hq⟩ : ∃ q, l.length = q := ⟨_, rfl⟩
  have HQ := Lib.hid hq
  have HO := Lib.hid hops
  rw [hq] at hl ⊢
  clear hq hops
  go_enter Try.func5, Try.ntmps5
  go_wp2_with fail
  refine (begun2_any w).mono ?_
  rintro e w1 ⟨rfl, f1⟩
  have F1 := Lib.hid f1
  clear f1
  go_wp2_with fail
  refine (new_ok w1 b h1 h2).mono ?_
  rintro e w2 ⟨p, rfl, r2, f2, hf2⟩
  have S2 := Lib.hid (show St w w2 p (DS.new b) from ⟨F1.out.trans f2 (fun _ _ h => h), r2, fun k hk => by have := hf2 k hk; have := F1.out.size; omega⟩)
  clear r2 f2 hf2
  go_wp2_with fail
  refine (rnew_ok w2 b h1 h2).mono ?_
  rintro e w3 ⟨gd, gt, cd, ct, rfl, v3, f3⟩
  by_cases hn : n < 0
  · have F3 := Lib.hid (S2.out.fr.trans f3 (fun _ _ h => h))
    clear v3 f3
    go_wp2
    go_ret
    exact ⟨rfl, (F3.out.alloc _).below (Nat.le_refl _) (fun _ _ h => h)⟩
  · have hn0 : 0 ≤ n := by omega
    obtain ⟨w4, hw4⟩ : ∃ w4, w3.alloc (.cells #[.bool true, .bool false, .int .i64 (-1), .slice (some ⟨gd, 0, none⟩) b cd, .slice (some ⟨gt, 0, none⟩) b ct, .slice none 0 0, .int .i64 0, .int .i64 0] 50) = w4 := ⟨_, rfl⟩
    obtain ⟨r, hrr⟩ : ∃ r, w3.heap.size = r := ⟨_, rfl⟩
    have HT4 := Lib.hid (show Two w w4 p (DS.new b) (fun k => (w2.heap.size ≤ k ∧ k < w3.heap.size) ∨ k = r) r gd gt (DS.new b) by
      subst hrr
      have f4 : Fr (fun _ => False) w3 w4 := by rw [← hw4]; exact (Fr.refl _ w3).alloc _
      have s2 := S2.out.fr.size
      have s3 := f3.size
      have rr : rowOf w4 w3.heap.size = #[.bool true, .bool false, .int .i64 (-1), .slice (some ⟨gd, 0, none⟩) b cd, .slice (some ⟨gt, 0, none⟩) b ct, .slice none 0 0, .int .i64 0, .int .i64 0] := by rw [← hw4]; exact rowOf_alloc_at _ _ _ _ _ rfl
      refine ⟨(S2.out.calm f3 (fun _ h => h.elim)).calm f4 (fun _ h => h.elim), (v3.keep f4 (fun _ _ h => h)).box (by omega) rr (by rw [← hw4]; exact live_alloc_at _ _ _ _ rfl), fun k hk => ?_⟩
      rcases hk with hk | rfl
      · exact ⟨by omega, fun e => by have := S2.out.lt e; omega⟩
      · exact ⟨by omega, fun e => by have := S2.out.lt e; omega⟩)
    have R4 := Lib.hid (show rowOf w4 r = #[.bool true, .bool false, .int .i64 (-1), .slice (some ⟨gd, 0, none⟩) b cd, .slice (some ⟨gt, 0, none⟩) b ct, .slice none 0 0, .int .i64 0, .int .i64 0] by rw [← hw4, ← hrr]; exact rowOf_alloc_at _ _ _ _ _ rfl)
    clear v3 f3
    have HR := Lib.hid hrr
    have HW4 := Lib.hid hw4
    clear hw4 hrr
    obtain ⟨hb1, hb2⟩ := cut_begin (b := b) hn0
    have HB1 := Lib.hid hb1
    have HB2 := Lib.hid hb2
    clear hb1 hb2
    go_wp2_with fail
    rw [HW4.out, HR.out]
    refine (two_planD HT4.out n h64).mono ?_
    rintro e w5 ⟨rfl, h5, -⟩
    rw [HB1.out]
    obtain ⟨D0, hD0⟩ : ∃ D0, ((DS.new b).plan n).2 = D0 := ⟨_, rfl⟩
    rw [hD0] at HB2 h5
    have H5 := Lib.hid h5
    clear h5 hD0 HB1
    obtain ⟨R0, hR0⟩ : ∃ R0, DS.new b = R0 := ⟨_, rfl⟩
    rw [hR0] at H5 HB2
    clear hR0 HT4 R4 S2
    obtain ⟨f0, hf0⟩ : ∃ f0 : Nat → Prop, (fun k => (w2.heap.size ≤ k ∧ k < w3.heap.size) ∨ k = r) = f0 := ⟨_, rfl⟩
    rw [hf0] at H5
    clear hf0
    go_wp2
    go_loopw [12, 13, 14, 15, 45] (fun _ _ _ _ i wr => ∃ (k : Nat) (pk : DP) (fk : Nat → Prop) (D R : DS), k ≤ q ∧ i = .int .i64 k ∧ pk.d = p.d ∧ Two w wr pk D fk r gd gt R ∧ CutR n k D R) (fun _ _ _ _ i _ => q - (intOf i).toNat)
    case atStart => exact ⟨0, p, f0, D0, R0, Nat.zero_le _, rfl, rfl, H5.out, HB2.out⟩
    case round =>
      obtain ⟨k, pk, fk, D, R, hk, rfl, hpd, htw, hcut⟩ := hrel
      have HT := Lib.hid htw
      have HC := Lib.hid hcut
      have HPD := Lib.hid hpd
      clear htw hcut hpd
      by_cases hlt : k < q
      · have hki : (k : Int) < (q : Int) := by omega
        rcases HO.out with hnil | ⟨g, off, hax, hall⟩
        · exfalso; have := HQ.out; rw [hnil] at this; simp at this; omega
        subst hax
        obtain ⟨vd, vk, e1, e2, e3, e4⟩ := hall k (by rw [HQ.out]; exact hlt)
        obtain ⟨ak, ck, rfl, -⟩ := e4
        have hg0 : g < w.heap.size := rowOf_lt (by omega)
        have rg := HT.out.d.fr.row hg0 (fun h => h)
        rw [← rg] at e1 e2
        have E3 := Lib.hid e3
        obtain ⟨o, hox⟩ : ∃ o, l[k]'(by rw [HQ.out]; exact hlt) = o := ⟨_, rfl⟩
        rw [hox] at e2 E3
        clear hall e3 hox rg
        unfold opC at e2
        obtain ⟨od, on, ob, okk⟩ := o
        simp only at e2 E3
        obtain ⟨ad, capd, hvd, hbd⟩ := E3.out
        subst hvd
        clear hbd
        have o4 : ones #[Value.int IntKind.i64 od, Value.int IntKind.i64 on, Value.slice ad ob.length capd, .slice ak okk.length ck] := by intro v hv; simp at hv; rcases hv with rfl | rfl | rfl | rfl <;> rfl
        have hwl := HT.out.d.fr.size
        have HX := Lib.hid (show Two w (wr.alloc (.cells #[Value.int IntKind.i64 od, Value.int IntKind.i64 on, Value.slice ad ob.length capd, .slice ak okk.length ck] 55)) pk D fk r gd gt R from HT.out.still ((Fr.refl _ wr).alloc _))
        have HBX := Lib.hid (show Aside (wr.alloc (.cells #[Value.int IntKind.i64 od, Value.int IntKind.i64 on, Value.slice ad ob.length capd, .slice ak okk.length ck] 55)) pk fk wr.heap.size #[Value.int IntKind.i64 od, Value.int IntKind.i64 on, Value.slice ad ob.length capd, .slice ak okk.length ck] from
          ⟨by simp, fun e => by have := HT.out.d.lt e; omega, fun e => by have := HT.out.r.lt' _ e; omega, rowOf_alloc_at _ _ _ _ _ rfl⟩)
        by_cases hd0 : od = 0
        · subst hd0
          obtain ⟨cs1, cs2⟩ := cut_write HC.out (by omega) on ob
          have CS1 := Lib.hid cs1
          have CS2 := Lib.hid cs2
          clear cs1 cs2
          go_wp2_with fail
          obtain ⟨w4, hw4⟩ : ∃ w4, wr.alloc (.cells #[Value.int IntKind.i64 0, Value.int IntKind.i64 on, Value.slice ad ob.length capd, .slice ak okk.length ck] 55) = w4 := ⟨_, rfl⟩
          rw [hw4] at HBX HX ⊢
          clear hw4
          rw [← HPD.out]
          have hbx := HBX.out.row
          have hbl := HBX.out.lt
          refine (off_rep w4 pk D HX.out.d.rep).mono ?_
          rintro e w' ⟨rfl, rfl⟩
          by_cases hoff : D.off = true
          · rw [hoff]
            have HOFF := Lib.hid hoff
            clear hoff
            go_wp2_with fail
            refine (two_writeD HX.out on _ ob E3.out (by rw [HC.out.pend]; have := HC.out.pk; omega)).mono ?_
            rintro e w5 ⟨p5, hp5, rfl, h5, m5⟩
            obtain ⟨g22, hc5⟩ := CS1.out HOFF.out
            rw [g22, HPD.out]
            have HP5 := Lib.hid (hp5.trans HPD.out)
            have H5 := Lib.hid h5
            have C5 := Lib.hid hc5
            clear hp5 h5 hc5 m5 hbx hbl g22
            go_wp2
            go_roundw
            case rel => exact ⟨k + 1, p5, fk, _, R, by omega, by go_num, HP5.out, H5.out, C5.out⟩
            case measure => simp [intOf]; omega
          · have hoff2 : D.off = false := by simpa using hoff
            rw [hoff2]
            have HOFF := Lib.hid hoff2
            clear hoff hoff2
            go_wp2_with fail
            refine (two_writeD HX.out on _ ob E3.out (by rw [HC.out.pend]; have := HC.out.pk; omega)).mono ?_
            rintro e w5 ⟨p5, hp5, rfl, h5, m5⟩
            have b5 := HBX.out.moveD m5
            have B5 := Lib.hid b5
            have H5 := Lib.hid h5
            have HP5 := Lib.hid (hp5.trans HPD.out)
            obtain ⟨x2, hx2⟩ : ∃ x, (D.write on ob).2 = x := ⟨_, rfl⟩
            rw [hx2] at H5 h5
            rcases CS2.out HOFF.out with ⟨g22, hnn, ho2, hc5⟩ | ⟨gne, hgh, hle, hc5⟩
            · rw [g22]
              rw [hx2] at ho2 hc5
              obtain ⟨cd, ct, wv, hrow⟩ := h5.r.row
              have q1 := HC.out.w0
              have q2 := HC.out.s0
              have C5 := Lib.hid hc5
              have HO2 := Lib.hid ho2
              have hne : (R.wr + R.sy == n) = true := by simpa using hnn
              rw [← hp5]
              clear hp5 h5 hc5 m5 hbx hbl g22 hx2 b5 ho2
              go_wp2_with fail
              refine (off_rep w5 p5 x2 H5.out.d.rep).mono ?_
              rintro e w' ⟨rfl, rfl⟩
              rw [HO2.out, HP5.out]
              go_wp2
              go_roundw
              case rel => exact ⟨k + 1, p5, fk, _, R, by omega, by go_num, HP5.out, H5.out, C5.out⟩
              case measure => simp [intOf]; omega
            · obtain ⟨gv, hgv⟩ : ∃ gv, (D.write on ob).1 = gv := ⟨_, rfl⟩
              obtain ⟨y2, hy2⟩ : ∃ y, (R.write on ob).2 = y := ⟨_, rfl⟩
              rw [hgv] at gne hgh ⊢
              rw [hx2, hy2] at hc5
              rw [hy2] at hle
              have HGH := Lib.hid hgh
              have HGV := Lib.hid hgv
              have HY2 := Lib.hid hy2
              have C5 := Lib.hid hc5
              have HLE := Lib.hid hle
              rw [HPD.out]
              have hbx5 := b5.row
              have hgb : (gv == 22) = false := by simpa using gne
              clear hp5 hc5 m5 hbx hbl hx2 b5 hgv hgh hle hy2 h5
              go_wp2_with fail
              refine (two_writeR H5.out on _ ob E3.out (by have := HC.out.pk; omega)).mono ?_
              rintro e w6 ⟨rfl, f6, h6, m6⟩
              rw [HGH.out]
              rw [HY2.out] at h6
              have H6 := Lib.hid h6
              obtain ⟨cd, ct, wv, hrow⟩ := h6.r.row
              have q1 := C5.out.w0
              have q2 := C5.out.s0
              have q3 := HLE.out
              have hd : decide (n < y2.wr + y2.sy) = false := by simpa using q3
              clear h6 m6 hbx5
              go_wp2
              go_roundw
              case rel => exact ⟨k + 1, p5, f6, _, _, by omega, by go_num, HP5.out, H6.out, C5.out⟩
              case measure => simp [intOf]; omega
        · by_cases hd1 : od = 1
          · subst hd1
            obtain ⟨cs1, cs2⟩ := cut_sync HC.out HX.out.d.rep.ok (by omega)
            have CS1 := Lib.hid cs1
            have CS2 := Lib.hid cs2
            clear cs1 cs2
            go_wp2_with fail
            obtain ⟨w4, hw4⟩ : ∃ w4, wr.alloc (.cells #[Value.int IntKind.i64 1, Value.int IntKind.i64 on, Value.slice ad ob.length capd, .slice ak okk.length ck] 55) = w4 := ⟨_, rfl⟩
            rw [hw4] at HBX HX ⊢
            clear hw4
            rw [← HPD.out]
            have hbx := HBX.out.row
            have hbl := HBX.out.lt
            refine (off_rep w4 pk D HX.out.d.rep).mono ?_
            rintro e w' ⟨rfl, rfl⟩
            by_cases hoff : D.off = true
            · rw [hoff]
              have HOFF := Lib.hid hoff
              clear hoff
              go_wp2_with fail
              refine (two_syncD HX.out).mono ?_
              rintro e w5 ⟨p5, hp5, rfl, h5, m5⟩
              obtain ⟨g22, hc5⟩ := CS1.out HOFF.out
              rw [g22, HPD.out]
              have HP5 := Lib.hid (hp5.trans HPD.out)
              have H5 := Lib.hid h5
              have C5 := Lib.hid hc5
              clear hp5 h5 hc5 m5 hbx hbl g22
              go_wp2
              go_roundw
              case rel => exact ⟨k + 1, p5, fk, _, R, by omega, by go_num, HP5.out, H5.out, C5.out⟩
              case measure => simp [intOf]; omega
            · have hoff2 : D.off = false := by simpa using hoff
              rw [hoff2]
              have HOFF := Lib.hid hoff2
              clear hoff hoff2
              go_wp2_with fail
              refine (two_syncD HX.out).mono ?_
              rintro e w5 ⟨p5, hp5, rfl, h5, m5⟩
              have b5 := HBX.out.moveD m5
              have B5 := Lib.hid b5
              have H5 := Lib.hid h5
              have HP5 := Lib.hid (hp5.trans HPD.out)
              obtain ⟨x2, hx2⟩ : ∃ x, D.sync.2 = x := ⟨_, rfl⟩
              rw [hx2] at H5 h5
              rcases CS2.out HOFF.out with ⟨g22, hnn, ho2, hc5⟩ | ⟨gne, hgh, hle, hc5⟩
              · rw [g22]
                rw [hx2] at ho2 hc5
                obtain ⟨cd, ct, wv, hrow⟩ := h5.r.row
                have q1 := HC.out.w0
                have q2 := HC.out.s0
                have C5 := Lib.hid hc5
                have HO2 := Lib.hid ho2
                have hne : (R.wr + R.sy == n) = true := by simpa using hnn
                rw [← hp5]
                clear hp5 h5 hc5 m5 hbx hbl g22 hx2 b5 ho2
                go_wp2_with fail
                refine (off_rep w5 p5 x2 H5.out.d.rep).mono ?_
                rintro e w' ⟨rfl, rfl⟩
                rw [HO2.out, HP5.out]
                go_wp2
                go_roundw
                case rel => exact ⟨k + 1, p5, fk, _, R, by omega, by go_num, HP5.out, H5.out, C5.out⟩
                case measure => simp [intOf]; omega
              · obtain ⟨gv, hgv⟩ : ∃ gv, D.sync.1 = gv := ⟨_, rfl⟩
                obtain ⟨y2, hy2⟩ : ∃ y, R.sync.2 = y := ⟨_, rfl⟩
                rw [hgv] at gne hgh ⊢
                rw [hx2, hy2] at hc5
                rw [hy2] at hle
                have HGH := Lib.hid hgh
                have HGV := Lib.hid hgv
                have HY2 := Lib.hid hy2
                have C5 := Lib.hid hc5
                have HLE := Lib.hid hle
                rw [HPD.out]
                have hbx5 := b5.row
                have hgb : (gv == 22) = false := by simpa using gne
                clear hp5 hc5 m5 hbx hbl hx2 b5 hgv hgh hle hy2 h5
                go_wp2_with fail
                refine (two_syncR H5.out).mono ?_
                rintro e w6 ⟨rfl, f6, h6, m6⟩
                rw [HGH.out]
                rw [HY2.out] at h6
                have H6 := Lib.hid h6
                obtain ⟨cd, ct, wv, hrow⟩ := h6.r.row
                have q1 := C5.out.w0
                have q2 := C5.out.s0
                have q3 := HLE.out
                have hd : decide (n < y2.wr + y2.sy) = false := by simpa using q3
                clear h6 m6 hbx5
                go_wp2
                go_roundw
                case rel => exact ⟨k + 1, p5, f6, _, _, by omega, by go_num, HP5.out, H6.out, C5.out⟩
                case measure => simp [intOf]; omega
          · clear HBX
            have b0 : (od != 0) = true := by simpa using hd0
            have b1 : (od != 1) = true := by simpa using hd1
            go_wp2
            go_roundw
            case rel => exact ⟨k + 1, pk, fk, D, R, by omega, by go_num, HPD.out, HX.out, HC.out.next⟩
            case measure => simp [intOf]; omega
      · obtain rfl : k = q := by omega
        obtain ⟨ce1, ce2, ce3⟩ := cut_end HC.out
        have CE1 := Lib.hid ce1
        have CE2 := Lib.hid ce2
        have CE3 := Lib.hid ce3
        clear ce1 ce2 ce3
        go_wp2_with fail
        rw [← HPD.out]
        refine (two_crashD HT.out _ [] (IntsAt.nilv w none 0)).mono ?_
        rintro e w6 ⟨p6, hp6, rfl, h6, -⟩
        rw [CE1.out, ← hp6]
        have H6 := Lib.hid h6
        clear h6 hp6
        go_wp2_with fail
        refine (two_crashR H6.out _ [] (IntsAt.nilv w none 0)).mono ?_
        rintro e w7 ⟨rfl, f7, h7, -⟩
        rw [CE2.out]
        rw [CE3.out] at h7
        have H7 := Lib.hid h7
        clear h7
        go_wp2_with fail
        refine (images_same w7 p6 _ H7.out.d.rep f7 r gd gt H7.out.r (by rw [crash_len0]; simp)).mono ?_
        rintro e w8 ⟨rfl, f8⟩
        have F8 := Lib.hid (H7.out.d.fr.trans f8 (fun _ _ h => h))
        clear f8
        go_wp2
        go_ret
        exact ⟨rfl, F8.out.below (Nat.le_refl _) (fun _ _ h => h)⟩

theorem cuts_any (w : World) (b n : Int) (vo : Value) (l : List OpV) (ho : OpsAt w vo l) (h64 : n ≤ 9223372036854775807) :
    Calls Try.prog 5 #[.int .i64 b, .int .i64 n, vo] w fun e w' => e = .returned (.bool true) ∧ Below w.heap.size w w' := by
  by_cases hb : b < 1 ∨ 16384 < b
  · exact cuts_bad w b n vo hb
  · obtain ⟨m, rfl⟩ : ∃ m : Nat, b = m := ⟨b.toNat, by omega⟩
    exact cuts_ok w m n vo l ho (by omega) (by omega) h64

theorem cuts_args (w : World) (b n : Int) (vo : Value) (l : List OpV) (h1 : (Lit.int .i64 n).wf = true) (ho : OpsAt w vo l) :
    Calls Try.prog 5 #[.int .i64 b, .int .i64 n, vo] w fun e w' => e = .returned (.bool true) ∧ Below w.heap.size w w' := by
  refine cuts_any w b n vo l ho ?_
  simp [Lit.wf, IntKind.min, IntKind.max] at h1
  have := h1.2
  first | exact this | (simp [IntKind.bits, IntKind.signed] at this; omega)

end Go.Proofs.Ytflnlpbcmcfblaa
