/-
  The reference of package disk: Sync.
-/
import Derived.Test.YtflnlpbcmcfblaaRef6
namespace Go.Proofs.Ytflnlpbcmcfblaa
open Go.RowKit

set_option maxRecDepth 20000 in
set_option maxHeartbeats 1000000 in
theorem rsync_off (w : World) (f : Nat → Prop) (r gd gt : Nat) (S : DS) (h : RRep w f r gd gt S) (ho : S.off = true) :
    Calls Try.prog 34 #[.pointer (some ⟨r, 0, none⟩)] w fun e w' => e = .returned (.int .i64 22) ∧ w = w' := by
  obtain ⟨cd, ct, wv, hrow⟩ := h.row
  rw [ho] at hrow
  clear h ho
  go_enter Try.func34, Try.ntmps34
  go_wp2
  go_ret
  exact ⟨rfl, rfl⟩

set_option maxRecDepth 20000 in
set_option maxHeartbeats 1000000 in
theorem rsync_out (w : World) (f : Nat → Prop) (r gd gt : Nat) (S : DS) (h : RRep w f r gd gt S) (ho : S.off = false) (hg : S.goesB = false) :
    Calls Try.prog 34 #[.pointer (some ⟨r, 0, none⟩)] w fun e w' => e = .returned (.int .i64 22) ∧ RRep w' f r gd gt S.goes ∧ Fr (fun k => k = r) w w' := by
  obtain ⟨cd, ct, wv, hrow⟩ := h.row
  have H := Lib.hid h
  have HG := Lib.hid hg
  rw [ho] at hrow
  clear h ho hg
  go_enter Try.func34, Try.ntmps34
  go_wp2_with fail
  refine (power_any w f r gd gt S H.out).mono ?_
  rintro e w1 ⟨rfl, h1, f1⟩
  rw [HG.out]
  clear hrow
  go_wp2
  go_ret
  exact ⟨rfl, h1, f1⟩

set_option maxRecDepth 20000 in
set_option maxHeartbeats 2000000 in
theorem rsync_ok (w : World) (f : Nat → Prop) (r gd gt : Nat) (S : DS) (h : RRep w f r gd gt S) (ho : S.off = false) (hg : S.goesB = true) :
    Calls Try.prog 34 #[.pointer (some ⟨r, 0, none⟩)] w fun e w' => e = .returned (.int .i64 0) ∧ ∃ f', RRep w' f' r gd gt { S.goes.layAll S.pend with pend := [], sy := wrap64 (S.sy + 1) } ∧ Moves f f' w w' := by
  obtain ⟨cd, ct, wv, hrow⟩ := h.row
  have H := Lib.hid h
  have HG := Lib.hid hg
  rw [ho] at hrow
  clear h ho hg
  go_enter Try.func34, Try.ntmps34
  go_wp2_with fail
  refine (power_any w f r gd gt S H.out).mono ?_
  rintro e w1 ⟨rfl, h1, f1⟩
  rw [HG.out]
  clear hrow
  have H1 := Lib.hid h1
  have M1 := Lib.hid (show Moves f f w w1 from ⟨f1.mono (fun k _ e => by rw [e]; exact H.out.fr), fun _ h => .inl h⟩)
  clear h1 f1
  go_wp2
  go_loopw [3] (fun i wr => ∃ (k : Nat) (fk : Nat → Prop), k ≤ S.pend.length ∧ i = .int .i64 k ∧ RRep wr fk r gd gt (S.goes.layAll (S.pend.take k)) ∧ Moves f fk w wr) (fun i _ => S.pend.length - (intOf i).toNat)
  case atStart => exact ⟨0, f, Nat.zero_le _, rfl, H1.out, M1.out⟩
  case round =>
    obtain ⟨k, fk, hk, rfl, hrep, hmv⟩ := hrel
    have HREP := Lib.hid hrep
    have HMV := Lib.hid hmv
    have LF := Lib.hid (layAll_fields (S.pend.take k) S.goes)
    obtain ⟨cd2, ct2, wv2, hrow2, xs, hox, hsx, hlx, hex⟩ := hrep.ex
    have hpl : (S.goes.layAll (S.pend.take k)).pend = S.pend := LF.out.1
    have hlr := hrep.lr
    rw [hpl] at hlx hex
    have hxl : xs.length = S.pend.length := by rw [hlx]; simp [pendI]
    have TS := Lib.hid (fun hh => layAll_take_succ S.goes S.pend k hh)
    obtain ⟨T, hT⟩ : ∃ T, S.goes.layAll (S.pend.take k) = T := ⟨_, rfl⟩
    rw [hT] at HREP LF TS hrow2 hpl
    have HT := Lib.hid hT
    clear hT hrep hmv cd ct wv
    by_cases hlt : k < S.pend.length
    · obtain ⟨vd, e1, e2, e3⟩ := hex k (by omega) (by rw [← hlx]; omega)
      have E2 := Lib.hid e2
      have E3 := Lib.hid e3
      rcases hox with ⟨rfl, rfl⟩ | ⟨gx, cx, rfl, b1, b2, ⟨b3, b3p⟩, b4, b5, b6⟩
      · simp at hxl; omega
      have hc := b6 k (by omega)
      rw [e1] at hc
      have hb : k * 2 + 2 ≤ (rowOf wr gx).size := by have := Nat.mul_le_mul_right 2 (show k + 1 ≤ cx by omega); omega
      have g0 := cut_get (cur := rowOf wr gx) (off := k * 2) (n := 2) hb 0 (by omega)
      have g1 := cut_get (cur := rowOf wr gx) (off := k * 2) (n := 2) hb 1 (by omega)
      rw [hc] at g0 g1
      have hp0 : (pendI S.pend)[k]'(by rw [← hlx]; omega) = ((S.pend[k].1 : Int), S.pend[k].2) := by simp [pendI]
      rw [hp0] at E2 g0 g1
      obtain ⟨q1, q2⟩ := H.out.ok.pe _ (List.getElem_mem hlt)
      have TK := Lib.hid (TS.out hlt)
      obtain ⟨⟨ka, b⟩, hq⟩ : ∃ q, S.pend[k] = q := ⟨_, rfl⟩
      rw [hq] at q1 q2 E2 g0 g1 TK
      simp only at q1 q2 E2 g0 g1
      have c0 : (rowOf wr gx)[k * 2]? = some (.int .i64 ka) := by simpa using g0.symm
      have c1 : (rowOf wr gx)[k * 2 + 1]? = some vd := by simpa using g1.symm
      have hki : (k : Int) < (S.pend.length : Int) := by omega
      have hka : ka < T.data.length := by rw [LF.out.2.2.2.2.2.2.1]; exact q1
      have hpm : S.pend.length ≤ 9223372036854775807 := by simp only [maxLen] at b4; omega
      rw [hxl] at hrow2
      clear b3 b3p b4 b5 b6 b1 hc hb g0 g1 hp0 hex hsx hlx hq e1 e2 e3 hxl LF
      go_wp2_with fail
      refine (rlay_any wr fk r gd gt T HREP.out ka b hka q2 vd E2.out.at_ (fun j hj => ⟨(E3.out j hj).2.2.1, (E3.out j hj).2.2.2⟩)).mono ?_
      rintro e w3 ⟨rfl, f3, h3, m3⟩
      have H3 := Lib.hid h3
      have M3 := Lib.hid m3
      clear h3 m3 hrow2 c0 c1
      go_wp2
      go_roundw
      case rel => exact ⟨k + 1, f3, by omega, by go_num, by rw [TK.out]; exact H3.out, HMV.out.trans M3.out⟩
      case measure => simp [intOf]; omega
    · obtain rfl : k = S.pend.length := by omega
      have hl : ∃ a c, wv2 = .slice a S.pend.length c := by
        obtain ⟨a, c, e⟩ := hox.len
        exact ⟨a, c, by rw [e, hxl]⟩
      obtain ⟨a2, c2, rfl⟩ := hl
      have HR2 := Lib.hid hrow2
      have OKT : DS.Ok { T with pend := [], sy := wrap64 (S.sy + 1) } := by
        have h := HREP.out.ok
        exact ⟨h.n0, h.n1, h.tl, h.dl, fun q hq => by simp at hq, h.l0, h.l1⟩
      have hsy : T.sy = S.sy := LF.out.2.2.2.2.2.1
      have OKH := Lib.hid OKT
      have HSY := Lib.hid hsy
      clear hex hsx hlx hox OKT hsy
      go_wp2
      go_ret
      have eT : S.goes.layAll S.pend = T := by have := HT.out; rwa [List.take_of_length_le (Nat.le_refl _)] at this
      rw [eT]
      refine ⟨rfl, fk, ?_, ⟨HMV.out.fr.trans ((Fr.refl (fun k => k = r) wr).setRow _ _ (fun _ => rfl)) (fun j hj e => ?_), HMV.out.new⟩⟩
      · rw [← HSY.out]
        exact HREP.out.set (S' := { T with pend := [], sy := wrap64 (T.sy + 1) }) HR2.out rfl rfl (HSY.out.symm ▸ OKH.out) rfl rfl rfl rfl (.inr ⟨rfl, rfl⟩)
      · rw [e]; exact H.out.fr

theorem rsync_any (w : World) (f : Nat → Prop) (r gd gt : Nat) (S : DS) (h : RRep w f r gd gt S) :
    Calls Try.prog 34 #[.pointer (some ⟨r, 0, none⟩)] w fun e w' => e = .returned (.int .i64 S.sync.1) ∧ ∃ f', RRep w' f' r gd gt S.sync.2 ∧ Moves f f' w w' := by
  by_cases ho : S.off = true
  · refine (rsync_off w f r gd gt S h ho).mono ?_
    rintro e w' ⟨rfl, rfl⟩
    have hr : S.ready 0 = 22 := by simp [DS.ready, readyI, ho]
    have e1 : S.sync = (22, S) := by unfold DS.sync; rw [if_pos (by rw [hr]; simp), hr]
    rw [e1]
    exact ⟨rfl, f, h, Moves.refl _ _⟩
  · have ho' : S.off = false := by simpa using ho
    have hr : S.ready 0 = 0 := ready0 h.ok ho'
    by_cases hg : S.goesB = false
    · refine (rsync_out w f r gd gt S h ho' hg).mono ?_
      rintro e w' ⟨rfl, r1, f1⟩
      have e1 : S.sync = (22, S.goes) := by unfold DS.sync; rw [if_neg (by rw [hr]; simp), if_pos hg]
      rw [e1]
      exact ⟨rfl, f, r1, ⟨f1.mono (fun k _ e => by rw [e]; exact h.fr), fun _ h => .inl h⟩⟩
    · have e1 : S.sync = (0, { S.goes.layAll S.pend with pend := [], sy := wrap64 (S.sy + 1) }) := by unfold DS.sync; rw [if_neg (by rw [hr]; simp), if_neg hg]
      rw [e1]
      exact rsync_ok w f r gd gt S h ho' (by simpa using hg)

end Go.Proofs.Ytflnlpbcmcfblaa
