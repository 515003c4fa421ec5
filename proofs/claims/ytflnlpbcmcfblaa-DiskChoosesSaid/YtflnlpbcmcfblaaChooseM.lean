/-
  DiskChooses: the walk.
-/
import Derived.Deep.CutRange
import Derived.Test.YtflnlpbcmcfblaaChooseP
import Derived.Test.YtflnlpbcmcfblaaLoadBad
namespace Go.Proofs.Ytflnlpbcmcfblaa
open Go.RowKit

set_option maxRecDepth 20000 in
set_option maxHeartbeats 4000000 in
theorem chooses_bad (w : World) (v0 v1 v2 v3 : Value) (hb : ∀ w', Fr (fun _ => False) w w' → Calls Try.prog 30 #[v0, v1] w' fun e w2 => e = .returned (.tuple #[.pointer none, .int .i64 1]) ∧ Fr (fun _ => False) w' w2) :
    Calls Try.prog 6 #[v0, v1, v2, v3] w fun e w' => e = .returned (.bool true) ∧ Below w.heap.size w w' := by
  have HB := Lib.hid hb
  clear hb
  go_enter Try.func6, Try.ntmps6
  go_wp2_with fail
  refine (begun2_any w).mono ?_
  rintro e w1 ⟨rfl, f1⟩
  have F1 := Lib.hid f1
  clear f1
  go_wp2_with fail
  refine (HB.out w1 F1.out).mono ?_
  rintro e w2 ⟨rfl, f2⟩
  have F2 := Lib.hid (F1.out.trans f2 (fun _ _ h => h))
  clear f2
  go_wp2
  go_ret
  exact ⟨rfl, F2.out.below (Nat.le_refl _) (fun _ _ h => h)⟩

/-- What lies there when the blocks are looked at. -/
structure Seen (w : World) (p : DP) (S1 S2 : DS) (N gi ei gj ej : Nat) (vt vu : Value) (vw : Value) : Prop where
  rep : DiskRep w p S2
  was : BytesAt w (.slice (some ⟨gi, 0, none⟩) (N * 64) (N * 64 + ei)) S1.img
  now : BytesAt w (.slice (some ⟨gj, 0, none⟩) (N * 64) (N * 64 + ej)) S2.img
  wt : IntsAt w vt S1.tornL
  nt : IntsAt w vu S2.tornL
  wait : PendAt w vw (pendI S1.pend)

theorem Seen.still {w w' : World} {p : DP} {S1 S2 : DS} {N gi ei gj ej : Nat} {vt vu vw : Value} (h : Seen w p S1 S2 N gi ei gj ej vt vu vw) (f : Fr (fun _ => False) w w') : Seen w' p S1 S2 N gi ei gj ej vt vu vw :=
  ⟨h.rep.keep f (fun _ _ h => h), h.was.later f, h.now.later f, h.wt.later f, h.nt.later f, h.wait.later f⟩

set_option maxRecDepth 20000 in
set_option maxHeartbeats 4000000 in
theorem chooses_ok (w : World) (gi oi cap : Nat) (image : List UInt8) (tv : Value) (torn : List Int) (n : Nat) (hn : image.length = n * 64) (hcap : image.length ≤ cap) (h1 : 1 ≤ n) (h2 : n ≤ 16384)
    (hx : oi + image.length ≤ (rowOf w gi).size) (hc : cut (rowOf w gi) oi image.length = bvA image) (ht : IntsAt w tv torn) (hok : ∀ t ∈ torn, 0 ≤ t ∧ t < n)
    (vo : Value) (l : List OpV) (ho : OpsAt w vo l) (vk : Value) (K : List Int) (hk : IntsAt w vk K) :
    Calls Try.prog 6 #[.slice (some ⟨gi, oi, none⟩) image.length cap, tv, vo, vk] w fun e w' => e = .returned (.bool true) ∧ Below w.heap.size w w' := by
  have HO := Lib.hid ho
  have HK := Lib.hid hk
  have LL := Lib.hid (show l.length ≤ 2199023255552 by obtain ⟨_, _, _, h, _⟩ := ho; exact h)
  have C1 := Lib.hid (show ∀ w', Fr (fun _ => False) w w' → _ from fun w' f => by
    have hg := f.row (rowOf_lt (w := w) (g := gi) (by omega)) (fun h => h)
    exact load_ok w' gi oi cap image tv torn n hn hcap h1 h2 (by rw [hg]; exact hx) (by rw [hg]; exact hc) (ht.later f) hok)
  have e3 : image.length / 64 = n := by rw [hn]; simp
  have SF := Lib.hid (show (DS.load image torn).pend = [] ∧ (DS.load image torn).off = false ∧ (DS.load image torn).pl = false ∧ (DS.load image torn).data.length = n by
    unfold DS.load
    obtain ⟨t1, t2, t3, t4, t5, t6, t7, t8⟩ := tearAll_fields torn (DS.laidUpto image (image.length / 64) (image.length / 64))
    obtain ⟨q1, q2, q3, q4, q5, q6, q7, q8⟩ := laidUpto_fields image (image.length / 64) (image.length / 64)
    exact ⟨t3.trans q3, t4.trans q4, t5.trans q5, by rw [t1, q1, e3]⟩)
  obtain ⟨L, hL⟩ : ∃ L, image.length = L := ⟨_, rfl⟩
  rw [hL] at C1 ⊢
  obtain ⟨S0, hS0⟩ : ∃ S0, DS.load image torn = S0 := ⟨_, rfl⟩
  rw [hS0] at C1 SF
  obtain ⟨sp, so, sl, sn⟩ := SF.out
  obtain ⟨wf1, wf2, wf3, wf4, wf5, wf6, wf7⟩ := wAll_fields l S0 so sl
  have PB := Lib.hid (show (S0.wAll l).pend.length ≤ 2199023255552 by rw [wf7, sp, List.nil_append]; have h1 := wPend_len S0.data.length l; have h2 := LL.out; omega)
  have NB := Lib.hid (show (S0.wAll l).data.length = n by rw [wf3]; exact sn)
  obtain ⟨S1, hS1⟩ : ∃ S1, S0.wAll l = S1 := ⟨_, rfl⟩
  rw [hS1] at PB NB
  have HS1 := Lib.hid hS1
  clear ho hk hn hcap hx hc ht hok hL hS0 e3 sp so sl sn wf1 wf2 wf3 wf4 wf5 wf6 wf7 hS1
  go_enter Try.func6, Try.ntmps6
  go_wp2_with fail
  refine (begun2_any w).mono ?_
  rintro e w1 ⟨rfl, f1⟩
  have F1 := Lib.hid f1
  clear f1
  go_wp2_with fail
  refine (C1.out w1 F1.out).mono ?_
  rintro e w2 ⟨p, rfl, r2, f2, hf2⟩
  have S2 := Lib.hid (show St w w2 p S0 from ⟨F1.out.trans f2 (fun _ _ h => h), r2, fun k hk => by have := hf2 k hk; have := F1.out.size; omega⟩)
  clear r2 f2 hf2 C1
  go_wp2_with fail
  refine (blocks_rep w2 p S0 S2.out.rep).mono ?_
  rintro e w' ⟨rfl, rfl⟩
  rw [SF.out.2.2.2]
  go_wp2_with fail
  refine (writes_any w w2 p S0 S2.out _ l HO.out SF.out.2.1 SF.out.2.2.1 (by rw [SF.out.1]; have := LL.out; simpa using this) n SF.out.2.2.2).mono ?_
  rintro e w3 ⟨p3, g3, hp3, rfl, s3, -, -⟩
  rw [HS1.out] at s3
  rw [← hp3]
  have S3 := Lib.hid s3
  clear s3 hp3
  go_wp2_with fail
  refine (image_any w3 p3 S1 S3.out.rep).mono ?_
  rintro e w4 ⟨vi, vt, rfl, oi4, ot4, -, f4⟩
  have S4 := Lib.hid (S3.out.calm f4 (fun _ h => h.elim))
  have OI4 := Lib.hid oi4
  have OT4 := Lib.hid ot4
  have FL := Lib.hid (show ∀ k, p3.foot k → k < w3.heap.size from fun k hk => S3.out.lt hk)
  have Z4 := Lib.hid f4.size
  clear oi4 ot4 f4
  go_wp2_with fail
  refine (pending_any w4 p3 S1 S4.out.rep (by have := PB.out; omega)).mono ?_
  rintro e w5 ⟨vw, rfl, ow5, f5⟩
  have S5 := Lib.hid (S4.out.calm f5 (fun _ h => h.elim))
  have OI5 := Lib.hid (OI4.out.keep f5 (fun _ _ h => h))
  have OT5 := Lib.hid (OT4.out.keep f5 (fun _ _ h => h))
  have OW5 := Lib.hid ow5
  clear ow5 f5
  go_wp2_with fail
  refine (crash_any2 w w5 p3 S1 S5.out vk K HK.out).mono ?_
  rintro e w6 ⟨p6, hp6, rfl, s6, m6⟩
  have S6 := Lib.hid s6
  have OI6 := Lib.hid (OI5.out.keep m6.fr (fun k hk hf => by have := (OI4.out.lt hk).1; have := FL.out k hf; omega))
  have OT6 := Lib.hid (OT5.out.keep m6.fr (fun k hk hf => by have := (OT4.out.lt hk).1; have := FL.out k hf; omega))
  have OW6 := Lib.hid (OW5.out.keep m6.fr (fun k hk _ hf => by have := FL.out k hf; have := Z4.out; omega))
  rw [← hp6]
  clear s6 m6 hp6 OI4 OT4 OI5 OT5 OW5
  by_cases hbad : S1.pend.length < K.length ∨ ¬ (∀ k ∈ K, 0 ≤ k ∧ k ≤ 2)
  · have hcr : S1.crash K = (1, S1) := by
      unfold DS.crash
      by_cases hh : S1.pend.length < K.length
      · rw [if_pos hh]
      · rw [if_neg hh, if_pos (hbad.resolve_left hh)]
    rw [hcr] at S6 ⊢
    clear hcr hbad
    go_wp2_with fail
    refine (pending_any w6 p6 S1 S6.out.rep (by have := PB.out; omega)).mono ?_
    rintro e w7 ⟨v7, rfl, o7, f7⟩
    have S7 := Lib.hid (S6.out.calm f7 (fun _ h => h.elim))
    have O7 := Lib.hid o7.at_
    have OW7 := Lib.hid (OW6.out.at_.later f7)
    clear o7 f7
    go_wp2_with fail
    refine (alikePending_same w7 v7 vw _ O7.out OW7.out).mono ?_
    rintro e w8 ⟨rfl, f8⟩
    have S8 := Lib.hid (S7.out.calm f8 (fun _ h => h.elim))
    clear f8
    go_wp2
    go_ret
    exact ⟨rfl, S8.out.fr.below (Nat.le_refl _) (fun _ _ h => h)⟩
  · have hg1 : K.length ≤ S1.pend.length := by omega
    have hg2 : ∀ k ∈ K, 0 ≤ k ∧ k ≤ 2 := Classical.byContradiction (fun e => hbad (.inr e))
    have hcr := crash_good (S := S1) hg1 hg2
    rw [hcr] at S6 ⊢
    obtain ⟨T, hT⟩ : ∃ T, ({ S1.keepAll (S1.pend.zip K) with pend := [], off := false, pl := false, left := 0 } : DS) = T := ⟨_, rfl⟩
    have TF := Lib.hid (show T.data = (S1.keepAll (S1.pend.zip K)).data ∧ T.torn = (S1.keepAll (S1.pend.zip K)).torn ∧ T.pend = [] ∧ T.off = false ∧ T.data.length = n by
      rw [← hT]; exact ⟨rfl, rfl, rfl, rfl, by rw [← NB.out]; exact (keepAll_fields _ _).2.2.2⟩)
    rw [hT] at S6
    clear hbad hcr hg1 hg2 hT
    go_wp2_with fail
    refine (image_any w6 p6 T S6.out.rep).mono ?_
    rintro e w7 ⟨vj, vu, rfl, oj7, ou7, -, f7⟩
    have OKS := Lib.hid S5.out.rep.ok
    have OKT := Lib.hid S6.out.rep.ok
    have i6 := OI6.out
    obtain ⟨ga, ea, rfl, i6c⟩ := i6
    obtain ⟨gb, eb, rfl, j7c⟩ := id oj7
    have l1 : S1.img.length = n * 64 := by rw [img_len OKS.out, NB.out]
    have l2 : T.img.length = n * 64 := by rw [img_len OKT.out, TF.out.2.2.2.2]
    have SEEN := Lib.hid (show Seen w7 p6 S1 T n ga ea.length gb eb.length vt vu vw from by
      refine ⟨S6.out.rep.keep f7 (fun _ _ h => h), ?_, ?_, OT6.out.ints.later f7, ou7.ints, OW6.out.at_.later f7⟩
      · have := OI6.out.at_.later f7; rw [l1] at this; exact this
      · have := oj7.at_; rw [l2] at this; exact this)
    have S7 := Lib.hid (S6.out.fr.trans f7 (fun _ _ h => h))
    rw [l1, l2]
    clear i6c j7c f7 oj7 ou7 l1 l2 OI6 OT6 OW6
    go_wp2_with fail
    refine (blocks_rep w7 p6 T SEEN.out.rep).mono ?_
    rintro e w' ⟨rfl, rfl⟩
    rw [TF.out.2.2.2.2]
    clear S2 S3 S4 S5 S6
    obtain ⟨aw, cw, rfl, hm63, -⟩ := id SEEN.out.wait
    obtain ⟨m, hmm⟩ : ∃ m, (pendI S1.pend).length = m := ⟨_, rfl⟩
    have HMM := Lib.hid hmm
    have HMP := Lib.hid (show S1.pend.length = m by rw [← hmm]; simp [pendI])
    rw [hmm] at SEEN hm63 ⊢
    clear hmm
    go_wp2
    go_loopw [18, 19, 20, 21, 22, 23, 25, 26, 27, 75] (fun _ _ _ _ _ _ _ _ _ i wr => ∃ k : Nat, k ≤ n ∧ i = .int .i64 k ∧ Fr (fun _ => False) w7 wr) (fun _ _ _ _ _ _ _ _ _ i _ => n - (intOf i).toNat)
    case atStart => exact ⟨0, Nat.zero_le _, rfl, Fr.refl _ _⟩
    case round =>
      obtain ⟨k, hk, rfl, hf⟩ := hrel
      have HF := Lib.hid hf
      have SW := Lib.hid (SEEN.out.still hf)
      clear hf
      by_cases hlt : k < n
      · have hki : (k : Int) < (n : Int) := by omega
        obtain ⟨fr, hfr⟩ : ∃ fr, k * 64 = fr := ⟨_, rfl⟩
        have hfk : fr + 64 ≤ n * 64 := by rw [← hfr]; have := Nat.mul_le_mul_right 64 (show k + 1 ≤ n from hlt); omega
        have E1 := Lib.hid (show ((k : Int) * 64) = (fr : Int) by omega)
        have E2 := Lib.hid (show (((k : Int) + 1) * 64) = (fr : Int) + 64 by omega)
        have HFR := Lib.hid hfr
        clear hfr
        have kt1 : k < S1.torn.length := by rw [OKS.out.tl, NB.out]; exact hlt
        have kt2 : k < T.torn.length := by rw [OKT.out.tl, TF.out.2.2.2.2]; exact hlt
        have kc1 : k < S1.chunks.length := by rw [DS.chunks_len OKS.out, NB.out]; exact hlt
        have kc2 : k < T.chunks.length := by rw [DS.chunks_len OKT.out, TF.out.2.2.2.2]; exact hlt
        have M1 := Lib.hid (mem_tornL (S := S1) kt1)
        have M2 := Lib.hid (mem_tornL (S := T) kt2)
        obtain ⟨ch1, ch2⟩ := choose_seen (K := K) OKS.out (by rw [NB.out]; exact hlt) OKT.out TF.out.1 TF.out.2.1 kt1 kt2 kc1 kc2
        have CH1 := Lib.hid ch1
        have CH2 := Lib.hid ch2
        have RD := Lib.hid (read_crashed (k := k) TF.out.2.2.1 TF.out.2.2.2.1 (by rw [TF.out.2.2.2.2]; exact hlt) kt2)
        have BW := Lib.hid (show ∀ wx, Fr (fun _ => False) w7 wx → BytesAt wx (.slice (some ⟨ga, fr, none⟩) 64 (n * 64 + ea.length - fr)) S1.chunks[k] from fun wx f => by
          have := (SEEN.out.still f).was.block fr (by rw [img_len OKS.out, NB.out]; exact hfk)
          rw [Nat.zero_add, ← HFR.out, img_chunk OKS.out kc1, HFR.out] at this
          exact this)
        have BN := Lib.hid (show ∀ wx, Fr (fun _ => False) w7 wx → BytesAt wx (.slice (some ⟨gb, fr, none⟩) 64 (n * 64 + eb.length - fr)) T.chunks[k] from fun wx f => by
          have := (SEEN.out.still f).now.block fr (by rw [img_len OKT.out, TF.out.2.2.2.2]; exact hfk)
          rw [Nat.zero_add, ← HFR.out, img_chunk OKT.out kc2, HFR.out] at this
          exact this)
        obtain ⟨t1, ht1⟩ : ∃ t, S1.torn[k] = t := ⟨_, rfl⟩
        obtain ⟨t2, ht2⟩ : ∃ t, T.torn[k] = t := ⟨_, rfl⟩
        obtain ⟨c1, hc1⟩ : ∃ t, S1.chunks[k] = t := ⟨_, rfl⟩
        obtain ⟨c2, hc2⟩ : ∃ t, T.chunks[k] = t := ⟨_, rfl⟩
        rw [ht1] at M1
        rw [ht2] at M2 RD
        rw [hc1, hc2, ht1, ht2] at CH1
        rw [ht1, ht2] at CH2
        rw [hc1] at BW
        rw [hc2] at BN
        have hna : ¬ (n * 64 + ea.length = fr) := by omega
        have hnb : ¬ (n * 64 + eb.length = fr) := by omega
        have hfi : (fr : Int) + 64 ≤ (n : Int) * 64 := by omega
        have hfi2 : ¬ ((n : Int) * 64 < (fr : Int) + 64) := by omega
        clear ht1 ht2 hc1 hc2 kt1 kt2 kc1 kc2 ch1 ch2
        go_wp2_with fail
        rw [E1.out, E2.out]
        refine (has_any wr vu T.tornL k SW.out.nt).mono ?_
        rintro e w' ⟨rfl, rfl⟩
        rw [M2.out]
        go_upto_region 22 with fail
        go_cut [22] from 76 to 168 (fun s wx => s = .bool (decide (c2 = c1) && (t2 == t1)) ∧ Fr (fun _ => False) wr wx)
        case first =>
          by_cases hcc : c2 = c1
          · have HD := Lib.hid (show decide (c2 = c1) = true by simpa using hcc)
            clear hcc
            go_quiet (first | (go_at_call 26; refine Calls.quiet_of_same ((alike_any _ _ _ c2 c1 (BN.out _ (HF.out.drewN _)) (BW.out _ (HF.out.drewN _))).mono (fun e w' hh => ⟨hh.1.trans (by rw [HD.out]), hh.2.symm⟩))) | (go_at_call 39; refine Calls.quiet_of_same ((has_any _ vt S1.tornL k (SW.out.wt.later ((Fr.refl _ wr).drewN _))).mono (fun e w' hh => ⟨hh.1.trans (by rw [M1.out]), hh.2.symm⟩))))
            go_wp2_with fail
            go_meet
            case rel => exact ⟨by rw [HD.out]; simp, (Fr.refl _ wr).drewN _⟩
          · have HD := Lib.hid (show decide (c2 = c1) = false by simpa using hcc)
            clear hcc
            go_quiet (first | (go_at_call 26; refine Calls.quiet_of_same ((alike_any _ _ _ c2 c1 (BN.out _ (HF.out.drewN _)) (BW.out _ (HF.out.drewN _))).mono (fun e w' hh => ⟨hh.1.trans (by rw [HD.out]), hh.2.symm⟩))))
            go_wp2_with fail
            go_meet
            case rel => exact ⟨by rw [HD.out]; simp, (Fr.refl _ wr).drewN _⟩
        case rest =>
          obtain ⟨rfl, hfc⟩ := hcut
          have FC := Lib.hid (HF.out.trans hfc (fun _ _ h => h))
          clear hfc
          obtain ⟨s0, hs0⟩ : ∃ s0, (decide (c2 = c1) && (t2 == t1)) = s0 := ⟨_, rfl⟩
          have SE := Lib.hid (sameJ_end CH1.out)
          have HS0 := Lib.hid hs0
          rw [hs0] at SE ⊢
          rw [HMP.out] at SE
          clear hs0
          go_wp2
          go_loopw [22, 23, 25, 114] (fun s pd _ i wi => ∃ j : Nat, j ≤ m ∧ i = .int .i64 j ∧ s = .bool (sameJ S1.pend k t2 c2 s0 j) ∧ pd = .bool (pendJ S1.pend k j) ∧ Fr (fun _ => False) w7 wi) (fun _ _ _ i _ => m - (intOf i).toNat)
          case atStart => exact ⟨0, Nat.zero_le _, rfl, by rw [sameJ_zero], rfl, FC.out⟩
          case round =>
            obtain ⟨j, hj, rfl, rfl, rfl, hfi⟩ := hrel
            have FI := Lib.hid hfi
            have SI := Lib.hid (SEEN.out.still hfi)
            clear hfi
            by_cases hjm : j < m
            · have hji : (j : Int) < (m : Int) := by omega
              have hjp : j < S1.pend.length := by have := HMP.out; omega
              have hjl : j < (pendI S1.pend).length := by have := HMM.out; omega
              have JS := Lib.hid (sameJ_succ k t2 c2 s0 hjp)
              have JP := Lib.hid (pendJ_succ k hjp)
              obtain ⟨a', c', he, -, hnil | ⟨gw, ow, hax, hcell⟩⟩ := SI.out.wait
              · exfalso; rw [hnil] at hjl; simp at hjl
              obtain ⟨u, r0, r1, yb⟩ := hcell j hjl
              simp only [Value.slice.injEq] at he
              obtain ⟨rfl, -, -⟩ := he
              subst hax
              have hp0 : (pendI S1.pend)[j] = ((S1.pend[j].1 : Int), S1.pend[j].2) := by simp [pendI]
              rw [hp0] at r0 yb
              obtain ⟨⟨blk, bq⟩, hq⟩ : ∃ q, S1.pend[j] = q := ⟨_, rfl⟩
              rw [hq] at r0 yb JS JP
              simp only at r0 yb JS JP
              have YB := Lib.hid yb
              obtain ⟨au, cu, rfl, -⟩ := yb
              obtain ⟨sb, hsb⟩ : ∃ b, sameJ S1.pend k t2 c2 s0 j = b := ⟨_, rfl⟩
              obtain ⟨pb, hpb⟩ : ∃ b, pendJ S1.pend k j = b := ⟨_, rfl⟩
              rw [hsb] at JS ⊢
              rw [hpb] at JP ⊢
              clear hq hp0 hcell hjp hjl hsb hpb
              go_upto_region 27 with fail
              obtain ⟨W, hW⟩ : ∃ W, wr.alloc (.cells #[Value.int IntKind.i64 blk, Value.slice au bq.length cu] 44) = W := ⟨_, rfl⟩
              obtain ⟨bx, hbx⟩ : ∃ bx, wr.heap.size = bx := ⟨_, rfl⟩
              have FW := Lib.hid (show Fr (fun _ => False) wr W by rw [← hW]; exact (Fr.refl _ wr).alloc _)
              have RW := Lib.hid (show rowOf W bx = #[Value.int IntKind.i64 blk, Value.slice au bq.length cu] ∧ bx < W.heap.size by rw [← hW, ← hbx]; exact ⟨rowOf_alloc_at _ _ _ _ _ rfl, by simp⟩)
              rw [hW, hbx]
              clear hW hbx
              have rw0 := RW.out.1
              go_cut [23] from 115 to 144 (fun s wx => s = .bool (pb || decide (blk = k)) ∧ wx = W)
              case first =>
                cases pb with
                | true =>
                  go_wp2_with fail
                  go_meet
                  case rel => exact ⟨by simp, rfl⟩
                | false =>
                  by_cases hbk : blk = k
                  · have hb2 : ((blk : Int) == (k : Int)) = true := by simp; omega
                    go_wp2_with fail
                    go_meet
                    case rel => exact ⟨by simp [hbk], rfl⟩
                  · have hb2 : ((blk : Int) == (k : Int)) = false := by simp; omega
                    go_wp2_with fail
                    go_meet
                    case rel => exact ⟨by simp [hbk], rfl⟩
              case rest =>
                obtain ⟨rfl, rfl⟩ := hcut
                have FX := Lib.hid (FI.out.trans FW.out (fun _ _ h => h))
                have YW := Lib.hid (YB.out.later FW.out)
                go_upto_region 28 with fail
                cases sb with
                | true =>
                  go_quiet (fail)
                  go_wp2
                  go_roundw
                  case rel => exact ⟨j + 1, by omega, by go_num, by rw [JS.out]; simp, by rw [JP.out], FX.out.drewN _⟩
                  case measure => simp [intOf]; omega
                | false =>
                  by_cases hbk : blk = k
                  · have hb2 : ((blk : Int) == (k : Int)) = true := by simp; omega
                    cases t2 with
                    | true =>
                      go_quiet (fail)
                      go_wp2
                      go_roundw
                      case rel => exact ⟨j + 1, by omega, by go_num, by rw [JS.out]; simp [hbk], by rw [JP.out], FX.out.drewN _⟩
                      case measure => simp [intOf]; omega
                    | false =>
                      go_quiet (first | (go_at_call 26; refine Calls.quiet_of_same ((alike_any _ _ _ bq c2 (YW.out.later ((Fr.refl _ _).drewN _)) (BN.out _ (FX.out.drewN _))).mono (fun e w' hh => ⟨hh.1, hh.2.symm⟩))))
                      go_wp2
                      go_roundw
                      case rel => exact ⟨j + 1, by omega, by go_num, by rw [JS.out]; simp [hbk], by rw [JP.out], FX.out.drewN _⟩
                      case measure => simp [intOf]; omega
                  · have hb2 : ((blk : Int) == (k : Int)) = false := by simp; omega
                    go_quiet (fail)
                    go_wp2
                    go_roundw
                    case rel => exact ⟨j + 1, by omega, by go_num, by rw [JS.out]; simp [hbk], by rw [JP.out], FX.out.drewN _⟩
                    case measure => simp [intOf]; omega
            · obtain rfl : j = m := by omega
              rw [SE.out]
              obtain ⟨pb, hpb⟩ : ∃ b, pendJ S1.pend k j = b := ⟨_, rfl⟩
              have HPB := Lib.hid hpb
              rw [hpb]
              clear hpb hjm
              cases pb with
              | true =>
                go_wp2_with fail
                refine (read_any wr p6 T (SI.out).rep k).mono ?_
                rintro e w8 ⟨v8, rfl, o8, f8⟩
                rw [RD.out]
                obtain ⟨a8, n8, c8, rfl⟩ := o8.form
                have F8 := Lib.hid ((FI.out).trans f8 (fun _ _ h => h))
                clear o8 f8
                cases t2 with
                | true =>
                  go_wp2
                  go_roundw
                  case rel => exact ⟨k + 1, by omega, by go_num, F8.out⟩
                  case measure => simp [intOf]; omega
                | false =>
                  go_wp2
                  go_roundw
                  case rel => exact ⟨k + 1, by omega, by go_num, F8.out⟩
                  case measure => simp [intOf]; omega
              | false =>
                have htt : t2 = t1 := CH2.out (pendJ_end (by rw [HMP.out]; exact HPB.out))
                have HTT := Lib.hid htt
                clear htt
                go_wp2_with fail
                refine (has_any wr vt S1.tornL k SI.out.wt).mono ?_
                rintro e w' ⟨rfl, rfl⟩
                rw [M1.out, ← HTT.out]
                go_wp2_with fail
                refine (read_any wr p6 T (SI.out).rep k).mono ?_
                rintro e w8 ⟨v8, rfl, o8, f8⟩
                rw [RD.out]
                obtain ⟨a8, n8, c8, rfl⟩ := o8.form
                have F8 := Lib.hid ((FI.out).trans f8 (fun _ _ h => h))
                clear o8 f8
                cases t2 with
                | true =>
                  go_wp2
                  go_roundw
                  case rel => exact ⟨k + 1, by omega, by go_num, F8.out⟩
                  case measure => simp [intOf]; omega
                | false =>
                  go_wp2
                  go_roundw
                  case rel => exact ⟨k + 1, by omega, by go_num, F8.out⟩
                  case measure => simp [intOf]; omega
      · obtain rfl : k = n := by omega
        go_wp2
        go_ret
        exact ⟨rfl, (S7.out.trans HF.out (fun _ _ h => h)).below (Nat.le_refl _) (fun _ _ h => h)⟩

theorem chooses_any (w : World) (a : Option Addr) (cap : Nat) (image : List UInt8) (tv : Value) (torn : List Int) (vo : Value) (l : List OpV) (vk : Value) (K : List Int) (hi : BytesAt w (.slice a image.length cap) image) (hcap : image.length ≤ cap) (hL : image.length ≤ 140737488355328)
    (ht : IntsAt w tv torn) (ho : OpsAt w vo l) (hk : IntsAt w vk K) :
    Calls Try.prog 6 #[.slice a image.length cap, tv, vo, vk] w fun e w' => e = .returned (.bool true) ∧ Below w.heap.size w w' := by
  by_cases hA : image.length % 64 ≠ 0 ∨ image.length / 64 < 1 ∨ 16384 < image.length / 64
  · exact chooses_bad w _ _ _ _ (fun w' _ => (load_bad1 w' a image.length cap tv (by omega) hA).mono fun _ _ h => ⟨h.1, by rw [h.2]; exact Fr.refl _ _⟩)
  · have hn : image.length = (image.length / 64) * 64 := by omega
    have hne : image ≠ [] := by intro e; rw [e] at hA; simp at hA
    obtain ⟨a', cap', he, hnil | ⟨g, off, hax, hx, hc⟩⟩ := hi
    · exact absurd hnil hne
    simp only [Value.slice.injEq] at he
    obtain ⟨rfl, -, rfl⟩ := he
    subst hax
    have hgl := rowOf_lt (w := w) (g := g) (show 0 < (rowOf w g).size by have : 0 < image.length := List.length_pos_iff.2 hne; omega)
    by_cases hT : ∀ t ∈ torn, 0 ≤ t ∧ t < (image.length / 64 : Nat)
    · exact chooses_ok w g off cap image tv torn (image.length / 64) hn hcap (by omega) (by omega) hx hc ht hT vo l ho vk K hk
    · refine chooses_bad w _ _ _ _ (fun w' f => ?_)
      have hg := f.row hgl (fun h => h)
      exact load_bad3 w' g off cap image tv torn (image.length / 64) hn hcap (by omega) (by omega) (by rw [hg]; exact hx) (by rw [hg]; exact hc) (ht.later f) hT

theorem chooses_args (w : World) (a0 : Option Addr) (len0 cap0 : Nat) (z0 : List Int) (a1 : Option Addr) (len1 cap1 : Nat) (z1 : List Int) (vo : Value) (l : List OpV) (a3 : Option Addr) (len3 cap3 : Nat) (z3 : List Int) (w0 : Came .u8 w a0 len0 cap0 z0) (s0 : cap0 * 1 ≤ 140737488351232)
    (w1 : Came .i64 w a1 len1 cap1 z1) (ho : OpsAt w vo l) (w3 : Came .i64 w a3 len3 cap3 z3) :
    Calls Try.prog 6 #[.slice a0 len0 cap0, .slice a1 len1 cap1, vo, .slice a3 len3 cap3] w fun e w' => e = .returned (.bool true) ∧ Below w.heap.size w w' := by
  have h0 := w0.le
  obtain ⟨A, rfl, hA⟩ := bytes_of_row w0
  obtain ⟨K1, rfl, hK1⟩ := ints_of_row w1
  obtain ⟨K3, rfl, hK3⟩ := ints_of_row w3
  exact chooses_any w a0 cap0 A _ K1 vo l _ K3 hA h0 (by omega) hK1 ho hK3

end Go.Proofs.Ytflnlpbcmcfblaa
