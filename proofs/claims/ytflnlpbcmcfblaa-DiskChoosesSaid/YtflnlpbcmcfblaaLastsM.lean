/-
  The walk of DiskLasts.
-/
import Derived.Test.YtflnlpbcmcfblaaLastsP
namespace Go.Proofs.Ytflnlpbcmcfblaa
open Go.RowKit

theorem PendRows.shape {w : World} {v : Value} {l : List (Nat × List UInt8)} {base : Nat} (h : PendRows w v (pendI l) base) : ∃ a c, v = .slice a l.length c := by
  obtain ⟨xs, h1, h2, h3, h4⟩ := h
  obtain ⟨a, c, rfl⟩ := h1.len
  exact ⟨a, c, by rw [h2]; simp [pendI]⟩

theorem IntsAt.own_lt {w : World} {v : Value} {b : List Int} (h : IntsAt w v b) (hb : b ≠ []) {j : Nat} (hj : v.ownBlock = some j) : j < w.heap.size := by
  obtain ⟨a, c, rfl, hm, h | ⟨g, o, rfl, q1⟩⟩ := h
  · exact absurd h hb
  · have e : g = j := by simpa [Value.ownBlock] using hj
    subst e
    have := (Array.getElem?_eq_some_iff.1 (q1 0 (List.length_pos_iff.2 hb))).1
    exact rowOf_lt (by omega)

theorem crash_len0 {S : DS} : S.crash [] = (0, { S with pend := [], off := false, pl := false, left := 0 }) := by
  unfold DS.crash
  rw [if_neg (by simp), if_neg (by simp)]
  simp

theorem crash_any2 (w0 w : World) (p : DP) (S : DS) (h : St w0 w p S) (vk : Value) (l : List Int) (hk : IntsAt w0 vk l) :
    Calls Try.prog 23 #[.pointer (some ⟨p.d, 0, none⟩), vk] w fun e w' => ∃ p', p'.d = p.d ∧ e = .returned (.int .i64 (S.crash l).1) ∧ St w0 w' p' (S.crash l).2 ∧ Moves p.foot p'.foot w w' := by
  by_cases hl : l = []
  · subst hl
    obtain ⟨a, c, rfl, -⟩ := hk
    refine (crash_ok0 w p S h.rep a c).mono ?_
    rintro e w' ⟨rfl, r, f⟩
    rw [crash_len0]
    have m : Moves p.foot ({ p with pv := .slice none 0 0 } : DP).foot w w' := ⟨f, by
      rintro k (rfl | rfl | rfl | hk)
      · exact .inl (.inl rfl)
      · exact .inl (.inr (.inl rfl))
      · exact .inl (.inr (.inr (.inl rfl)))
      · cases hk⟩
    exact ⟨{ p with pv := .slice none 0 0 }, rfl, rfl, h.move m r, m⟩
  · refine (crash_any w p S h.rep vk l (hk.later h.fr) (fun k hk2 hf => ?_)).mono ?_
    · have := hk.own_lt hl hk2
      have := h.foot k hf
      omega
    · rintro e w' ⟨p', h1, rfl, r, m⟩
      exact ⟨p', h1, rfl, h.move m r, m⟩

theorem IntsAt.take {w : World} {a : Option Addr} {cap : Nat} {l : List Int} (h : IntsAt w (.slice a l.length cap) l) (m : Nat) (hm : m ≤ l.length) : IntsAt w (.slice a m cap) (l.take m) := by
  obtain ⟨a', c', he, h1, h2⟩ := h
  simp only [Value.slice.injEq] at he
  obtain ⟨rfl, -, rfl⟩ := he
  have hl : (l.take m).length = m := by simp; omega
  refine ⟨a, cap, by rw [hl], by omega, ?_⟩
  rcases h2 with rfl | ⟨g, o, rfl, q⟩
  · left; simp
  · right
    refine ⟨g, o, rfl, fun i hi => ?_⟩
    rw [q i (by omega)]
    simp

set_option maxRecDepth 20000 in
set_option maxHeartbeats 8000000 in
theorem lasts_any (w : World) (v1 v2 : Value) (a3 : Option Addr) (cap3 : Nat) (A B : List OpV) (K0 : List Int) (hA : OpsAt w v1 A) (hB : OpsAt w v2 B) (hK : IntsAt w (.slice a3 K0.length cap3) K0) (hc3 : K0.length ≤ cap3) :
    Calls Try.prog 3 #[v1, v2, .slice a3 K0.length cap3] w fun e w' => e = .returned (.bool true) ∧ Below w.heap.size w w' := by
  have HA := Lib.hid hA
  have HB := Lib.hid hB
  have HK := Lib.hid hK
  obtain ⟨b1, c1, rfl, lA, -⟩ := hA
  obtain ⟨b2, c2, rfl, lB, -⟩ := hB
  have LA := Lib.hid lA
  have LB := Lib.hid lB
  obtain ⟨nA, hnA⟩ : ∃ q, A.length = q := ⟨_, rfl⟩
  obtain ⟨nB, hnB⟩ : ∃ q, B.length = q := ⟨_, rfl⟩
  obtain ⟨nK, hnK⟩ : ∃ q, K0.length = q := ⟨_, rfl⟩
  have HNK := Lib.hid hnK
  rw [hnA] at HA ⊢
  rw [hnB] at HB ⊢
  rw [hnK] at HK hc3 ⊢
  clear hK lA lB hnA hnB hnK
  obtain ⟨q1, q2, q3, q4, q5, q6⟩ := lastS2_fields 6 (by omega) A
  have Q1 := Lib.hid q1
  have Q2 := Lib.hid q2
  have Q3 := Lib.hid q3
  have Q4 := Lib.hid q4
  have Q5 := Lib.hid q5
  clear q1 q2 q3 q4 q5 q6
  go_enter Try.func3, Try.ntmps3
  go_wp2_with fail
  refine (begun2_any w).mono ?_
  rintro e w1 ⟨rfl, f1⟩
  have F1 := Lib.hid f1
  clear f1
  go_wp2_with fail
  show Calls _ _ #[.int .i64 ((6 : Nat) : Int)] _ _
  refine (new_ok w1 6 (by omega) (by omega)).mono ?_
  rintro e w2 ⟨p, rfl, r2, f2, hf2⟩
  have S2 := Lib.hid (show St w w2 p (DS.new 6) from ⟨F1.out.trans f2 (fun _ _ h => h), r2, fun k hk => by have := hf2 k hk; have := F1.out.size; omega⟩)
  clear r2 f2 hf2
  go_wp2_with fail
  show Calls _ _ #[_, .int .i64 ((6 : Nat) : Int), _] _ _
  refine (writes_any w w2 p (DS.new 6) S2.out _ A HA.out rfl rfl (by have := LA.out; simpa [DS.new] using this) 6 (by simp [DS.new])).mono ?_
  rintro e w3 ⟨p3, g1, hp3, rfl, s3, l3, m3⟩
  rw [← hp3]
  have S3 := Lib.hid s3
  have L3 := Lib.hid l3
  clear s3 l3 m3 hp3
  go_wp2_with fail
  refine (sync_any w3 p3 _ S3.out.rep).mono ?_
  rintro e w4 ⟨p4, hp4, rfl, r4, m4⟩
  rw [Q1.out, ← hp4]
  have S4 := Lib.hid (show St w w4 p4 (lastS2 6 A) from S3.out.move m4 r4)
  have L4 := Lib.hid (L3.out.keep m4.fr (fun _ _ _ h => h) m4.new)
  clear r4 m4 hp4
  go_wp2_with fail
  refine (pending_any w4 p4 _ S4.out.rep (by rw [Q2.out]; simp)).mono ?_
  rintro e w5 ⟨v5, rfl, h5, f5⟩
  rw [Q2.out] at h5
  obtain ⟨a5, c5, rfl⟩ := h5.shape
  have S5 := Lib.hid (S4.out.calm f5 (fun k hk => hk.elim))
  have L5 := Lib.hid (L4.out.keep f5 (fun _ _ _ _ h => h) (fun _ h => .inl h))
  clear h5 f5
  go_wp2_with fail
  show Calls _ _ #[_, .int .i64 ((6 : Nat) : Int), _] _ _
  refine (writes_any w w5 p4 (lastS2 6 A) S5.out _ B HB.out Q3.out Q4.out (by rw [Q2.out]; have := LB.out; simpa using this) 6 Q5.out).mono ?_
  rintro e w6 ⟨p6, g2, hp6, rfl, s6, l6, m6⟩
  rw [← hp6]
  have S6 := Lib.hid s6
  have N6 := Lib.hid l6
  have L6 := Lib.hid (L5.out.keep m6.fr (fun _ _ _ h => h) m6.new)
  clear s6 l6 m6 hp6
  obtain ⟨wf1, wf2, wf3, wf4, wf5, wf6, wf7⟩ := wAll_fields B (lastS2 6 A) Q3.out Q4.out
  have PB := Lib.hid (show ((lastS2 6 A).wAll B).pend.length * 32 ≤ 70368744177664 by rw [wf7, Q2.out, List.nil_append]; have h1 := wPend_len (lastS2 6 A).data.length B; have h2 := LB.out; omega)
  clear wf1 wf2 wf3 wf4 wf5 wf6 wf7
  obtain ⟨m, hm⟩ : ∃ m, ((lastS2 6 A).wAll B).pend.length = m := ⟨_, rfl⟩
  have HM := Lib.hid hm
  clear hm
  go_wp2_with fail
  refine (pending_any w6 p6 _ S6.out.rep PB.out).mono ?_
  rintro e w7 ⟨v7, rfl, h7, f7⟩
  obtain ⟨a7, c7, rfl⟩ := h7.shape
  rw [HM.out]
  have S7 := Lib.hid (S6.out.calm f7 (fun k hk => hk.elim))
  have L7 := Lib.hid (L6.out.keep f7 (fun _ _ _ _ h => h) (fun _ h => .inl h))
  have N7 := Lib.hid (N6.out.keep f7 (fun _ _ _ _ h => h) (fun _ h => .inl h))
  clear h7 f7
  by_cases hgt : m < nK
  · go_wp2_with fail
    refine (pending_any w7 p6 _ S7.out.rep PB.out).mono ?_
    rintro e w8 ⟨v8, rfl, h8, f8⟩
    obtain ⟨a8, c8, rfl⟩ := h8.shape
    rw [HM.out]
    have S8 := Lib.hid (S7.out.calm f8 (fun k hk => hk.elim))
    have L8 := Lib.hid (L7.out.keep f8 (fun _ _ _ _ h => h) (fun _ h => .inl h))
    have N8 := Lib.hid (N7.out.keep f8 (fun _ _ _ _ h => h) (fun _ h => .inl h))
    clear h8 f8
    have hmc : m ≤ cap3 := by omega
    go_wp2
    obtain ⟨K, hKq⟩ : ∃ K, K = K0.take m := ⟨_, rfl⟩
    have HQ := Lib.hid (show K.length = m by rw [hKq]; simp; have := HNK.out; omega)
    have HKI := Lib.hid (show IntsAt w (.slice a3 m cap3) K by rw [hKq]; exact IntsAt.take (HNK.out.symm ▸ HK.out) m (by have := HNK.out; omega))
    have HKM := Lib.hid (show K.length ≤ ((lastS2 6 A).wAll B).pend.length by rw [HQ.out, HM.out]; omega)
    clear hKq hmc hgt
    obtain ⟨q, hqm⟩ : ∃ q, m = q := ⟨_, rfl⟩
    rw [hqm] at HQ HKI ⊢
    clear hqm
    have hq63 : q ≤ 9223372036854775807 := by obtain ⟨a', c', he, h, -⟩ := HKI.out; rw [HQ.out] at h; exact h
    by_cases hgood : ∀ k ∈ K, 0 ≤ k ∧ k ≤ 2
    · have HG := Lib.hid hgood
      clear hgood
      go_loop [66] (fun i => ∃ j : Nat, j ≤ q ∧ i = .int .i64 j) (fun i => q - (intOf i).toNat)
      case atStart => exact ⟨0, Nat.zero_le _, rfl⟩
      case round =>
        obtain ⟨j, hj, rfl⟩ := hrel
        by_cases hjt : j < q
        · obtain ⟨a', c', he, -, hnil | ⟨gk, ok, hax, hcell⟩⟩ := HKI.out.later S8.out.fr
          · exfalso; have := HQ.out; rw [hnil] at this; simp at this; omega
          have hjk : j < K.length := by rw [HQ.out]; exact hjt
          have hc0 := hcell j hjk
          simp only [Value.slice.injEq] at he
          obtain ⟨rfl, -, -⟩ := he
          subst hax
          obtain ⟨hx1, hx2⟩ := HG.out _ (List.getElem_mem hjk)
          obtain ⟨x, hx⟩ : ∃ x, K[j] = x := ⟨_, rfl⟩
          rw [hx] at hc0 hx1 hx2
          have hji : (j : Int) < (q : Int) := by omega
          clear hcell hx
          go_wp2
          go_round
          case rel => exact ⟨j + 1, by omega, by go_num⟩
          case measure => simp [intOf]; omega
        · obtain rfl : j = q := by omega
          have CG := crash_good (S := (lastS2 6 A).wAll B) HKM.out HG.out
          have cg1 := congrArg Prod.fst CG
          have cg2 := congrArg Prod.snd CG
          simp only at cg1 cg2
          have CP := Lib.hid (show (((lastS2 6 A).wAll B).crash K).2.pend = [] ∧ (((lastS2 6 A).wAll B).crash K).2.off = false by rw [cg2]; exact ⟨rfl, rfl⟩)
          have CG1 := Lib.hid cg1
          clear CG cg1 cg2
          go_wp2_with fail
          refine (crash_any2 w w8 p6 _ S8.out (.slice a3 j cap3) K HKI.out).mono ?_
          rintro e w9 ⟨p9, hp9, rfl, s9, m9⟩
          rw [CG1.out, ← hp9]
          have S9 := Lib.hid s9
          have L9 := Lib.hid (L8.out.keep m9.fr (fun _ _ _ h => h) m9.new)
          have N9 := Lib.hid (N8.out.keep m9.fr (fun _ _ _ h => h) m9.new)
          clear s9 m9 hp9
          go_wp2_with fail
          refine (pending_any w9 p9 _ S9.out.rep (by rw [CP.out.1]; simp)).mono ?_
          rintro e w10 ⟨v10, rfl, h10, f10⟩
          rw [CP.out.1] at h10
          obtain ⟨a10, c10, rfl⟩ := h10.shape
          have S10 := Lib.hid (S9.out.calm f10 (fun k hk => hk.elim))
          have L10 := Lib.hid (L9.out.keep f10 (fun _ _ _ _ h => h) (fun _ h => .inl h))
          have N10 := Lib.hid (N9.out.keep f10 (fun _ _ _ _ h => h) (fun _ h => .inl h))
          clear h10 f10
          go_wp2_with fail
          refine (off_rep _ _ _ S10.out.rep).mono ?_
          rintro e w' ⟨rfl, rfl⟩
          rw [CP.out.2]
          go_wp2
          go_loopw [97] (fun i wr => ∃ i0 : Nat, i0 ≤ 6 ∧ i = .int .i64 i0 ∧ Fr (fun _ => False) w10 wr) (fun i _ => 6 - (intOf i).toNat)
          case atStart => exact ⟨0, by omega, rfl, Fr.refl _ _⟩
          case round =>
            obtain ⟨i0, hi0, rfl, hf⟩ := hrel
            have HF := Lib.hid hf
            have SR := Lib.hid (S10.out.calm hf (fun k hk => hk.elim))
            have lr := L10.out.keep hf (fun _ _ _ _ h => h) (fun _ h => .inl h)
            have nr := N10.out.keep hf (fun _ _ _ _ h => h) (fun _ h => .inl h)
            clear hf
            by_cases hlt : i0 < 6
            · have hki : (i0 : Int) < 6 := by omega
              obtain ⟨u1, hu1, hd1⟩ := lr.2.2.2.2 i0 (by rw [lastAll_len]; exact hlt)
              obtain ⟨u2, hu2, hd2⟩ := nr.2.2.2.2 i0 (by rw [lastAll_len]; exact hlt)
              have hg1 := live_lt lr.2.1
              have hg2 := live_lt nr.2.1
              have e1 := lastAll_get 6 A i0 hlt
              have e2 := lastAll_get 6 B i0 hlt
              rw [List.getElem?_eq_getElem (by rw [lastAll_len]; exact hlt)] at e1 e2
              rw [Option.some.inj e1] at hd1
              rw [Option.some.inj e2] at hd2
              have U1 := Lib.hid hd1
              have U2 := Lib.hid hd2
              clear e1 e2 hd1 hd2 lr nr
              have LR := Lib.hid (fun hh => lasts_read 6 (by omega) A B K HKM.out HG.out i0 hlt hh)
              rcases U1.out with ⟨hn1, rfl⟩ | ⟨bw, hs1, ob1, -, -⟩
              · have RW := Lib.hid (show (DS.lastOf (wPend 6 A) i0).getD zeros64 = zeros64 by rw [hn1]; rfl)
                clear hn1
                go_wp2_with fail
                have FA := Lib.hid ((Fr.refl (fun _ => False) wr).alloc (.cells (Array.replicate 64 (.int .u8 0)) 5))
                have BW := Lib.hid (show BytesAt (wr.alloc (.cells (Array.replicate 64 (.int .u8 0)) 5)) (.slice (some ⟨wr.heap.size, 0, none⟩) 64 64) zeros64 from bytesAt_new wr 64)
                obtain ⟨w11, hw11⟩ : ∃ w11, wr.alloc (.cells (Array.replicate 64 (.int .u8 0)) 5) = w11 := ⟨_, rfl⟩
                rw [hw11] at FA BW ⊢
                clear hw11
                have SW := Lib.hid (SR.out.calm FA.out (fun k hk => hk.elim))
                refine (read_any w11 p9 _ SW.out.rep i0).mono ?_
                rintro e w12 ⟨vr, rfl, hr12, f12⟩
                have hx12 := FA.out.size
                have cell2 : (rowOf w12 g2)[i0]? = some u2 := by rw [f12.row (by omega) (fun h => h), FA.out.row hg2 (fun h => h)]; exact hu2
                have F12 := Lib.hid f12
                rcases U2.out with ⟨hn2, rfl⟩ | ⟨b2, hs2, ob2, -, -⟩
                · rw [LR.out hn2, RW.out] at hr12 ⊢
                  have R12 := Lib.hid (show OwnBytes w12 vr zeros64 w11.heap.size from hr12)
                  clear hr12 f12 hn2 hu1 hu2
                  go_wp2_with fail
                  refine (alike_any w12 vr _ zeros64 zeros64 R12.out.at_ (BW.out.later F12.out)).mono ?_
                  rintro e w' ⟨rfl, rfl⟩
                  rw [decide_eq_true (rfl : zeros64 = zeros64)]
                  go_wp2
                  go_roundw
                  case rel => exact ⟨i0 + 1, by omega, by go_num, (HF.out.trans FA.out (fun _ _ h => h)).trans F12.out (fun _ _ h => h)⟩
                  case measure => simp [intOf]; omega
                · obtain ⟨gu2, eu2, rfl, -⟩ := ob2
                  obtain ⟨cc, hcc⟩ : ∃ cc, ((((lastS2 6 A).wAll B).crash K).2.read i0).1 = cc := ⟨_, rfl⟩
                  rw [hcc]
                  clear hr12 f12 hcc hs2 hu1 hu2
                  go_wp2
                  go_roundw
                  case rel => exact ⟨i0 + 1, by omega, by go_num, (HF.out.trans FA.out (fun _ _ h => h)).trans F12.out (fun _ _ h => h)⟩
                  case measure => simp [intOf]; omega
              · have RW := Lib.hid (show (DS.lastOf (wPend 6 A) i0).getD zeros64 = bw by rw [hs1]; rfl)
                have BW := Lib.hid ob1.at_
                obtain ⟨gu, bl, cl, hsh⟩ : ∃ gu bl cl, u1 = .slice (some ⟨gu, 0, none⟩) bl cl := by obtain ⟨g, x, h, -⟩ := ob1; exact ⟨g, _, _, h⟩
                subst hsh
                clear hs1 ob1
                go_wp2_with fail
                refine (read_any wr p9 _ SR.out.rep i0).mono ?_
                rintro e w12 ⟨vr, rfl, hr12, f12⟩
                have cell2 : (rowOf w12 g2)[i0]? = some u2 := by rw [f12.row hg2 (fun h => h)]; exact hu2
                have F12 := Lib.hid f12
                rcases U2.out with ⟨hn2, rfl⟩ | ⟨b2, hs2, ob2, -, -⟩
                · rw [LR.out hn2, RW.out] at hr12 ⊢
                  have R12 := Lib.hid (show OwnBytes w12 vr bw wr.heap.size from hr12)
                  clear hr12 f12 hn2 hu1 hu2
                  go_wp2_with fail
                  refine (alike_any w12 vr _ bw bw R12.out.at_ (BW.out.later F12.out)).mono ?_
                  rintro e w' ⟨rfl, rfl⟩
                  rw [decide_eq_true (rfl : bw = bw)]
                  go_wp2
                  go_roundw
                  case rel => exact ⟨i0 + 1, by omega, by go_num, HF.out.trans F12.out (fun _ _ h => h)⟩
                  case measure => simp [intOf]; omega
                · obtain ⟨gu2, eu2, rfl, -⟩ := ob2
                  obtain ⟨cc, hcc⟩ : ∃ cc, ((((lastS2 6 A).wAll B).crash K).2.read i0).1 = cc := ⟨_, rfl⟩
                  rw [hcc]
                  clear hr12 f12 hcc hs2 hu1 hu2
                  go_wp2
                  go_roundw
                  case rel => exact ⟨i0 + 1, by omega, by go_num, HF.out.trans F12.out (fun _ _ h => h)⟩
                  case measure => simp [intOf]; omega
            · obtain rfl : i0 = 6 := by omega
              clear lr nr
              go_wp2
              go_ret
              exact ⟨rfl, SR.out.fr.below (Nat.le_refl _) (fun _ _ h => h)⟩
    · have HG := Lib.hid hgood
      clear hgood
      go_loop [66] (fun i => ∃ j : Nat, j ≤ q ∧ i = .int .i64 j ∧ Hid (∀ t (h : t < K.length), t < j → 0 ≤ K[t] ∧ K[t] ≤ 2)) (fun i => q - (intOf i).toNat)
      case atStart => exact ⟨0, Nat.zero_le _, rfl, fun t h hj => by omega⟩
      case round =>
        obtain ⟨j, hj, rfl, hall⟩ := hrel
        by_cases hjt : j < q
        · obtain ⟨a', c', he, -, hnil | ⟨gk, ok, hax, hcell⟩⟩ := HKI.out.later S8.out.fr
          · exfalso; have := HQ.out; rw [hnil] at this; simp at this; omega
          have hjk : j < K.length := by rw [HQ.out]; exact hjt
          have hc0 := hcell j hjk
          simp only [Value.slice.injEq] at he
          obtain ⟨rfl, -, -⟩ := he
          subst hax
          obtain ⟨x, hx⟩ : ∃ x, K[j] = x := ⟨_, rfl⟩
          have HX := Lib.hid hx
          rw [hx] at hc0
          have hji : (j : Int) < (q : Int) := by omega
          have CW := Lib.hid (crash_worse (S := (lastS2 6 A).wAll B) HG.out)
          clear hcell hx
          by_cases hx0 : 0 ≤ x ∧ x ≤ 2
          · obtain ⟨hx1, hx2⟩ := hx0
            go_wp2
            go_round
            case rel =>
              refine ⟨j + 1, by omega, by go_num, fun t h ht => ?_⟩
              by_cases e : t = j
              · subst e; rw [HX.out]; exact ⟨hx1, hx2⟩
              · exact hall.out t h (by omega)
            case measure => simp [intOf]; omega
          · by_cases hx1 : x < 0
            · clear hx0
              go_wp2_with fail
              refine (crash_any2 w w8 p6 _ S8.out (.slice (some ⟨gk, ok, none⟩) q cap3) K HKI.out).mono ?_
              rintro e w9 ⟨p9, hp9, rfl, s9, m9⟩
              rw [CW.out]
              go_wp2
              go_ret
              exact ⟨rfl, s9.fr.below (Nat.le_refl _) (fun _ _ h => h)⟩
            · have hx2 : 2 < x := by omega
              clear hx0
              go_wp2_with fail
              refine (crash_any2 w w8 p6 _ S8.out (.slice (some ⟨gk, ok, none⟩) q cap3) K HKI.out).mono ?_
              rintro e w9 ⟨p9, hp9, rfl, s9, m9⟩
              rw [CW.out]
              go_wp2
              go_ret
              exact ⟨rfl, s9.fr.below (Nat.le_refl _) (fun _ _ h => h)⟩
        · exfalso
          apply HG.out
          intro x hx
          obtain ⟨t, ht, rfl⟩ := List.getElem_of_mem hx
          exact hall.out t ht (by have := HQ.out; omega)
  · go_wp2
    obtain ⟨K, hKq⟩ : ∃ K, K = K0 := ⟨_, rfl⟩
    have HQ := Lib.hid (show K.length = nK by rw [hKq]; exact HNK.out)
    have HKI := Lib.hid (show IntsAt w (.slice a3 nK cap3) K by rw [hKq]; exact HK.out)
    have HKM := Lib.hid (show K.length ≤ ((lastS2 6 A).wAll B).pend.length by rw [HQ.out, HM.out]; omega)
    clear hKq hgt
    obtain ⟨q, hqm⟩ : ∃ q, nK = q := ⟨_, rfl⟩
    rw [hqm] at HQ HKI ⊢
    clear hqm
    have hq63 : q ≤ 9223372036854775807 := by obtain ⟨a', c', he, h, -⟩ := HKI.out; rw [HQ.out] at h; exact h
    by_cases hgood : ∀ k ∈ K, 0 ≤ k ∧ k ≤ 2
    · have HG := Lib.hid hgood
      clear hgood
      go_loop [66] (fun i => ∃ j : Nat, j ≤ q ∧ i = .int .i64 j) (fun i => q - (intOf i).toNat)
      case atStart => exact ⟨0, Nat.zero_le _, rfl⟩
      case round =>
        obtain ⟨j, hj, rfl⟩ := hrel
        by_cases hjt : j < q
        · obtain ⟨a', c', he, -, hnil | ⟨gk, ok, hax, hcell⟩⟩ := HKI.out.later S7.out.fr
          · exfalso; have := HQ.out; rw [hnil] at this; simp at this; omega
          have hjk : j < K.length := by rw [HQ.out]; exact hjt
          have hc0 := hcell j hjk
          simp only [Value.slice.injEq] at he
          obtain ⟨rfl, -, -⟩ := he
          subst hax
          obtain ⟨hx1, hx2⟩ := HG.out _ (List.getElem_mem hjk)
          obtain ⟨x, hx⟩ : ∃ x, K[j] = x := ⟨_, rfl⟩
          rw [hx] at hc0 hx1 hx2
          have hji : (j : Int) < (q : Int) := by omega
          clear hcell hx
          go_wp2
          go_round
          case rel => exact ⟨j + 1, by omega, by go_num⟩
          case measure => simp [intOf]; omega
        · obtain rfl : j = q := by omega
          have CG := crash_good (S := (lastS2 6 A).wAll B) HKM.out HG.out
          have cg1 := congrArg Prod.fst CG
          have cg2 := congrArg Prod.snd CG
          simp only at cg1 cg2
          have CP := Lib.hid (show (((lastS2 6 A).wAll B).crash K).2.pend = [] ∧ (((lastS2 6 A).wAll B).crash K).2.off = false by rw [cg2]; exact ⟨rfl, rfl⟩)
          have CG1 := Lib.hid cg1
          clear CG cg1 cg2
          go_wp2_with fail
          refine (crash_any2 w w7 p6 _ S7.out (.slice a3 j cap3) K HKI.out).mono ?_
          rintro e w9 ⟨p9, hp9, rfl, s9, m9⟩
          rw [CG1.out, ← hp9]
          have S9 := Lib.hid s9
          have L9 := Lib.hid (L7.out.keep m9.fr (fun _ _ _ h => h) m9.new)
          have N9 := Lib.hid (N7.out.keep m9.fr (fun _ _ _ h => h) m9.new)
          clear s9 m9 hp9
          go_wp2_with fail
          refine (pending_any w9 p9 _ S9.out.rep (by rw [CP.out.1]; simp)).mono ?_
          rintro e w10 ⟨v10, rfl, h10, f10⟩
          rw [CP.out.1] at h10
          obtain ⟨a10, c10, rfl⟩ := h10.shape
          have S10 := Lib.hid (S9.out.calm f10 (fun k hk => hk.elim))
          have L10 := Lib.hid (L9.out.keep f10 (fun _ _ _ _ h => h) (fun _ h => .inl h))
          have N10 := Lib.hid (N9.out.keep f10 (fun _ _ _ _ h => h) (fun _ h => .inl h))
          clear h10 f10
          go_wp2_with fail
          refine (off_rep _ _ _ S10.out.rep).mono ?_
          rintro e w' ⟨rfl, rfl⟩
          rw [CP.out.2]
          go_wp2
          go_loopw [97] (fun i wr => ∃ i0 : Nat, i0 ≤ 6 ∧ i = .int .i64 i0 ∧ Fr (fun _ => False) w10 wr) (fun i _ => 6 - (intOf i).toNat)
          case atStart => exact ⟨0, by omega, rfl, Fr.refl _ _⟩
          case round =>
            obtain ⟨i0, hi0, rfl, hf⟩ := hrel
            have HF := Lib.hid hf
            have SR := Lib.hid (S10.out.calm hf (fun k hk => hk.elim))
            have lr := L10.out.keep hf (fun _ _ _ _ h => h) (fun _ h => .inl h)
            have nr := N10.out.keep hf (fun _ _ _ _ h => h) (fun _ h => .inl h)
            clear hf
            by_cases hlt : i0 < 6
            · have hki : (i0 : Int) < 6 := by omega
              obtain ⟨u1, hu1, hd1⟩ := lr.2.2.2.2 i0 (by rw [lastAll_len]; exact hlt)
              obtain ⟨u2, hu2, hd2⟩ := nr.2.2.2.2 i0 (by rw [lastAll_len]; exact hlt)
              have hg1 := live_lt lr.2.1
              have hg2 := live_lt nr.2.1
              have e1 := lastAll_get 6 A i0 hlt
              have e2 := lastAll_get 6 B i0 hlt
              rw [List.getElem?_eq_getElem (by rw [lastAll_len]; exact hlt)] at e1 e2
              rw [Option.some.inj e1] at hd1
              rw [Option.some.inj e2] at hd2
              have U1 := Lib.hid hd1
              have U2 := Lib.hid hd2
              clear e1 e2 hd1 hd2 lr nr
              have LR := Lib.hid (fun hh => lasts_read 6 (by omega) A B K HKM.out HG.out i0 hlt hh)
              rcases U1.out with ⟨hn1, rfl⟩ | ⟨bw, hs1, ob1, -, -⟩
              · have RW := Lib.hid (show (DS.lastOf (wPend 6 A) i0).getD zeros64 = zeros64 by rw [hn1]; rfl)
                clear hn1
                go_wp2_with fail
                have FA := Lib.hid ((Fr.refl (fun _ => False) wr).alloc (.cells (Array.replicate 64 (.int .u8 0)) 5))
                have BW := Lib.hid (show BytesAt (wr.alloc (.cells (Array.replicate 64 (.int .u8 0)) 5)) (.slice (some ⟨wr.heap.size, 0, none⟩) 64 64) zeros64 from bytesAt_new wr 64)
                obtain ⟨w11, hw11⟩ : ∃ w11, wr.alloc (.cells (Array.replicate 64 (.int .u8 0)) 5) = w11 := ⟨_, rfl⟩
                rw [hw11] at FA BW ⊢
                clear hw11
                have SW := Lib.hid (SR.out.calm FA.out (fun k hk => hk.elim))
                refine (read_any w11 p9 _ SW.out.rep i0).mono ?_
                rintro e w12 ⟨vr, rfl, hr12, f12⟩
                have hx12 := FA.out.size
                have cell2 : (rowOf w12 g2)[i0]? = some u2 := by rw [f12.row (by omega) (fun h => h), FA.out.row hg2 (fun h => h)]; exact hu2
                have F12 := Lib.hid f12
                rcases U2.out with ⟨hn2, rfl⟩ | ⟨b2, hs2, ob2, -, -⟩
                · rw [LR.out hn2, RW.out] at hr12 ⊢
                  have R12 := Lib.hid (show OwnBytes w12 vr zeros64 w11.heap.size from hr12)
                  clear hr12 f12 hn2 hu1 hu2
                  go_wp2_with fail
                  refine (alike_any w12 vr _ zeros64 zeros64 R12.out.at_ (BW.out.later F12.out)).mono ?_
                  rintro e w' ⟨rfl, rfl⟩
                  rw [decide_eq_true (rfl : zeros64 = zeros64)]
                  go_wp2
                  go_roundw
                  case rel => exact ⟨i0 + 1, by omega, by go_num, (HF.out.trans FA.out (fun _ _ h => h)).trans F12.out (fun _ _ h => h)⟩
                  case measure => simp [intOf]; omega
                · obtain ⟨gu2, eu2, rfl, -⟩ := ob2
                  obtain ⟨cc, hcc⟩ : ∃ cc, ((((lastS2 6 A).wAll B).crash K).2.read i0).1 = cc := ⟨_, rfl⟩
                  rw [hcc]
                  clear hr12 f12 hcc hs2 hu1 hu2
                  go_wp2
                  go_roundw
                  case rel => exact ⟨i0 + 1, by omega, by go_num, (HF.out.trans FA.out (fun _ _ h => h)).trans F12.out (fun _ _ h => h)⟩
                  case measure => simp [intOf]; omega
              · have RW := Lib.hid (show (DS.lastOf (wPend 6 A) i0).getD zeros64 = bw by rw [hs1]; rfl)
                have BW := Lib.hid ob1.at_
                obtain ⟨gu, bl, cl, hsh⟩ : ∃ gu bl cl, u1 = .slice (some ⟨gu, 0, none⟩) bl cl := by obtain ⟨g, x, h, -⟩ := ob1; exact ⟨g, _, _, h⟩
                subst hsh
                clear hs1 ob1
                go_wp2_with fail
                refine (read_any wr p9 _ SR.out.rep i0).mono ?_
                rintro e w12 ⟨vr, rfl, hr12, f12⟩
                have cell2 : (rowOf w12 g2)[i0]? = some u2 := by rw [f12.row hg2 (fun h => h)]; exact hu2
                have F12 := Lib.hid f12
                rcases U2.out with ⟨hn2, rfl⟩ | ⟨b2, hs2, ob2, -, -⟩
                · rw [LR.out hn2, RW.out] at hr12 ⊢
                  have R12 := Lib.hid (show OwnBytes w12 vr bw wr.heap.size from hr12)
                  clear hr12 f12 hn2 hu1 hu2
                  go_wp2_with fail
                  refine (alike_any w12 vr _ bw bw R12.out.at_ (BW.out.later F12.out)).mono ?_
                  rintro e w' ⟨rfl, rfl⟩
                  rw [decide_eq_true (rfl : bw = bw)]
                  go_wp2
                  go_roundw
                  case rel => exact ⟨i0 + 1, by omega, by go_num, HF.out.trans F12.out (fun _ _ h => h)⟩
                  case measure => simp [intOf]; omega
                · obtain ⟨gu2, eu2, rfl, -⟩ := ob2
                  obtain ⟨cc, hcc⟩ : ∃ cc, ((((lastS2 6 A).wAll B).crash K).2.read i0).1 = cc := ⟨_, rfl⟩
                  rw [hcc]
                  clear hr12 f12 hcc hs2 hu1 hu2
                  go_wp2
                  go_roundw
                  case rel => exact ⟨i0 + 1, by omega, by go_num, HF.out.trans F12.out (fun _ _ h => h)⟩
                  case measure => simp [intOf]; omega
            · obtain rfl : i0 = 6 := by omega
              clear lr nr
              go_wp2
              go_ret
              exact ⟨rfl, SR.out.fr.below (Nat.le_refl _) (fun _ _ h => h)⟩
    · have HG := Lib.hid hgood
      clear hgood
      go_loop [66] (fun i => ∃ j : Nat, j ≤ q ∧ i = .int .i64 j ∧ Hid (∀ t (h : t < K.length), t < j → 0 ≤ K[t] ∧ K[t] ≤ 2)) (fun i => q - (intOf i).toNat)
      case atStart => exact ⟨0, Nat.zero_le _, rfl, fun t h hj => by omega⟩
      case round =>
        obtain ⟨j, hj, rfl, hall⟩ := hrel
        by_cases hjt : j < q
        · obtain ⟨a', c', he, -, hnil | ⟨gk, ok, hax, hcell⟩⟩ := HKI.out.later S7.out.fr
          · exfalso; have := HQ.out; rw [hnil] at this; simp at this; omega
          have hjk : j < K.length := by rw [HQ.out]; exact hjt
          have hc0 := hcell j hjk
          simp only [Value.slice.injEq] at he
          obtain ⟨rfl, -, -⟩ := he
          subst hax
          obtain ⟨x, hx⟩ : ∃ x, K[j] = x := ⟨_, rfl⟩
          have HX := Lib.hid hx
          rw [hx] at hc0
          have hji : (j : Int) < (q : Int) := by omega
          have CW := Lib.hid (crash_worse (S := (lastS2 6 A).wAll B) HG.out)
          clear hcell hx
          by_cases hx0 : 0 ≤ x ∧ x ≤ 2
          · obtain ⟨hx1, hx2⟩ := hx0
            go_wp2
            go_round
            case rel =>
              refine ⟨j + 1, by omega, by go_num, fun t h ht => ?_⟩
              by_cases e : t = j
              · subst e; rw [HX.out]; exact ⟨hx1, hx2⟩
              · exact hall.out t h (by omega)
            case measure => simp [intOf]; omega
          · by_cases hx1 : x < 0
            · clear hx0
              go_wp2_with fail
              refine (crash_any2 w w7 p6 _ S7.out (.slice (some ⟨gk, ok, none⟩) q cap3) K HKI.out).mono ?_
              rintro e w9 ⟨p9, hp9, rfl, s9, m9⟩
              rw [CW.out]
              go_wp2
              go_ret
              exact ⟨rfl, s9.fr.below (Nat.le_refl _) (fun _ _ h => h)⟩
            · have hx2 : 2 < x := by omega
              clear hx0
              go_wp2_with fail
              refine (crash_any2 w w7 p6 _ S7.out (.slice (some ⟨gk, ok, none⟩) q cap3) K HKI.out).mono ?_
              rintro e w9 ⟨p9, hp9, rfl, s9, m9⟩
              rw [CW.out]
              go_wp2
              go_ret
              exact ⟨rfl, s9.fr.below (Nat.le_refl _) (fun _ _ h => h)⟩
        · exfalso
          apply HG.out
          intro x hx
          obtain ⟨t, ht, rfl⟩ := List.getElem_of_mem hx
          exact hall.out t ht (by have := HQ.out; omega)

theorem lasts_args (w : World) (v0 v1 : Value) (a2 : Option Addr) (len2 cap2 : Nat) (z2 : List Int) (l0 l1 : List OpV) (w0 : OpsAt w v0 l0) (w1 : OpsAt w v1 l1) (w2 : Came .i64 w a2 len2 cap2 z2) :
    Calls Try.prog 3 #[v0, v1, .slice a2 len2 cap2] w fun e w' => e = .returned (.bool true) ∧ Below w.heap.size w w' := by
  have h2 := w2.le
  obtain ⟨K, rfl, hK⟩ := ints_of_row w2
  exact lasts_any w v0 v1 a2 cap2 l0 l1 K w0 w1 hK h2

end Go.Proofs.Ytflnlpbcmcfblaa
