/-
  LogFormats: the walk.
-/
import Derived.Test.YtflnlpbcmcfblaaLV
import Derived.Test.YtflnlpbcmcfblaaAnyM
namespace Go.Proofs.Ytflnlpbcmcfblaa
open Go.RowKit

/-! ### What a log that stands open tells of itself. -/
theorem room_on {w : World} {p : DP} {S : DS} {bl bm n : Nat} {V : LogV} {cnt : Nat → Nat} {R : List (List UInt8)} {k : Nat} (L : LogAt w p bl bm V n cnt) (O : OnS S V cnt R k) :
    Calls Try.prog 53 #[.pointer (some ⟨bl, 0, none⟩)] w fun e w' => e = .returned (.int .i64 (S.oSize - sumN R : Nat)) ∧ Fr (fun _ => False) w w' := by
  have hu := O.used
  have hv := O.vok
  have ho := O.live.vo
  refine (room_any w bl p.d V.h V.slot V.size V.used V.records V.over bm L.row (by omega) (by have := hv.z; omega)).mono ?_
  rintro e w' ⟨rfl, f2, -⟩
  refine ⟨?_, f2⟩
  unfold roomN; rw [ho, hu.2.2, hu.1]; rfl
theorem count_on {w : World} {p : DP} {S : DS} {bl bm n : Nat} {V : LogV} {cnt : Nat → Nat} {R : List (List UInt8)} {k : Nat} (L : LogAt w p bl bm V n cnt) (O : OnS S V cnt R k) :
    Calls Try.prog 54 #[.pointer (some ⟨bl, 0, none⟩)] w fun e w' => e = .returned (.int .i64 (R.length : Nat)) ∧ w = w' := by
  refine (count_any w bl p.d V.h V.slot V.size V.used V.records V.over bm L.row).mono ?_
  rintro e w' ⟨rfl, rfl⟩
  refine ⟨?_, rfl⟩
  rw [O.live.vo, O.live.vr]; rfl

/-- The laws' world, begun on a log without records. -/
theorem wi_new {w w1 : World} {p : DP} {S : DS} {bl bm k m : Nat} {V : LogV} {cnt : Nat → Nat} (st : St w w1 p S) (log : LogAt w1 p bl bm V S.data.length cnt) (on : OnS S V cnt [] k) (wbl : w.heap.size ≤ bl) (hm : S.oSize = m) :
    WI w (w1.alloc (.cells #[.pointer (some ⟨p.d, 0, none⟩), .pointer (some ⟨bl, 0, none⟩), .int .i64 m, .slice none 0 0, .slice none 0 0, .bool false, .bool false] 98)) w1.heap.size p S bl bm V cnt (.slice none 0 0) (.slice none 0 0) [] [] [] [] k := by
  subst hm
  have f := (Fr.refl (fun _ => False) w1).alloc (.cells #[.pointer (some ⟨p.d, 0, none⟩), .pointer (some ⟨bl, 0, none⟩), .int .i64 S.oSize, .slice none 0 0, .slice none 0 0, .bool false, .bool false] 98)
  have nf : ∀ j, ¬ recsFoot (.slice none 0 0) [] j := fun j hj => hj.elim (fun h => by cases h) (fun ⟨_, h, _⟩ => by cases h)
  have h1 := live_lt log.liv
  have h2 := log.map.lt
  exact ⟨⟨st.calm f (fun _ h => h.elim), rowOf_alloc_at _ _ _ _ _ rfl, live_alloc_at _ _ _ _ rfl, fun e => by have := st.lt e; omega, st.fr.size, RefL.nil _, RefL.nil _, fun j hj => (nf j hj).elim, fun j hj => (nf j hj).elim, on.dead _ _, fun _ h => (by cases h), fun _ h => (by cases h), by simp [sumN]⟩,
    log.keep f rfl (fun h => h) (fun h => h) (fun _ h => .inl h), on, wbl, by omega, by omega, fun j hj => (nf j hj).elim, fun j hj => (nf j hj).elim⟩

/-! ### LogFormats: the walk. -/
set_option maxRecDepth 20000 in
set_option maxHeartbeats 4000000 in
theorem formats_bad (w : World) (v0 v1 v2 : Value) (hb : Calls Try.prog 30 #[v0, v1] w fun e w2 => e = .returned (.tuple #[.pointer none, .int .i64 1]) ∧ Fr (fun _ => False) w w2) :
    Calls Try.prog 17 #[v0, v1, v2] w fun e w' => e = .returned (.bool true) ∧ Below w.heap.size w w' := by
  have HB := Lib.hid hb
  clear hb
  go_enter Try.func17, Try.ntmps17
  go_wp2_with fail
  refine HB.out.mono ?_
  rintro e w2 ⟨rfl, f2⟩
  have F2 := Lib.hid f2
  clear f2
  go_wp2_with fail
  refine (live_any w2).mono ?_
  rintro e w3 ⟨rfl, rfl⟩
  go_wp2_with fail
  refine (live_any w2).mono ?_
  rintro e w3 ⟨rfl, rfl⟩
  go_wp2
  go_ret
  exact ⟨rfl, F2.out.below (Nat.le_refl _) (fun _ _ h => h)⟩

set_option maxRecDepth 20000 in
set_option maxHeartbeats 4000000 in
theorem formats_small (w : World) (v0 v1 v2 : Value) (S0 : DS) (h6 : S0.data.length < 6) (hl : Calls Try.prog 30 #[v0, v1] w fun e w' => ∃ p : DP, e = .returned (.tuple #[.pointer (some ⟨p.d, 0, none⟩), .int .i64 0]) ∧ DiskRep w' p S0 ∧ Fr (fun _ => False) w w' ∧ ∀ k, p.foot k → w.heap.size ≤ k) :
    Calls Try.prog 17 #[v0, v1, v2] w fun e w' => e = .returned (.bool true) ∧ Below w.heap.size w w' := by
  have HB := Lib.hid hl
  clear hl
  go_enter Try.func17, Try.ntmps17
  go_wp2_with fail
  refine HB.out.mono ?_
  rintro e w2 ⟨p, rfl, r2, f2, hf2⟩
  have S2 := Lib.hid (show St w w2 p S0 from ⟨f2, r2, hf2⟩)
  have n0 := r2.ok.n0
  obtain ⟨n, hn⟩ : ∃ n, S0.data.length = n := ⟨_, rfl⟩
  have HN := Lib.hid hn
  rw [hn] at n0 h6
  clear r2 f2 hf2 hn HB
  go_wp2_with fail
  refine (live_any w2).mono ?_
  rintro e w3 ⟨rfl, rfl⟩
  go_wp2_with fail
  have BK := Lib.hid (show Calls Try.prog 37 #[.pointer (some ⟨p.d, 0, none⟩)] w2 fun e w' => e = .returned (.int .i64 (n : Int)) ∧ w2 = w' by
    rw [← HN.out]; exact blocks_rep w2 p S0 S2.out.rep)
  refine BK.out.mono ?_
  rintro e w3 ⟨rfl, rfl⟩
  clear BK
  go_wp2_with fail
  obtain ⟨m, hm⟩ : ∃ m, (n - 2) / 2 = m := ⟨_, rfl⟩
  have RN := Lib.hid (show Calls Try.prog 59 #[.int .i64 n] w2 fun e w' => e = .returned (.tuple #[.agg #[.int .i64 m, .slice none 0 0], .bool false]) ∧ Fr (fun _ => False) w2 w' by
    have := refNew_any w2 n n0 (by omega)
    rw [hm, decide_eq_false (by omega)] at this; exact this)
  clear hm
  refine RN.out.mono ?_
  rintro e w3 ⟨rfl, f3⟩
  have F3 := Lib.hid f3
  clear f3 RN
  go_wp2_with fail
  obtain ⟨W4, hW4⟩ : ∃ W4, w3.alloc (.cells #[.int .i64 m, .slice none 0 0] 96) = W4 := ⟨_, rfl⟩
  have F4 := Lib.hid (show Fr (fun _ => False) w2 W4 by rw [← hW4]; exact F3.out.alloc _)
  rw [hW4]
  clear hW4
  refine (format_small W4 p S0 (S2.out.rep.keep F4.out (fun _ _ h => h)) (by rw [HN.out]; exact h6)).mono ?_
  rintro e w5 ⟨rfl, rfl⟩
  go_wp2
  go_ret
  exact ⟨rfl, (S2.out.fr.trans F4.out (fun _ _ h => h)).below (Nat.le_refl _) (fun _ _ h => h)⟩

set_option maxRecDepth 20000 in
set_option maxHeartbeats 4000000 in
theorem formats_ok (w : World) (v0 v1 : Value) (ab : Option Addr) (q cb : Nat) (b : List UInt8) (hb : BytesAt w (.slice ab q cb) b) (hq : b.length = q) (hcap : q ≤ cb) (hb2 : q ≤ 140737488355328)
    (S0 : DS) (h6 : 6 ≤ S0.data.length) (ho : S0.off = false) (hp : S0.pl = false) (hpe : S0.pend = []) (hw : S0.wr = 0) (hl : Calls Try.prog 30 #[v0, v1] w fun e w' => ∃ p : DP, e = .returned (.tuple #[.pointer (some ⟨p.d, 0, none⟩), .int .i64 0]) ∧ DiskRep w' p S0 ∧ Fr (fun _ => False) w w' ∧ ∀ k, p.foot k → w.heap.size ≤ k) :
    Calls Try.prog 17 #[v0, v1, .slice ab q cb] w fun e w' => e = .returned (.bool true) ∧ Below w.heap.size w w' := by
  have HB := Lib.hid hl
  have SO := Lib.hid (And.intro ho (And.intro hp (And.intro hpe hw)))
  have BT := Lib.hid (And.intro hb (And.intro hq (And.intro hcap hb2)))
  clear hl ho hp hpe hw hb hq hcap hb2
  go_enter Try.func17, Try.ntmps17
  go_wp2_with fail
  refine HB.out.mono ?_
  rintro e w2 ⟨p, rfl, r2, f2, hf2⟩
  have S2 := Lib.hid (show St w w2 p S0 from ⟨f2, r2, hf2⟩)
  have n0 := r2.ok.n0
  have n1 := r2.ok.n1
  obtain ⟨n, hn⟩ : ∃ n, S0.data.length = n := ⟨_, rfl⟩
  have HN := Lib.hid hn
  rw [hn] at n0 n1 h6
  clear r2 f2 hf2 hn HB
  go_wp2_with fail
  refine (live_any w2).mono ?_
  rintro e w3 ⟨rfl, rfl⟩
  go_wp2_with fail
  have BK := Lib.hid (show Calls Try.prog 37 #[.pointer (some ⟨p.d, 0, none⟩)] w2 fun e w' => e = .returned (.int .i64 (n : Int)) ∧ w2 = w' by
    rw [← HN.out]; exact blocks_rep w2 p S0 S2.out.rep)
  refine BK.out.mono ?_
  rintro e w3 ⟨rfl, rfl⟩
  clear BK
  go_wp2_with fail
  obtain ⟨m, hm⟩ : ∃ m, (n - 2) / 2 = m := ⟨_, rfl⟩
  have hmb : m ≤ 16384 := by omega
  have RN := Lib.hid (show Calls Try.prog 59 #[.int .i64 n] w2 fun e w' => e = .returned (.tuple #[.agg #[.int .i64 m, .slice none 0 0], .bool true]) ∧ Fr (fun _ => False) w2 w' by
    have := refNew_any w2 n n0 n1
    rw [hm, decide_eq_true h6] at this; exact this)
  have HM := Lib.hid (show ∀ T : DS, T.data.length = n → T.oSize = m by intro T hT; unfold DS.oSize; rw [hT]; exact hm)
  clear hm
  refine RN.out.mono ?_
  rintro e w3 ⟨rfl, f3⟩
  have F3 := Lib.hid f3
  clear f3 RN
  go_wp2_with fail
  obtain ⟨W4, hW4⟩ : ∃ W4, w3.alloc (.cells #[.int .i64 m, .slice none 0 0] 96) = W4 := ⟨_, rfl⟩
  obtain ⟨b9, hb9⟩ : ∃ b, w3.heap.size = b := ⟨_, rfl⟩
  have F4 := Lib.hid (show Fr (fun _ => False) w2 W4 by rw [← hW4]; exact F3.out.alloc _)
  have r4 : rowOf W4 b9 = #[.int .i64 m, .slice none 0 0] := by rw [← hW4, ← hb9]; exact rowOf_alloc_at _ _ _ _ _ rfl
  have B9 := Lib.hid (show w2.heap.size ≤ b9 ∧ b9 < W4.heap.size by rw [← hW4, ← hb9]; exact ⟨F3.out.size, by simp⟩)
  rw [hW4, hb9]
  clear hW4 hb9
  have ST4 := Lib.hid (S2.out.calm F4.out (fun _ h => h.elim))
  obtain ⟨z1, z2, z3, z4⟩ := format_state ST4.out.rep.ok (by rw [HN.out]; exact h6) SO.out.1 SO.out.2.1 SO.out.2.2.1 SO.out.2.2.2
  have Z := Lib.hid (And.intro z2 (And.intro z3 z4))
  have FT := Lib.hid (format_any w W4 p S0 ST4.out (by rw [HN.out]; exact h6) SO.out.1 (by rw [SO.out.2.2.1]; simp) z1)
  clear z1 z2 z3 z4
  refine FT.out.mono ?_
  rintro e w5 ⟨p5, bl, bm, hp5, rfl, st5, mv5, lg5, hbl, hbm⟩
  obtain ⟨S5, hS5⟩ : ∃ S5, S0.fDone.2 = S5 := ⟨_, rfl⟩
  rw [hS5] at st5 Z
  have ST5 := Lib.hid st5
  have LG5 := Lib.hid lg5
  have P5 := Lib.hid hp5
  have ON5 := Lib.hid (Z.out.1 st5.rep.ok)
  have Q5 := Lib.hid (And.intro Z.out.2.1 (show S5.data.length = n from Z.out.2.2.trans HN.out))
  have pf9 : ¬ p.foot b9 := fun e => by have := S2.out.lt e; have := B9.out.1; omega
  have r5 := (mv5.fr.row B9.out.2 pf9).trans r4
  have l9 := Nat.lt_of_lt_of_le B9.out.2 mv5.fr.size
  have nf9 : ¬ p5.foot b9 := fun e => (mv5.new b9 e).elim pf9 (fun h => by have := B9.out.2; omega)
  have BL := Lib.hid (show w.heap.size ≤ bl from by have := S2.out.fr.size; have := F4.out.size; omega)
  have RM := Lib.hid (show ∀ W, Fr (fun _ => False) w5 W → Calls Try.prog 53 #[.pointer (some ⟨bl, 0, none⟩)] W fun e w' => e = .returned (.int .i64 (m : Nat)) ∧ Fr (fun _ => False) W w' from fun W f => by
    have := room_on (LG5.out.keep (p' := p5) f rfl (fun h => h) (fun h => h) (fun _ h => .inl h)) ON5.out
    rw [HM.out _ Q5.out.2] at this; exact this)
  have CT := Lib.hid (show ∀ W, Fr (fun _ => False) w5 W → Calls Try.prog 54 #[.pointer (some ⟨bl, 0, none⟩)] W fun e w' => e = .returned (.int .i64 0) ∧ W = w' from fun W f =>
    count_on (LG5.out.keep (p' := p5) f rfl (fun h => h) (fun h => h) (fun _ h => .inl h)) ON5.out)
  have RR := Lib.hid (show ∀ W, Calls Try.prog 60 #[.agg #[.int .i64 m, .slice none 0 0]] W fun e w' => e = .returned (.int .i64 (m : Nat)) ∧ Fr (fun _ => False) W w' from fun W =>
    refRoom_any W m _ [] (.inl ⟨rfl, rfl⟩) hmb (by simp [sumN]) (fun _ h => by cases h))
  clear hS5 st5 lg5 hp5 mv5 Z FT hbl hbm r4 pf9
  go_upto_region 8 with fail
  go_region_held3 (fun w' => rowOf w' b9 = #[.int .i64 m, .slice none 0 0])
    (first | assumption | (rw [rowOf_drew]; assumption))
    (first | (go_simp; go_at_call 53; refine (RM.out _ (Fr.refl _ _).drew).mono ?_; rintro e w6 ⟨rfl, f6⟩; have F6 := Lib.hid ((Fr.refl (fun _ => False) w5).drew.trans f6 (fun _ _ h => h)); have k6 := (f6.row (g := b9) l9 (fun h => h)).trans ((rowOf_drew _ _).trans r5); have l96 := Nat.lt_of_lt_of_le l9 f6.size; clear f6) | (go_simp; go_at_call 60; refine (RR.out _).mono ?_; rintro e w7 ⟨rfl, f7⟩; have F7 := Lib.hid (F6.out.trans f7 (fun _ _ h => h)); have k7 := (f7.row (g := b9) l96 (fun h => h)).trans k6; have l97 := Nat.lt_of_lt_of_le l96 f7.size; clear f7) | (go_simp; go_at_call 54; refine (CT.out _ F7.out).mono ?_; rintro e w7 ⟨rfl, rfl⟩))
  all_goals
    have BN := Lib.hid (show rowOf w7 b9 = #[.int .i64 m, .slice none 0 0] ∧ b9 < w7.heap.size from ⟨k7, l97⟩)
    have ST8 := Lib.hid (ST5.out.calm F7.out (fun _ h => h.elim))
    clear RM CT r5 k6 k7 l96 l97 l9
    go_wp2_with fail
    have CN := Lib.hid (show Calls Try.prog 23 #[.pointer (some ⟨p.d, 0, none⟩), .slice none 0 0] w7 fun e w' => ∃ p', p'.d = p5.d ∧ e = .returned (.int .i64 (S5.crash []).1) ∧ St w w' p' (S5.crash []).2 ∧ Moves p5.foot p'.foot w7 w' by
      rw [← P5.out]; exact crash_st w w7 p5 S5 ST8.out _ [] ⟨none, 0, rfl, by simp, .inl rfl⟩)
    refine CN.out.mono ?_
    rintro e w9 ⟨p9, hp9, rfl, s9, m9⟩
    have ST9 := Lib.hid s9
    have CR := Lib.hid (crd_of ST5.out.rep.ok [] (crash_nil_zero S5))
    obtain ⟨S9, hS9⟩ : ∃ S9, (S5.crash []).2 = S9 := ⟨_, rfl⟩
    rw [hS9] at ST9 CR
    have P9 := Lib.hid (hp9.trans P5.out)
    have r9 := (m9.fr.row BN.out.2 nf9).trans BN.out.1
    have l9 := Nat.lt_of_lt_of_le BN.out.2 m9.fr.size
    have nf99 : ¬ p9.foot b9 := fun e => (m9.new b9 e).elim nf9 (fun h => by have := BN.out.2; omega)
    obtain ⟨s, hd, u, Q, hbd, hQ, lies⟩ := (ON5.out.dead [] false).lies _ CR.out.mix
    obtain rfl : Q = [] := hQ.elim id (fun h => by cases h.1)
    have L9 := Lib.hid (show Lies S9.vis S9.oSize s hd [] u by rw [oSize_same CR.out.len]; exact lies)
    have HBD := Lib.hid hbd
    have DB := Lib.hid (show DiskB S9 1 from ⟨ST9.out.rep.ok, by rw [CR.out.len]; exact ON5.out.d.n6, by rw [CR.out.wr]; exact ON5.out.d.w0, by rw [CR.out.wr]; exact ON5.out.d.w1⟩)
    clear s9 m9 hS9 hp9 lies hbd hQ CN
    go_wp2_with fail
    have OP := Lib.hid (show Calls Try.prog 47 #[.pointer (some ⟨p.d, 0, none⟩)] w9 fun e w' => OpenPost w w9 p9 S9 (headPick S9.reads 2) e w' by
      rw [← P9.out]; exact open_any w w9 p9 S9 ST9.out DB.out.n6 CR.out.off (by rw [CR.out.pend]; simp))
    refine OP.out.mono ?_
    rintro e w10 hpost
    rw [show headPick S9.reads 2 = some (s, hd) by rw [reads_vis CR.out.off CR.out.pend]; exact L9.out.pick] at hpost
    obtain ⟨p10, hp10, st10, mv10, hres⟩ := hpost
    obtain ⟨-, a1, a2, a3, ⟨b1, b2, b3, b4⟩ | ⟨-, b2, -⟩⟩ := open_state DB.out (by omega) CR.out.off CR.out.pend HBD.out L9.out st10.rep.ok
    rotate_left
    · rw [CR.out.pl] at b2; cases b2
    rw [if_pos b1] at hres
    obtain ⟨bl2, vrec, us3, bm2, rfl, rs3, rff, lg3, hbl2, hbm2⟩ := hres
    rw [b3] at rs3
    replace b4 := b4 CR.out.pl
    obtain ⟨av, cv, rfl⟩ := rs3.refl'.list.shape
    have ST10 := Lib.hid st10
    have LG10 := Lib.hid lg3
    have ON10 := Lib.hid b2
    have P10 := Lib.hid (hp10.trans P9.out)
    have r10 := (mv10.fr.row l9 nf99).trans r9
    have l10 := Nat.lt_of_lt_of_le l9 mv10.fr.size
    obtain ⟨S10, hS10⟩ : ∃ S10, (S9.oDone s hd).2 = S10 := ⟨_, rfl⟩
    obtain ⟨V10, hV10⟩ : ∃ V10, (⟨S9.oHead hd, s, S9.oSize, (S9.oRead hd).2, (S9.oRead hd).1.length, false⟩ : LogV) = V10 := ⟨_, rfl⟩
    have Q10 := Lib.hid (show S10.data.length = n ∧ S10.pl = false by rw [← hS10]; exact ⟨by rw [a1, CR.out.len]; exact Q5.out.2, b4⟩)
    rw [hS10] at ST10 ON10
    rw [hV10] at ON10 LG10
    have LG := Lib.hid (show LogAt w10 p10 bl2 bm2 V10 S10.data.length (genCnt S9.reads) by rw [Q10.out.1, ← (show S9.data.length = n by rw [CR.out.len]; exact Q5.out.2)]; exact LG10.out)
    have BL2 := Lib.hid (show w.heap.size ≤ bl2 from by have := ST9.out.fr.size; omega)
    have RM := Lib.hid (show ∀ W, Fr (fun _ => False) w10 W → Calls Try.prog 53 #[.pointer (some ⟨bl2, 0, none⟩)] W fun e w' => e = .returned (.int .i64 (m : Nat)) ∧ Fr (fun _ => False) W w' from fun W f => by
      have := room_on (LG.out.keep (p' := p10) f rfl (fun h => h) (fun h => h) (fun _ h => .inl h)) ON10.out
      rw [HM.out _ Q10.out.1] at this; exact this)
    clear hp10 st10 mv10 rs3 rff lg3 a1 a2 a3 b1 b2 b3 b4 hbl2 hbm2 OP hS10 hV10 r9 l9 LG10 BN ST8 ST9 L9 HBD DB CR nf9 nf99 BL
    go_upto_region 12 with fail
    go_region_held3 (fun w' => rowOf w' b9 = #[.int .i64 m, .slice none 0 0])
      (first | assumption | (rw [rowOf_drew]; assumption))
      (first | (go_simp; go_at_call 53; refine (RM.out _ (Fr.refl _ _).drew).mono ?_; rintro e w11 ⟨rfl, f6⟩; have F11 := Lib.hid ((Fr.refl (fun _ => False) w10).drew.trans f6 (fun _ _ h => h)); have k11 := (f6.row (g := b9) l10 (fun h => h)).trans ((rowOf_drew _ _).trans r10); have l11 := Nat.lt_of_lt_of_le l10 f6.size; clear f6) | (go_simp; go_at_call 60; refine (RR.out _).mono ?_; rintro e w12 ⟨rfl, f7⟩; have F12 := Lib.hid (F11.out.trans f7 (fun _ _ h => h)); have k12 := (f7.row (g := b9) l11 (fun h => h)).trans k11; have l12 := Nat.lt_of_lt_of_le l11 f7.size; clear f7))
    all_goals
      have O1 := Lib.hid (show Open1 w (w12.alloc (.cells #[.pointer (some ⟨p.d, 0, none⟩), .pointer (some ⟨bl2, 0, none⟩), .int .i64 m, .slice none 0 0, .slice none 0 0, .bool false, .bool false] 98)) w12.heap.size 2 from by
        have := wi_new (ST10.out.calm F12.out (fun _ h => h.elim)) (LG.out.keep (p' := p10) F12.out rfl (fun h => h) (fun h => h) (fun _ h => .inl h)) ON10.out BL2.out (HM.out _ Q10.out.1)
        rw [P10.out] at this
        exact ⟨_, _, _, _, _, _, _, _, _, _, _, _, this, Q10.out.2⟩)
      have r12 := k12
      clear k11 k12 r10 l10 RM LG ON10 ST10
      go_wp2_with fail
      obtain ⟨W1, hW1⟩ : ∃ W1, w12.alloc (.cells #[.pointer (some ⟨p.d, 0, none⟩), .pointer (some ⟨bl2, 0, none⟩), .int .i64 m, .slice none 0 0, .slice none 0 0, .bool false, .bool false] 98) = W1 := ⟨_, rfl⟩
      obtain ⟨wb, hwb⟩ : ∃ b, w12.heap.size = b := ⟨_, rfl⟩
      rw [hW1, hwb] at O1 ⊢
      clear hW1 hwb
      have WR := Lib.hid (show ∀ W j, Open1 w W wb j → j ≤ 8388608 → Calls Try.prog 58 #[.pointer (some ⟨wb, 0, none⟩), .agg #[.int .i64 0, .int .i64 0, .slice ab q cb, .slice none 0 0]] W fun e w' => e = .returned (.bool true) ∧ Open1 w w' wb (j + 1) from
        fun W j h hj => by
          have B := BT.out
          obtain ⟨B1, B2, B3, B4⟩ := B
          subst B2
          exact write_open h hj 0 0 ab cb b none 0 0 B1 B3 B4)
      refine (WR.out W1 _ O1.out (by omega)).mono ?_
      rintro e w4 ⟨rfl, o4⟩
      have O4 := Lib.hid o4
      clear o4
      go_wp2_with fail
      refine (crash_open O4.out (by omega)).mono ?_
      rintro e w5 ⟨rfl, o5⟩
      have O5 := Lib.hid o5
      clear o5
      go_wp2_with fail
      refine (WR.out _ _ O5.out (by omega)).mono ?_
      rintro e w6 ⟨rfl, o6⟩
      have O6 := Lib.hid o6
      clear o6
      go_wp2_with fail
      refine (crash_open O6.out (by omega)).mono ?_
      rintro e w7 ⟨rfl, o7⟩
      have O7 := Lib.hid o7
      clear o7
      go_wp2
      go_ret
      exact ⟨rfl, O7.out.fr.below (Nat.le_refl _) (fun _ _ h => h)⟩

theorem formats_any (w : World) (a : Option Addr) (cap : Nat) (image : List UInt8) (tv : Value) (torn : List Int) (ab : Option Addr) (q cb : Nat) (b : List UInt8) (hi : BytesAt w (.slice a image.length cap) image) (hcap : image.length ≤ cap) (hL : image.length ≤ 140737488355328) (ht : IntsAt w tv torn)
    (hb : BytesAt w (.slice ab q cb) b) (hq : b.length = q) (hcb : q ≤ cb) (hb2 : q ≤ 140737488355328) :
    Calls Try.prog 17 #[.slice a image.length cap, tv, .slice ab q cb] w fun e w' => e = .returned (.bool true) ∧ Below w.heap.size w w' := by
  by_cases hA : image.length % 64 ≠ 0 ∨ image.length / 64 < 1 ∨ 16384 < image.length / 64
  · exact formats_bad w _ _ _ ((load_bad1 w a image.length cap tv (by omega) hA).mono fun _ _ h => ⟨h.1, by rw [h.2]; exact Fr.refl _ _⟩)
  · have hn : image.length = (image.length / 64) * 64 := by omega
    have hne : image ≠ [] := by intro e; rw [e] at hA; simp at hA
    obtain ⟨a', cap', he, hnil | ⟨g, off, hax, hx, hc⟩⟩ := hi
    · exact absurd hnil hne
    simp only [Value.slice.injEq] at he
    obtain ⟨rfl, -, rfl⟩ := he
    subst hax
    by_cases hT : ∀ t ∈ torn, 0 ≤ t ∧ t < (image.length / 64 : Nat)
    · have h1 := tearAll_fields torn (DS.laidUpto image (image.length / 64) (image.length / 64))
      have h2 := laidUpto_fields image (image.length / 64) (image.length / 64)
      have hl := load_ok w g off cap image tv torn (image.length / 64) hn hcap (by omega) (by omega) hx hc ht hT
      by_cases h6 : (DS.load image torn).data.length < 6
      · exact formats_small w _ _ _ _ h6 hl
      · refine formats_ok w _ _ ab q cb b hb hq hcb hb2 (DS.load image torn) (by omega) ?_ ?_ ?_ ?_ hl
        · unfold DS.load; rw [h1.2.2.2.1]; exact h2.2.2.2.1
        · unfold DS.load; rw [h1.2.2.2.2.1]; exact h2.2.2.2.2.1
        · unfold DS.load; rw [h1.2.2.1]; exact h2.2.2.1
        · unfold DS.load; rw [h1.2.2.2.2.2.2.1]; exact h2.2.2.2.2.2.2.1
    · exact formats_bad w _ _ _ (load_bad3 w g off cap image tv torn (image.length / 64) hn hcap (by omega) (by omega) hx hc ht hT)

theorem formats_args (w : World) (a0 : Option Addr) (len0 cap0 : Nat) (z0 : List Int) (a1 : Option Addr) (len1 cap1 : Nat) (z1 : List Int) (a2 : Option Addr) (len2 cap2 : Nat) (z2 : List Int) (w0 : Came .u8 w a0 len0 cap0 z0) (s0 : cap0 * 1 ≤ 140737488351232) (w1 : Came .i64 w a1 len1 cap1 z1)
    (w2 : Came .u8 w a2 len2 cap2 z2) (s2 : cap2 * 1 ≤ 140737488351232) :
    Calls Try.prog 17 #[.slice a0 len0 cap0, .slice a1 len1 cap1, .slice a2 len2 cap2] w fun e w' => e = .returned (.bool true) ∧ Below w.heap.size w w' := by
  have h0 := w0.le
  have h2 := w2.le
  obtain ⟨A, rfl, hA⟩ := bytes_of_row w0
  obtain ⟨K, rfl, hK⟩ := ints_of_row w1
  obtain ⟨B, rfl, hB⟩ := bytes_of_row w2
  exact formats_any w a0 cap0 A _ K a2 _ cap2 B hA h0 (by omega) hK hB rfl h2 (by omega)

end Go.Proofs.Ytflnlpbcmcfblaa
