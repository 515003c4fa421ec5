/-
  Package log: Format.
-/
import Derived.Test.YtflnlpbcmcfblaaLM
import Derived.Test.YtflnlpbcmcfblaaAnyM
namespace Go.Proofs.Ytflnlpbcmcfblaa
open Go.RowKit

/-! ### Package log: Format. -/
set_option maxRecDepth 20000 in
set_option maxHeartbeats 1000000 in
theorem format_small (w : World) (p : DP) (S : DS) (h : DiskRep w p S) (hn : S.data.length < 6) :
    Calls Try.prog 48 #[.pointer (some ⟨p.d, 0, none⟩)] w fun e w' => e = .returned (.tuple #[.pointer none, .int .i64 1]) ∧ w = w' := by
  have LK := Lib.hid (look_small w p S h hn)
  clear h hn
  go_enter Try.func48, Try.ntmps48
  go_wp2_with fail
  refine LK.out.mono ?_
  rintro e w' ⟨rfl, rfl⟩
  go_wp2
  go_ret2
  exact ⟨rfl, rfl⟩

theorem two_blocks {w : World} {v1 v2 : Value} {a b : List UInt8} {base : Nat} (h1 : OwnB w v1 a base) (h2 : OwnB w v2 b base) (hb : base ≤ w.heap.size) (t : TypeId) : AllAt (w.alloc (.cells #[v1, v2] t)) (.slice (some ⟨w.heap.size, 0, none⟩) 2 2) [a, b] base := by
  have e : rowOf (w.alloc (.cells #[v1, v2] t)) w.heap.size = #[v1, v2] := rowOf_alloc_at _ _ _ _ _ rfl
  refine ⟨w.heap.size, 0, 2, rfl, Nat.le_refl _, hb, by rw [e]; simp, fun i hi => ?_⟩
  have f := (Fr.refl (fun _ => False) w).alloc (.cells #[v1, v2] t)
  rcases (show i = 0 ∨ i = 1 by simp at hi; omega) with rfl | rfl
  · exact ⟨v1, by rw [e]; rfl, h1.keep f (fun _ _ h => h)⟩
  · exact ⟨v2, by rw [e]; rfl, h2.keep f (fun _ _ h => h)⟩

def DS.fLife (S : DS) : Nat := freeFrom (lifeCnt S.reads) S.data.length 1
def DS.fGen (S : DS) : Nat := freeFrom (genCnt S.reads) S.data.length 1
def DS.fDone (S : DS) : Int × DS := S.writeSeq 0 [headB ⟨0, S.fLife, S.fGen, 0⟩, headB ⟨1, S.fLife, S.fGen, 0⟩]
def DS.fLog (S : DS) : LogV := ⟨⟨1, S.fLife, S.fGen, 0⟩, 0, S.oSize, 0, 0, false⟩

set_option maxRecDepth 20000 in
set_option maxHeartbeats 4000000 in
theorem format_any (w0 w : World) (p : DP) (S : DS) (h : St w0 w p S) (hn : 6 ≤ S.data.length) (ho : S.off = false) (hm : S.pend.length ≤ 1099511627776) (hz : S.fDone.1 = 0) :
    Calls Try.prog 48 #[.pointer (some ⟨p.d, 0, none⟩)] w fun e w' => ∃ p' bl bm, p'.d = p.d ∧ e = .returned (.tuple #[.pointer (some ⟨bl, 0, none⟩), .int .i64 0]) ∧ St w0 w' p' S.fDone.2 ∧ Moves p.foot p'.foot w w' ∧ LogAt w' p' bl bm S.fLog S.data.length (genCnt S.reads) ∧ w.heap.size ≤ bl ∧ w.heap.size ≤ bm := by
  have H := Lib.hid h
  have HM := Lib.hid hm
  have HZ := Lib.hid hz
  have n1 := h.rep.ok.n1
  have LK := Lib.hid (look_ok w p S h.rep hn ho)
  have RL := Lib.hid (reads_len S)
  obtain ⟨n, hnn⟩ : ∃ n, S.data.length = n := ⟨_, rfl⟩
  have HN := Lib.hid hnn
  rw [hnn] at hn n1 RL ⊢
  have HNE := Lib.hid (show S.reads ≠ [] from fun e => by have := RL.out; rw [e] at this; simp at this; omega)
  have PM := Lib.hid (show ∀ k, p.foot k → k < w.heap.size from fun k hk => H.out.lt hk)
  clear h hm hnn ho hz
  go_enter Try.func48, Try.ntmps48
  go_wp2_with fail
  refine LK.out.mono ?_
  rintro e w1 ⟨v1, rfl, a1, f1⟩
  have A1 := Lib.hid a1
  have F1 := Lib.hid f1
  obtain ⟨g1, off1, cap1, hv1, hcap, hbase, hsz, -⟩ := a1
  rw [RL.out] at hv1 hcap
  subst hv1
  clear f1
  go_wp2_with fail
  refine (taken_any w1 _ S.reads w.heap.size A1.out HNE.out (by rw [RL.out]; exact n1)).mono ?_
  rintro e w5 ⟨b1, b2, rfl, c1, c2, hb1, hb2, h12, f5⟩
  rw [RL.out] at c1 c2
  have C1 := Lib.hid c1
  have C2 := Lib.hid c2
  have F5 := Lib.hid (F1.out.trans f5 (fun _ _ h => h))
  have HB2 := Lib.hid (show w.heap.size ≤ b2 by have := F1.out.size; omega)
  clear c1 c2 f5 hb1 hb2 h12
  go_wp2_with fail
  show Calls _ _ #[_, .int .u64 ((1 : Nat) : Int)] _ _
  refine (fresh_any w5 b1 n _ C1.out 1 n (by omega) (by have := life_free S.reads 1; rw [RL.out] at this; exact this)).mono ?_
  rintro e w8 ⟨rfl, rfl⟩
  have LL := Lib.hid (show S.fLife = freeFrom (lifeCnt S.reads) n 1 by unfold DS.fLife; rw [HN.out])
  have LB := Lib.hid (freeFrom_le (lifeCnt S.reads) n 1)
  obtain ⟨L, hL⟩ : ∃ L, freeFrom (lifeCnt S.reads) n 1 = L := ⟨_, rfl⟩
  rw [hL] at LL LB ⊢
  clear hL
  go_wp2_with fail
  show Calls _ _ #[_, .int .u64 ((1 : Nat) : Int)] _ _
  refine (fresh_any w5 b2 n _ C2.out 1 n (by omega) (by have := gen_free S.reads 1; rw [RL.out] at this; exact this)).mono ?_
  rintro e w8 ⟨rfl, rfl⟩
  have GG := Lib.hid (show S.fGen = freeFrom (genCnt S.reads) n 1 by unfold DS.fGen; rw [HN.out])
  have GB := Lib.hid (freeFrom_le (genCnt S.reads) n 1)
  obtain ⟨G, hG⟩ : ∃ G, freeFrom (genCnt S.reads) n 1 = G := ⟨_, rfl⟩
  rw [hG] at GG GB ⊢
  clear hG
  go_upto_region 8 with fail
  obtain ⟨W7, hW7⟩ : ∃ W7, (w5.alloc (.cells #[.int .u64 1, .int .u64 L, .int .u64 G, .int .i64 0] 89)).alloc (.cells #[.int .u64 0, .int .u64 L, .int .u64 G, .int .i64 0] 89) = W7 := ⟨_, rfl⟩
  obtain ⟨bh, hbh⟩ : ∃ b, w5.heap.size = b := ⟨_, rfl⟩
  obtain ⟨be, hbe⟩ : ∃ b, w5.heap.size + 1 = b := ⟨_, rfl⟩
  have Q7 := Lib.hid (show Fr (fun _ => False) w5 W7 ∧ W7.heap.size = w5.heap.size + 2 by
    rw [← hW7]; exact ⟨((Fr.refl (fun _ => False) w5).alloc _).alloc _, by simp⟩)
  have rh : rowOf W7 bh = #[.int .u64 1, .int .u64 L, .int .u64 G, .int .i64 0] := by
    rw [← hW7, ← hbh, rowOf_alloc_lt _ _ _ (by simp)]; exact rowOf_alloc_at _ _ _ _ _ rfl
  have re : rowOf W7 be = #[.int .u64 0, .int .u64 L, .int .u64 G, .int .i64 0] := by
    rw [← hW7, ← hbe]; exact rowOf_alloc_at _ _ _ _ _ (by simp)
  have BH := Lib.hid (And.intro hbh hbe)
  rw [hW7]
  rw [hbe, hbh]
  clear hW7 hbh hbe
  have F7 := Lib.hid (F5.out.trans Q7.out.1 (fun _ _ h => h))
  have hh7 : bh < W7.heap.size := by have := BH.out; have := Q7.out.2; omega
  have he7 : be < W7.heap.size := by have := BH.out; have := Q7.out.2; omega
  have hL64 : L < 18446744073709551616 := by have := LB.out; omega
  have hG64 : G < 18446744073709551616 := by have := GB.out; omega
  have HE := Lib.hid (show ∀ W, Calls Try.prog 86 #[.agg #[.int .u64 0, .int .u64 L, .int .u64 G, .int .i64 0]] W fun e w' => ∃ v', e = .returned v' ∧ OwnB w' v' (headB ⟨0, L, G, 0⟩) W.heap.size ∧ Fr (fun _ => False) W w' from
    fun W => headBlock_any W 0 L G 0 (by omega) hL64 hG64 (by omega))
  have HH := Lib.hid (show ∀ W, Calls Try.prog 86 #[.agg #[.int .u64 1, .int .u64 L, .int .u64 G, .int .i64 0]] W fun e w' => ∃ v', e = .returned v' ∧ OwnB w' v' (headB ⟨1, L, G, 0⟩) W.heap.size ∧ Fr (fun _ => False) W w' from
    fun W => headBlock_any W 1 L G 0 (by omega) hL64 hG64 (by omega))
  have FD := Lib.hid (show S.fDone = S.writeSeq 0 [headB ⟨0, L, G, 0⟩, headB ⟨1, L, G, 0⟩] by unfold DS.fDone; rw [LL.out, GG.out])
  have WR := Lib.hid (show ∀ W v, Fr (fun _ => False) w W → AllAt W v [headB ⟨0, L, G, 0⟩, headB ⟨1, L, G, 0⟩] w5.heap.size → Calls Try.prog 85 #[.pointer (some ⟨p.d, 0, none⟩), .int .i64 0, v] W fun e w' => ∃ p', p'.d = p.d ∧ e = .returned (.int .i64 0) ∧ St w0 w' p' S.fDone.2 ∧ Moves p.foot p'.foot W w' from
    fun W v fW hv => by
      rw [FD.out]
      have hz := HZ.out
      rw [FD.out] at hz
      have := writeL_any w0 W p S (H.out.calm fW (fun _ h => h.elim)) 0 v [headB ⟨0, L, G, 0⟩, headB ⟨1, L, G, 0⟩] w5.heap.size hv (by simp) (by simp) (by omega) (fun j h1 _ h3 => by have := PM.out j h3; have := F5.out.size; omega) HM.out
      rw [show ((0 : Nat) : Int) = 0 from rfl, hz] at this
      exact this)
  clear hL64 hG64
  go_region_held3 (fun w' => rowOf w' bh = #[.int .u64 1, .int .u64 L, .int .u64 G, .int .i64 0] ∧ rowOf w' be = #[.int .u64 0, .int .u64 L, .int .u64 G, .int .i64 0])
    (first | assumption | (refine ⟨?_, ?_⟩ <;> first | assumption | (rw [rowOf_drew]; assumption) | (rw [rowOf_alloc_lt _ _ _ (by assumption)]; assumption)))
    (first | (go_simp; go_at_call 86; (with_reducible refine (HE.out _).mono ?_); rintro e w3 ⟨v3, rfl, o3, f3⟩; have O3 := Lib.hid o3; have F3 := Lib.hid (show Fr (fun _ => False) W7 w3 from (Fr.refl _ W7).drew.trans f3 (fun _ _ h => h)); have kh3 := (F3.out.row hh7 (fun h => h)).trans rh; have ke3 := (F3.out.row he7 (fun h => h)).trans re; have hh3 := Nat.lt_of_lt_of_le hh7 F3.out.size; have he3 := Nat.lt_of_lt_of_le he7 F3.out.size; obtain ⟨a3, c3, e3⟩ := o3.shape; rw [headB_len] at e3; subst e3; clear o3 f3) | (go_simp; go_at_call 86; (with_reducible refine (HH.out _).mono ?_); rintro e w4 ⟨v4, rfl, o4, f4⟩; have O4 := Lib.hid o4; have F4 := Lib.hid f4; have kh4 := (f4.row hh3 (fun h => h)).trans kh3; have ke4 := (f4.row he3 (fun h => h)).trans ke3; have hh4 := Nat.lt_of_lt_of_le hh3 f4.size; have he4 := Nat.lt_of_lt_of_le he3 f4.size; obtain ⟨a4, c4, e4⟩ := o4.shape; rw [headB_len] at e4; subst e4; clear o4 f4) | (go_simp; go_at_call 85; refine (WR.out _ _ (((F7.out.trans F3.out (fun _ _ h => h)).trans F4.out (fun _ _ h => h)).alloc _) (two_blocks ((O3.out.keep F4.out (fun _ _ h => h)).weaken (show w5.heap.size ≤ W7.drew.heap.size from Q7.out.1.size)) (O4.out.weaken (Nat.le_trans Q7.out.1.size F3.out.size)) (Nat.le_trans Q7.out.1.size (Nat.le_trans F3.out.size F4.out.size)) 36)).mono ?_; rintro e w6 ⟨p6, hp6, rfl, s6, m6⟩; have M6 := Lib.hid m6; have S6 := Lib.hid s6; have P6 := Lib.hid hp6; have kh6 := (m6.fr.row (g := bh) (by simp; omega) (fun e => by have := PM.out _ e; have := BH.out; have := F5.out.size; omega)).trans ((rowOf_alloc_lt w4 _ _ hh4).trans kh4); have ke6 := (m6.fr.row (g := be) (by simp; omega) (fun e => by have := PM.out _ e; have := BH.out; have := F5.out.size; omega)).trans ((rowOf_alloc_lt w4 _ _ he4).trans ke4); clear m6 s6 hp6))
  all_goals
    obtain ⟨m, hmm⟩ : ∃ m, (n - 2) / 2 = m := ⟨_, rfl⟩
    have MM := Lib.hid (show S.oSize = m by unfold DS.oSize; rw [HN.out]; exact hmm)
    have e2 : ((n : Int) - 2) / 2 = (m : Int) := by omega
    have MT := Lib.hid (show Moves p.foot p6.foot w w6 from ⟨(((((F7.out.trans F3.out (fun _ _ h => h)).trans F4.out (fun _ _ h => h)).alloc _).mono (fun _ _ h => h.elim)).trans M6.out.fr (fun i hi h => h)), fun j hj => (M6.out.new j hj).imp id (fun h => by have := F7.out.size; have := F3.out.size; have := F4.out.size; simp at h; omega)⟩)
    have C6 := Lib.hid (((((C2.out.keep Q7.out.1 (fun h => h)).keep F3.out (fun h => h)).keep F4.out (fun h => h)).keep ((Fr.refl (fun _ => False) w4).alloc (.cells #[.slice a3 64 c3, .slice a4 64 c4] 36)) (fun h => h)).keep M6.out.fr (fun e => by have := PM.out _ e; have := HB2.out; omega))
    have hb26 := C6.out.lt
    clear hmm
    go_wp2
    go_ret2
    have FX := (Fr.refl (fun _ => False) w6).alloc (.cells #[.pointer (some ⟨p.d, 0, none⟩), .int .u64 1, .int .u64 L, .int .u64 G, .int .i64 0, .int .i64 0, .int .i64 m, .int .i64 0, .int .i64 0, .bool false, .map (some b2)] 92)
    refine ⟨p6, w6.heap.size, b2, P6.out, rfl, S6.out.calm FX (fun _ h => h.elim), ⟨MT.out.fr.trans FX (fun _ _ h => h.elim), MT.out.new⟩, ⟨?_, live_alloc_at _ _ _ _ rfl, C6.out.keep FX (fun h => h), fun e => by have := S6.out.lt e; omega, fun e => (M6.out.new _ e).elim (fun h => by have := PM.out _ h; have := HB2.out; omega) (fun h => by have := C2.out.lt; have := Q7.out.1.size; have := F3.out.size; have := F4.out.size; simp at h; omega), by omega⟩, MT.out.fr.size, HB2.out⟩
    rw [rowOf_alloc_at _ _ _ _ _ rfl, P6.out]
    unfold DS.fLog logRow
    simp only
    rw [MM.out, LL.out, GG.out]
    rfl

/-! ### Package log, in plain: the states of a log and its disk between calls, and what each call makes of them. -/
/-- A head's numbers, after k calls. -/
structure Bd (h : HeadV) (k : Nat) : Prop where
  t : h.turn ≤ k
  l : h.life ≤ 20000 * k
  g : h.gen ≤ 20000 * k

theorem Bd.mono {h : HeadV} {k k' : Nat} (H : Bd h k) (hk : k ≤ k') : Bd h k' := ⟨by have := H.t; omega, by have := H.l; omega, by have := H.g; omega⟩

/-- A disk's counts, after k calls. -/
structure DiskB (S : DS) (k : Nat) : Prop where
  ok : S.Ok
  n6 : 6 ≤ S.data.length
  w0 : 0 ≤ S.wr
  w1 : S.wr ≤ 20000 * k

/-- A log stands open on a disk that is on. -/
structure OnS (S : DS) (V : LogV) (cnt : Nat → Nat) (R : List (List UInt8)) (k : Nat) : Prop where
  d : DiskB S k
  off : S.off = false
  pend : S.pend = []
  live : LiveL S.vis S.oSize V R cnt
  bd : Bd V.h k
  free : ∀ g, cnt (freeFrom cnt S.data.length g) = 0

/-- The power went: whatever survives, it is one of two logs. -/
structure DeadS (S : DS) (R alt : List (List UInt8)) (met : Bool) (k : Nat) : Prop where
  d : DiskB S k
  lies : ∀ all', Mix S.vis S.pend all' → ∃ s h u Q, Bd h k ∧ (Q = R ∨ met = true ∧ Q = alt) ∧ Lies all' S.oSize s h Q u

theorem mix_nil {all all' : List (List UInt8)} (h : Mix all [] all') : all' = all :=
  ext_at h.len (fun _ _ => h.out (fun x hx => by simp at hx))

theorem OnS.dead {S : DS} {V : LogV} {cnt : Nat → Nat} {R : List (List UInt8)} {k : Nat} (h : OnS S V cnt R k) (alt : List (List UInt8)) (met : Bool) : DeadS S R alt met k :=
  ⟨h.d, fun all' hm => by rw [h.pend] at hm; rw [mix_nil hm]; exact ⟨_, _, _, _, h.bd, .inl rfl, h.live.lies⟩⟩

theorem OnS.vok {S : DS} {V : LogV} {cnt : Nat → Nat} {R : List (List UInt8)} {k : Nat} (h : OnS S V cnt R k) : V.Ok := by
  have f := h.live.lies.fits
  have n1 := h.d.ok.n1
  have ha := h.live.lies.ar.sum
  have hl := areaL_len h.live.lies.arfit
  have hR := sumN_ge R
  have hn := h.live.lies.n
  rw [vis_len] at hn
  exact ⟨f.t, by have := f.l; omega, by have := f.g; omega, f.a, h.live.sl, by rw [h.live.vs]; omega, by rw [h.live.vs]; omega, by rw [h.live.vr]; omega⟩

theorem oSize_same {S T : DS} (h : T.data.length = S.data.length) : T.oSize = S.oSize := by unfold DS.oSize; rw [h]

theorem oSize_fit {S : DS} (h : 6 ≤ S.data.length) : 2 + 2 * S.oSize ≤ S.data.length ∧ 2 ≤ S.oSize := by unfold DS.oSize; omega

/-- The room that is left. -/
theorem OnS.used {S : DS} {V : LogV} {cnt : Nat → Nat} {R : List (List UInt8)} {k : Nat} (h : OnS S V cnt R k) : V.used = sumN R ∧ V.used ≤ S.oSize ∧ V.size = S.oSize := by
  have ha := h.live.lies.ar.sum
  have hl := areaL_len h.live.lies.arfit
  exact ⟨ha.1, by rw [← hl]; exact ha.2, h.live.vs⟩

theorem append_state {S : DS} {V : LogV} {cnt : Nat → Nat} {R : List (List UInt8)} {k : Nat} (h : OnS S V cnt R k) (hk : k ≤ 8388608) {b : List UInt8} (hb : b.length ≤ 65536) (hf : recN b.length ≤ V.size - V.used) {S' : DS} {q : Int} (e : appendS S V b = (q, S')) (hok : S'.Ok) :
    S'.data.length = S.data.length ∧ S.wr ≤ S'.wr ∧ S'.wr ≤ S.wr + recN b.length ∧
    ((q = 0 ∧ OnS S' (V.appended 0 b) cnt (R ++ [b]) (k + 1) ∧ (S.pl = false → S'.pl = false)) ∨ (q = 22 ∧ S.pl = true ∧ S'.off = true ∧ DeadS S' R (R ++ [b]) true (k + 1))) := by
  have hv := h.vok
  have hu := h.used
  have hrn := recN_bound hb
  have hsz := h.live.lies.n
  rw [vis_len] at hsz
  have hfit : V.used + recN b.length ≤ S.oSize := by have := recN_pos b.length; omega
  have har := Nat.mul_le_mul_right S.oSize hv.a
  have hrf := h.live.rfits (by rw [vis_len]; exact h.d.ok.n1) hb
  have ho := writeSeq_out (layB V.h.gen V.h.life V.records b) S (2 + V.h.area * V.size + V.used) h.d.ok h.off (fun x hx => layB_64 hx) (by rw [layB_len, hu.2.2]; omega) h.d.w0 (by rw [layB_len]; have := h.d.w1; omega)
  have hlen : S'.data.length = S.data.length := by
    have := writeSeq_len (layB V.h.gen V.h.life V.records b) S ((2 + V.h.area * V.size + V.used : Nat) : Int)
    unfold appendS at e
    rw [e] at this; exact this
  unfold appendS at e
  rw [e, layB_len] at ho
  simp only [hu.2.2, h.live.vr, h.pend, List.nil_append] at ho
  rcases ho with ⟨a1, a2, a3, a4, a5, a6⟩ | ⟨a1, a2, a3, a4, a5, a6, a7⟩
  · refine ⟨hlen, by omega, by omega, .inl ⟨a1, ⟨⟨hok, by rw [hlen]; exact h.d.n6, by have := h.d.w0; omega, by have := h.d.w1; omega⟩, a2, a3, ?_, ?_, by rw [hlen]; exact h.free⟩, a5⟩⟩
    · rw [oSize_same hlen]
      have := append_done h.live hrf hfit a4
      simpa [LogV.appended] using this
    · have : (V.appended 0 b).h = V.h := by simp [LogV.appended]
      rw [this]; exact h.bd.mono (by omega)
  · refine ⟨hlen, a6, a7, .inr ⟨a2, a1, a3, ⟨⟨hok, by rw [hlen]; exact h.d.n6, by have := h.d.w0; omega, by have := h.d.w1; omega⟩, fun all' hm => ?_⟩⟩⟩
    rw [a5] at hm
    rw [oSize_same hlen]
    rcases append_fail h.live hrf hfit (hm.mono a4) with hl | hl
    · exact ⟨_, _, _, _, h.bd.mono (by omega), .inl rfl, hl⟩
    · exact ⟨_, _, _, _, h.bd.mono (by omega), .inr ⟨rfl, rfl⟩, hl⟩

theorem check_state {S : DS} {V : LogV} {cnt : Nat → Nat} {R : List (List UInt8)} {k : Nat} (h : OnS S V cnt R k) (hk : k ≤ 8388608) {b : List UInt8} (hb : b.length ≤ 65536) (hf : recN b.length ≤ V.size) {S1 S' : DS} {q1 q : Int} {g : Nat} (hg : ckG V S.data.length cnt = g)
    (e1 : ckLay S V b g = (q1, S1)) (hok1 : S1.Ok) (e : ckS S V b g = (q, S')) (hok : S'.Ok) :
    S'.data.length = S.data.length ∧ S.wr ≤ S'.wr ∧ S'.wr ≤ S.wr + recN b.length + 1 ∧
    ((q = 0 ∧ OnS S' (ckV S V b g) cnt [b] (k + 1) ∧ (S.pl = false → S'.pl = false)) ∨ (q = 22 ∧ S.pl = true ∧ S'.off = true ∧ (ckV S V b g).over = true ∧ DeadS S' R [b] true (k + 1))) := by
  have hv := h.vok
  have hu := h.used
  have hrn := recN_bound hb
  have hsz := h.live.lies.n
  rw [vis_len] at hsz
  have hfit : recN b.length ≤ S.oSize := by omega
  have har := Nat.mul_le_mul_right S.oSize (show 1 - V.h.area ≤ 1 by omega)
  have hrf := h.live.rfits (by rw [vis_len]; exact h.d.ok.n1) hb
  have hn1 := h.d.ok.n1
  have hgle : g ≤ V.h.gen + 1 + S.data.length := by rw [← hg]; exact freeFrom_le _ _ _
  have hgge : V.h.gen < g := by
    rw [← hg]; unfold ckG
    have : ∀ m a, a ≤ freeFrom cnt m a := by
      intro m
      induction m with
      | zero => intro a; exact Nat.le_refl _
      | succ m ih => intro a; unfold freeFrom; split; exact Nat.le_refl _; have := ih (a + 1); omega
    have := this S.data.length (V.h.gen + 1)
    omega
  have hgc : cnt g = 0 := by rw [← hg]; exact h.free _
  have hgb := h.bd.g
  have htb := h.bd.t
  have hlb := h.bd.l
  have hmod : (V.h.turn + 1) % 18446744073709551616 = V.h.turn + 1 := by omega
  have hfh : HeadFits ⟨V.h.turn + 1, V.h.life, g, 1 - V.h.area⟩ := ⟨by simp only; omega, by simp only; omega, by simp only; omega, by simp only; omega⟩
  have hck : ckH V g = ⟨V.h.turn + 1, V.h.life, g, 1 - V.h.area⟩ := by unfold ckH; rw [hmod]
  have ho := writeSeq_out (layB g V.h.life 0 b) S (2 + (1 - V.h.area) * V.size) h.d.ok h.off (fun x hx => layB_64 hx) (by rw [layB_len, hu.2.2]; omega) h.d.w0 (by rw [layB_len]; have := h.d.w1; omega)
  have hlen1 : S1.data.length = S.data.length := by
    have := writeSeq_len (layB g V.h.life 0 b) S ((2 + (1 - V.h.area) * V.size : Nat) : Int)
    unfold ckLay at e1
    rw [e1] at this; exact this
  have e1' := e1
  unfold ckLay at e1'
  rw [e1', layB_len] at ho
  simp only [hu.2.2, h.pend, List.nil_append] at ho
  rcases ho with ⟨a1, a2, a3, a4, a5, a6⟩ | ⟨a1, a2, a3, a4, a5, a6, a7⟩
  · subst a1
    obtain ⟨L1, L2, L3, L4⟩ := check_lay h.live hrf hfit hgge hgc (by omega) a4
    have eS : ckHead S V b g = (q, S') := by
      unfold ckS at e; rw [e1, if_neg (by simp)] at e; exact e
    have ho2 := writeSeq_out [headB (ckH V g)] S1 V.slot hok1 a2 (fun x hx => by simp at hx; subst hx; exact headB_len _) (by rw [hlen1]; have := hv.s; have := h.d.n6; simp; omega) (by have := h.d.w0; omega) (by have := h.d.w1; simp; omega)
    have hlen : S'.data.length = S.data.length := by
      have := writeSeq_len [headB (ckH V g)] S1 (V.slot : Int)
      unfold ckHead at eS
      rw [e1] at eS
      simp only at eS
      rw [eS] at this; exact this.trans hlen1
    have eS' := eS
    unfold ckHead at eS'
    rw [e1] at eS'
    simp only at eS'
    rw [eS', hck, a3] at ho2
    simp only [List.nil_append, List.length_singleton] at ho2
    rcases ho2 with ⟨c1, c2, c3, c4, c5, c6⟩ | ⟨c1, c2, c3, c4, c5, c6, c7⟩
    · subst c1
      have eV : ckV S V b g = ⟨⟨V.h.turn + 1, V.h.life, g, 1 - V.h.area⟩, 1 - V.slot, V.size, recN b.length, 1, false⟩ := by
        unfold ckV; rw [e1, if_neg (by simp), eS, if_neg (by simp), hck]
      refine ⟨hlen, by omega, by omega, .inl ⟨rfl, ?_, fun hp => c5 (a5 hp)⟩⟩
      rw [eV]
      refine ⟨⟨hok, by rw [hlen]; exact h.d.n6, by have := h.d.w0; omega, by have := h.d.w1; omega⟩, c2, c3, ?_, ⟨by simp only; omega, by simp only; omega, by simp only; omega⟩, by rw [hlen]; exact h.free⟩
      rw [oSize_same hlen, hu.2.2]
      exact check_done hv.s L1 L2 L3 L4 hfh c4
    · refine ⟨hlen, by omega, by omega, .inr ⟨c2, ?_, c3, ?_, ⟨⟨hok, by rw [hlen]; exact h.d.n6, by have := h.d.w0; omega, by have := h.d.w1; omega⟩, fun all' hm => ?_⟩⟩⟩
      · cases hp : S.pl with
        | true => rfl
        | false => rw [a5 hp] at c1; cases c1
      · unfold ckV; rw [e1, if_neg (by simp), eS, if_pos (by rw [c2]; simp)]
      · rw [c5] at hm
        rw [oSize_same hlen]
        rcases check_fail2 hv.s L1 L2 hfh (hm.mono c4) with hl | hl
        · exact ⟨_, _, _, _, h.bd.mono (by omega), .inl rfl, hl⟩
        · exact ⟨_, _, _, _, ⟨by simp only; omega, by simp only; omega, by simp only; omega⟩, .inr ⟨rfl, rfl⟩, hl⟩
  · have eS : q = q1 ∧ S' = S1 := by
      unfold ckS at e; rw [e1, if_pos (by rw [a2]; simp)] at e
      simp only [Prod.mk.injEq] at e
      exact ⟨e.1.symm, e.2.symm⟩
    obtain ⟨rfl, rfl⟩ := eS
    refine ⟨hlen1, a6, by omega, .inr ⟨a2, a1, a3, ?_, ⟨⟨hok, by rw [hlen1]; exact h.d.n6, by have := h.d.w0; omega, by have := h.d.w1; omega⟩, fun all' hm => ?_⟩⟩⟩
    · unfold ckV; rw [e1, if_pos (by rw [a2]; simp)]
    · rw [a5] at hm
      rw [oSize_same hlen1]
      exact ⟨_, _, _, _, h.bd.mono (by omega), .inl rfl, check_fail1 h.live hfit (hm.mono a4)⟩

/-- Format of a disk that is on, and whose power stays. -/
theorem format_state {S : DS} (hok : S.Ok) (hn : 6 ≤ S.data.length) (ho : S.off = false) (hp : S.pl = false) (hpe : S.pend = []) (hw : S.wr = 0) :
    S.fDone.1 = 0 ∧ (S.fDone.2.Ok → OnS S.fDone.2 S.fLog (genCnt S.reads) [] 1) ∧ S.fDone.2.pl = false ∧ S.fDone.2.data.length = S.data.length := by
  have hr : S.reads = S.vis := reads_vis ho hpe
  have hl : S.fLife ≤ 16385 := by have := freeFrom_le (lifeCnt S.reads) S.data.length 1; have := hok.n1; unfold DS.fLife; omega
  have hg : S.fGen ≤ 16385 := by have := freeFrom_le (genCnt S.reads) S.data.length 1; have := hok.n1; unfold DS.fGen; omega
  have hlen : S.fDone.2.data.length = S.data.length := writeSeq_len _ _ _
  have h0 := writeSeq_out [headB ⟨0, S.fLife, S.fGen, 0⟩, headB ⟨1, S.fLife, S.fGen, 0⟩] S 0 hok ho (fun x hx => by simp at hx; rcases hx with rfl | rfl <;> exact headB_len _) (by simp; omega) (by omega) (by simp; omega)
  rw [show (((0 : Nat) : Int)) = 0 from rfl] at h0
  rcases h0 with ⟨a1, a2, a3, a4, a5, a6⟩ | ⟨a1, -⟩
  · refine ⟨a1, fun hok2 => ⟨⟨hok2, by rw [hlen]; exact hn, ?_, ?_⟩, a2, a3, ?_, ⟨by simp [DS.fLog], by simp only [DS.fLog]; omega, by simp only [DS.fLog]; omega⟩, ?_⟩, a5 hp, hlen⟩
    · show 0 ≤ (S.writeSeq 0 _).2.wr; rw [a6, hw]; simp
    · show (S.writeSeq 0 _).2.wr ≤ _; rw [a6, hw]; simp
    · rw [oSize_same hlen, hr]
      rw [hpe, List.nil_append] at a4
      exact format_done (by rw [vis_len]; exact (oSize_fit hn).1) (by rw [← hr]; have := gen_free S.reads 1; rw [reads_len] at this; exact this) (by omega) (by omega) a4
    · intro g
      have := gen_free S.reads g
      rw [reads_len] at this
      rw [hlen]; exact this
  · rw [hp] at a1; cases a1

/-- Open of a disk on which a log lies. -/
theorem open_state {S : DS} {k : Nat} (hd : DiskB S k) (hk : k ≤ 8388608) (ho : S.off = false) (hpe : S.pend = []) {s u : Nat} {h : HeadV} {Q : List (List UInt8)} (hb : Bd h k) (L : Lies S.vis S.oSize s h Q u) (hok : (S.oDone s h).2.Ok) :
    headPick S.reads 2 = some (s, h) ∧ (S.oDone s h).2.data.length = S.data.length ∧ S.wr ≤ (S.oDone s h).2.wr ∧ (S.oDone s h).2.wr ≤ S.wr + 1 ∧
    (((S.oDone s h).1 = 0 ∧ OnS (S.oDone s h).2 ⟨S.oHead h, s, S.oSize, (S.oRead h).2, (S.oRead h).1.length, false⟩ (genCnt S.reads) Q (k + 1) ∧ (S.oRead h).1 = Q ∧ (S.pl = false → (S.oDone s h).2.pl = false)) ∨
     ((S.oDone s h).1 = 22 ∧ S.pl = true ∧ (S.oDone s h).2.off = true ∧ ∀ all', Mix (S.oDone s h).2.vis (S.oDone s h).2.pend all' → ∃ s' h' u', Bd h' (k + 1) ∧ Lies all' (S.oDone s h).2.oSize s' h' Q u')) := by
  have hr : S.reads = S.vis := reads_vis ho hpe
  have hn1 := hd.ok.n1
  have s1 := L.s1
  have hlen : (S.oDone s h).2.data.length = S.data.length := writeSeq_len _ _ _
  have hlife : S.oLife h ≤ h.life + 1 + S.data.length := freeFrom_le _ _ _
  have hb1 := hb.t
  have hb2 := hb.l
  have hb3 := hb.g
  have hhd : S.oHead h = ⟨h.turn + 1, S.oLife h, h.gen, h.area⟩ := by
    unfold DS.oHead; rw [Nat.mod_eq_of_lt (by omega)]
  have hfh : HeadFits ⟨h.turn + 1, S.oLife h, h.gen, h.area⟩ := ⟨by simp only; omega, by simp only; omega, L.fits.g, L.fits.a⟩
  have hbd : Bd ⟨h.turn + 1, S.oLife h, h.gen, h.area⟩ (k + 1) := ⟨by simp only; omega, by simp only; omega, by simp only; omega⟩
  have hL0 : lifeCnt S.vis (S.oLife h) = 0 := by
    have := life_free S.reads (h.life + 1)
    rw [reads_len] at this
    rw [← hr]; exact this
  have hrd : S.oRead h = (Q, u) := by
    have := L.ar.rd
    rw [areaL_len L.arfit] at this
    unfold DS.oRead DS.oArea
    rw [hr]
    exact this
  have h0 := writeSeq_out [headB (S.oHead h)] S (1 - s) hd.ok ho (fun x hx => by simp at hx; subst hx; exact headB_len _) (by have := hd.n6; simp; omega) hd.w0 (by have := hd.w1; simp; omega)
  have eD : S.writeSeq ((1 - s : Nat) : Int) [headB (S.oHead h)] = S.oDone s h := rfl
  rw [eD, hpe, List.nil_append, hhd] at h0
  simp only [List.length_singleton] at h0
  refine ⟨by rw [hr]; exact L.pick, hlen, ?_⟩
  rcases h0 with ⟨a1, a2, a3, a4, a5, a6⟩ | ⟨a1, a2, a3, a4, a5, a6, a7⟩
  · refine ⟨by omega, by omega, .inl ⟨a1, ?_, by rw [hrd], a5⟩⟩
    rw [hhd, hrd]
    refine ⟨⟨hok, by rw [hlen]; exact hd.n6, by have := hd.w0; omega, by have := hd.w1; omega⟩, a2, a3, ?_, hbd, ?_⟩
    · rw [oSize_same hlen, hr]
      exact open_done L hL0 hfh a4
    · intro g
      have := gen_free S.reads g
      rw [reads_len] at this
      rw [hlen]; exact this
  · refine ⟨a6, a7, .inr ⟨a2, a1, a3, fun all' hm => ?_⟩⟩
    rw [a5] at hm
    rw [oSize_same hlen]
    rcases open_fail L hfh (hm.mono a4) with hl | hl
    · exact ⟨_, _, _, hb.mono (by omega), hl⟩
    · exact ⟨_, _, _, hbd, hl⟩

end Go.Proofs.Ytflnlpbcmcfblaa
