/-
  The laws' world of package log: a crash after which the power stays.
-/
import Derived.Test.YtflnlpbcmcfblaaLR
namespace Go.Proofs.Ytflnlpbcmcfblaa
open Go.RowKit

/-! ### The laws' world of package log: a crash after which the power stays. -/
theorem crash_nil_is {S : DS} : S.crash [] = (0, { S with pend := [], off := false, pl := false, left := 0 }) := by
  unfold DS.crash
  rw [if_neg (by simp), if_neg (by simp)]
  simp

theorem IntsAt.below {w : World} {v : Value} {b : List Int} (h : IntsAt w v b) (hb : b ≠ []) {j : Nat} (hj : v.ownBlock = some j) : j < w.heap.size := by
  obtain ⟨a, c, rfl, hm, h | ⟨g, o, rfl, q1⟩⟩ := h
  · exact absurd h hb
  · have e : g = j := by simpa [Value.ownBlock] using hj
    subst e
    have := (Array.getElem?_eq_some_iff.1 (q1 0 (List.length_pos_iff.2 hb))).1
    exact rowOf_lt (by omega)

theorem IntsAt.after {w w' : World} {v : Value} {b : List Int} (h : IntsAt w v b) (f : Fr (fun _ => False) w w') : IntsAt w' v b := by
  by_cases hb : b = []
  · subst hb
    obtain ⟨a, c, rfl, hm, -⟩ := h
    exact ⟨a, c, rfl, hm, .inl rfl⟩
  · exact h.keep f (fun _ _ h => h)

theorem crash_st (w0 w : World) (p : DP) (S : DS) (h : St w0 w p S) (vk : Value) (l : List Int) (hk : IntsAt w0 vk l) :
    Calls Try.prog 23 #[.pointer (some ⟨p.d, 0, none⟩), vk] w fun e w' => ∃ p', p'.d = p.d ∧ e = .returned (.int .i64 (S.crash l).1) ∧ St w0 w' p' (S.crash l).2 ∧ Moves p.foot p'.foot w w' := by
  by_cases hl : l = []
  · subst hl
    obtain ⟨a, c, rfl, -⟩ := hk
    refine (crash_ok0 w p S h.rep a c).mono ?_
    rintro e w' ⟨rfl, r, f⟩
    rw [crash_nil_is]
    have m : Moves p.foot ({ p with pv := .slice none 0 0 } : DP).foot w w' := ⟨f, by
      rintro k (rfl | rfl | rfl | hk)
      · exact .inl (.inl rfl)
      · exact .inl (.inr (.inl rfl))
      · exact .inl (.inr (.inr (.inl rfl)))
      · cases hk⟩
    exact ⟨{ p with pv := .slice none 0 0 }, rfl, rfl, h.move m r, m⟩
  · refine (crash_any w p S h.rep vk l (hk.after h.fr) (fun k hk2 hf => ?_)).mono ?_
    · have := hk.below hl hk2
      have := h.foot k hf
      omega
    · rintro e w' ⟨p', h1, rfl, r, m⟩
      exact ⟨p', h1, rfl, h.move m r, m⟩

/-- The laws' world, ahead of a crash. -/
structure CI (w0 w : World) (wb : Nat) (p : DP) (S : DS) (bl : Nat) (vr vm : Value) (us um : List Value) (R alt : List (List UInt8)) (met over : Bool) (k : Nat) : Prop where
  st : St w0 w p S
  row : rowOf w wb = #[.pointer (some ⟨p.d, 0, none⟩), .pointer (some ⟨bl, 0, none⟩), .int .i64 S.oSize, vr, vm, .bool met, .bool over]
  liv : live w wb = true
  nwb : ¬ p.foot wb
  wwb : w0.heap.size ≤ wb
  rl : RefL w vr us R
  ml : RefL w vm um alt
  rf : ∀ j, recsFoot vr us j → ¬ p.foot j ∧ j ≠ wb
  mf : ∀ j, recsFoot vm um j → ¬ p.foot j ∧ j ≠ wb
  dead : DeadS S R alt met k
  hR : ∀ b ∈ R, b.length ≤ 65536
  hA : ∀ b ∈ alt, b.length ≤ 65536
  hs : sumN R ≤ S.oSize

/-- The laws' world with a log that stands open. -/
structure WI (w0 w : World) (wb : Nat) (p : DP) (S : DS) (bl bm : Nat) (V : LogV) (cnt : Nat → Nat) (vr vm : Value) (us um : List Value) (R alt : List (List UInt8)) (k : Nat) : Prop where
  ci : CI w0 w wb p S bl vr vm us um R alt false false k
  log : LogAt w p bl bm V S.data.length cnt
  on : OnS S V cnt R k
  wbl : w0.heap.size ≤ bl
  nbl : bl ≠ wb
  nbm : bm ≠ wb
  rf2 : ∀ j, recsFoot vr us j → j ≠ bl
  mf2 : ∀ j, recsFoot vm um j → j ≠ bl

theorem OnS.plan {S : DS} {V : LogV} {cnt : Nat → Nat} {R : List (List UInt8)} {k : Nat} (h : OnS S V cnt R k) (n : Int) (hok : (S.plan n).2.Ok) : OnS (S.plan n).2 V cnt R k := by
  have e : (S.plan n).2 = { S with pl := decide (0 ≤ n), left := if 0 ≤ n then n else 0 } := by unfold DS.plan; rw [if_neg (by rw [h.off]; simp)]
  rw [e] at hok ⊢
  exact ⟨⟨hok, h.d.n6, h.d.w0, h.d.w1⟩, h.off, h.pend, h.live, h.bd, h.free⟩

/-- What a crash leaves: one of the two logs, open again. -/
def Crashed (w0 w' : World) (wb : Nat) (p : DP) (S : DS) (k : Nat) (R alt : List (List UInt8)) (met : Bool) : Prop :=
  ∃ p' S' bl bm V cnt vr vm us um Q alt', WI w0 w' wb p' S' bl bm V cnt vr vm us um Q alt' (k + 1) ∧ p'.d = p.d ∧ S'.data.length = S.data.length ∧ S.wr ≤ S'.wr ∧ S'.wr ≤ S.wr + 1 ∧ S'.pl = false ∧ (Q = R ∨ met = true ∧ Q = alt)

/-- The disk behind Crash, whichever of its two calls it was. -/
structure Crd (S S1 : DS) : Prop where
  mix : Mix S.vis S.pend S1.vis
  off : S1.off = false
  pend : S1.pend = []
  pl : S1.pl = false
  len : S1.data.length = S.data.length
  wr : S1.wr = S.wr

theorem crd_of {S : DS} (h : S.Ok) (l : List Int) (hz : (S.crash l).1 = 0) : Crd S (S.crash l).2 := by
  obtain ⟨a, b, c, d, e, f⟩ := crash_out h l hz
  exact ⟨a, b, c, d, e, f⟩

set_option maxRecDepth 20000 in
set_option maxHeartbeats 4000000 in
theorem crash_calm (w0 w : World) (wb : Nat) (p : DP) (S : DS) (bl0 : Nat) (vr vm : Value) (us um : List Value) (R alt : List (List UInt8)) (met over : Bool) (k : Nat) (h : CI w0 w wb p S bl0 vr vm us um R alt met over k) (hk : k ≤ 8388608)
    (vk : Value) (l : List Int) (hkp : IntsAt w0 vk l) (n : Int) (hn : n < 0) (hn2 : -9223372036854775808 ≤ n) :
    Calls Try.prog 57 #[.pointer (some ⟨wb, 0, none⟩), vk, .int .i64 n] w fun e w' => e = .returned (.bool true) ∧ Crashed w0 w' wb p S k R alt met := by
  have H := Lib.hid h
  have HK := Lib.hid hkp
  have hrow := h.row
  have hlt := live_lt h.liv
  obtain ⟨ar, nr, cr, rfl⟩ : ∃ a n c, vr = .slice a n c := by obtain ⟨a, c, e⟩ := h.rl.list.shape; exact ⟨a, _, c, e⟩
  obtain ⟨am, nm, cm, rfl⟩ : ∃ a n c, vm = .slice a n c := by obtain ⟨a, c, e⟩ := h.ml.list.shape; exact ⟨a, _, c, e⟩
  obtain ⟨sz, hsz⟩ : ∃ sz, S.oSize = sz := ⟨_, rfl⟩
  have HSZ := Lib.hid hsz
  rw [hsz] at hrow
  obtain ⟨E, hE⟩ : ∃ E, (S.crash l).1 = E := ⟨_, rfl⟩
  have HE := Lib.hid hE
  have PM := Lib.hid (show ∀ j, p.foot j → j < w.heap.size from fun j hj => H.out.st.lt hj)
  have HN := Lib.hid hn
  obtain ⟨ak, nk, ck, rfl⟩ : ∃ a n c, vk = .slice a n c := by obtain ⟨a, c, e, _⟩ := hkp; exact ⟨a, _, c, e⟩
  clear h hkp hsz hE
  go_enter Try.func57, Try.ntmps57
  go_wp2_with fail
  refine (crash_st w0 w p S H.out.st _ l HK.out).mono ?_
  rintro e w1 ⟨p1, hp1, rfl, s1, m1⟩
  rw [HE.out]
  have M1 := Lib.hid m1
  have r1 := (m1.fr.row hlt H.out.nwb).trans hrow
  have hlt1 := Nat.lt_of_lt_of_le hlt m1.fr.size
  have P1 := Lib.hid hp1
  have nw1 : ¬ p1.foot wb := fun e => (M1.out.new wb e).elim H.out.nwb (fun h => by omega)
  by_cases hz : E = 0
  case' pos =>
    subst hz
    have ST1 := Lib.hid s1
    have CR1 := Lib.hid (crd_of H.out.st.rep.ok l HE.out)
    obtain ⟨S1, hS1⟩ : ∃ S1, (S.crash l).2 = S1 := ⟨_, rfl⟩
    rw [hS1] at ST1 CR1
    clear s1 m1 hS1 hp1
    go_wp2_with fail
  case' neg =>
    have hz2 : (E != 0) = true := by simpa using hz
    rw [crash_bad l (by rw [HE.out]; exact hz)] at s1
    have S1' := Lib.hid s1
    clear s1 m1 hp1 hz
    go_wp2_with fail
    have CN := Lib.hid (show Calls Try.prog 23 #[.pointer (some ⟨p.d, 0, none⟩), .slice none 0 0] w1 fun e w' => ∃ p', p'.d = p1.d ∧ e = .returned (.int .i64 (S.crash []).1) ∧ St w0 w' p' (S.crash []).2 ∧ Moves p1.foot p'.foot w1 w' by
      rw [← P1.out]; exact crash_st w0 w1 p1 S S1'.out _ [] ⟨none, 0, rfl, by simp, .inl rfl⟩)
    refine CN.out.mono ?_
    rintro e w1 ⟨p1, hp1', rfl, s1', m1'⟩
    replace r1 := (m1'.fr.row hlt1 nw1).trans r1
    replace hlt1 := Nat.lt_of_lt_of_le hlt1 m1'.fr.size
    replace M1 := Lib.hid (M1.out.trans m1')
    replace P1 := Lib.hid (hp1'.trans P1.out)
    replace nw1 : ¬ p1.foot wb := fun e => (M1.out.new wb e).elim H.out.nwb (fun h => by omega)
    have ST1 := Lib.hid s1'
    have CR1 := Lib.hid (crd_of H.out.st.rep.ok [] (crash_nil_zero S))
    obtain ⟨S1, hS1⟩ : ∃ S1, (S.crash []).2 = S1 := ⟨_, rfl⟩
    rw [hS1] at ST1 CR1
    clear s1' m1' hS1 hp1' S1' CN
    go_wp2_with fail
  all_goals
    have PL := Lib.hid (show Calls Try.prog 32 #[.pointer (some ⟨p.d, 0, none⟩), .int .i64 n] w1 fun e w' => e = .returned (.int .i64 (S1.plan n).1) ∧ DiskRep w' p1 (S1.plan n).2 ∧ Fr (· = p1.d) w1 w' by
      rw [← P1.out]; exact plan_rep w1 p1 S1 ST1.out.rep n (by omega))
    refine PL.out.mono ?_
    rintro e w2 ⟨rfl, rep2, f2⟩
    have E2 : (S1.plan n).2 = { S1 with pl := false, left := 0 } := by
      unfold DS.plan
      rw [if_neg (by rw [CR1.out.off]; simp), if_neg (by have := HN.out; omega), decide_eq_false (by have := HN.out; omega)]
    rw [E2] at rep2
    obtain ⟨S2, hS2⟩ : ∃ S2 : DS, ({ S1 with pl := false, left := 0 } : DS) = S2 := ⟨_, rfl⟩
    have CR2 := Lib.hid (show Crd S S2 by rw [← hS2]; exact ⟨CR1.out.mix, CR1.out.off, CR1.out.pend, rfl, CR1.out.len, CR1.out.wr⟩)
    rw [hS2] at rep2
    have ST2 := Lib.hid (show St w0 w2 p1 S2 from ⟨ST1.out.fr.trans f2 (fun i hi e => by have := ST1.out.foot i (.inl e); omega), rep2, ST1.out.foot⟩)
    have hf2 : ¬ wb = p1.d := fun e => nw1 (.inl e)
    have r2 := (f2.row hlt1 hf2).trans r1
    have hlt2 := Nat.lt_of_lt_of_le hlt1 f2.size
    have M2 := Lib.hid (show Moves p.foot p1.foot w w2 from M1.out.trans ⟨f2.mono (fun i _ e => .inl e), fun j hj => .inl hj⟩)
    have L2 := Lib.hid (show live w2 wb = true from (f2.liv hlt1 hf2).trans ((M1.out.fr.liv hlt H.out.nwb).trans H.out.liv))
    have OZ := Lib.hid (oSize_same CR2.out.len)
    obtain ⟨s, hd, u, Q, hbd, hQ, lies⟩ := H.out.dead.lies _ CR2.out.mix
    rw [← OZ.out] at lies
    have LI := Lib.hid lies
    have HBD := Lib.hid hbd
    have HQ := Lib.hid hQ
    have DB := Lib.hid (show DiskB S2 k from ⟨rep2.ok, by rw [CR2.out.len]; exact H.out.dead.d.n6, by rw [CR2.out.wr]; exact H.out.dead.d.w0, by rw [CR2.out.wr]; exact H.out.dead.d.w1⟩)
    clear E2 hS2 rep2 f2 lies hbd hQ r1 PL
    go_wp2_with fail
    have OP := Lib.hid (show Calls Try.prog 47 #[.pointer (some ⟨p.d, 0, none⟩)] w2 fun e w' => OpenPost w0 w2 p1 S2 (headPick S2.reads 2) e w' by
      rw [← P1.out]; exact open_any w0 w2 p1 S2 ST2.out DB.out.n6 CR2.out.off (by rw [CR2.out.pend]; simp))
    refine OP.out.mono ?_
    rintro e w3 hpost
    rw [show headPick S2.reads 2 = some (s, hd) by rw [reads_vis CR2.out.off CR2.out.pend]; exact LI.out.pick] at hpost
    obtain ⟨p3, hp3, st3, mv3, hres⟩ := hpost
    obtain ⟨-, a1, a2, a3, ⟨b1, b2, b3, b4⟩ | ⟨-, b2, -⟩⟩ := open_state DB.out hk CR2.out.off CR2.out.pend HBD.out LI.out st3.rep.ok
    rotate_left
    · rw [CR2.out.pl] at b2; cases b2
    rw [if_pos b1] at hres
    obtain ⟨bl, vrec, us3, bm, rfl, rs3, rff, lg3, hbl, hbm⟩ := hres
    rw [b3] at rs3
    replace b4 := b4 CR2.out.pl
    have ST3 := Lib.hid st3
    have RS3 := Lib.hid rs3.refl'
    have RFF := Lib.hid rff
    have LG3 := Lib.hid lg3
    have ON3 := Lib.hid b2
    have P3 := Lib.hid (hp3.trans P1.out)
    have M3 := Lib.hid (M2.out.trans mv3)
    have r3 := (mv3.fr.row hlt2 nw1).trans r2
    have L3 := Lib.hid ((mv3.fr.liv hlt2 nw1).trans L2.out)
    have NW3 := Lib.hid (show ¬ p3.foot wb from fun e => (mv3.new wb e).elim nw1 (fun h => by omega))
    have hlt3 := Nat.lt_of_lt_of_le hlt2 mv3.fr.size
    have QL := Lib.hid (show Q.length ≤ 16384 by
      have h1 := b2.live.lies.ar.sum
      have h2 := sumN_ge Q
      have h3 := areaL_len b2.live.lies.arfit
      have h4 := b2.live.lies.n
      rw [vis_len] at h4
      have := b2.d.ok.n1
      omega)
    have BB := Lib.hid (show wb ≠ bl ∧ wb ≠ bm ∧ w.heap.size ≤ bl ∧ w.heap.size ≤ bm from ⟨by omega, by omega, by have := M2.out.fr.size; omega, by have := M2.out.fr.size; omega⟩)
    obtain ⟨S3, hS3⟩ : ∃ S3, (S2.oDone s hd).2 = S3 := ⟨_, rfl⟩
    obtain ⟨V3, hV3⟩ : ∃ V3, (⟨S2.oHead hd, s, S2.oSize, (S2.oRead hd).2, (S2.oRead hd).1.length, false⟩ : LogV) = V3 := ⟨_, rfl⟩
    have FA := Lib.hid (And.intro a1 (And.intro a2 (And.intro a3 b4)))
    rw [hS3] at ST3 ON3 FA
    rw [hV3] at ON3 LG3
    clear hp3 st3 mv3 rs3 rff lg3 a1 a2 a3 b1 b2 b3 b4 hbl hbm OP hS3 hV3 r2
    go_wp2_with fail
    have OF := Lib.hid (show Calls Try.prog 24 #[.pointer (some ⟨p.d, 0, none⟩)] w3 fun e w' => e = .returned (.bool false) ∧ w3 = w' by
      rw [← P3.out, ← ON3.out.off]; exact off_rep w3 p3 S3 ST3.out.rep)
    refine OF.out.mono ?_
    rintro e w' ⟨rfl, rfl⟩
    go_wp2_with fail
    have PL4 := Lib.hid (show Calls Try.prog 32 #[.pointer (some ⟨p.d, 0, none⟩), .int .i64 (-1)] w3 fun e w' => e = .returned (.int .i64 (S3.plan (-1)).1) ∧ DiskRep w' p3 (S3.plan (-1)).2 ∧ Fr (· = p3.d) w3 w' by
      rw [← P3.out]; exact plan_rep w3 p3 S3 ST3.out.rep (-1) (by omega))
    refine PL4.out.mono ?_
    rintro e w4 ⟨rfl, rep4, f4⟩
    have E4 : (S3.plan (-1)).2 = { S3 with pl := false, left := 0 } := by
      unfold DS.plan
      rw [if_neg (by rw [ON3.out.off]; simp)]
      rfl
    have ON4 := Lib.hid (ON3.out.plan (-1) rep4.ok)
    have FA4 := Lib.hid (show (S3.plan (-1)).2.data.length = S3.data.length ∧ (S3.plan (-1)).2.wr = S3.wr ∧ (S3.plan (-1)).2.pl = false by rw [E4]; exact ⟨rfl, rfl, rfl⟩)
    obtain ⟨S4, hS4⟩ : ∃ S4, (S3.plan (-1)).2 = S4 := ⟨_, rfl⟩
    rw [hS4] at rep4 ON4 FA4
    have ST4 := Lib.hid (show St w0 w4 p3 S4 from ⟨ST3.out.fr.trans f4 (fun i hi e => by have := ST3.out.foot i (.inl e); omega), rep4, ST3.out.foot⟩)
    have F4 := Lib.hid f4
    have hf4 : ¬ wb = p3.d := fun e => NW3.out (.inl e)
    have r4 := (f4.row hlt3 hf4).trans r3
    have L4 := Lib.hid ((f4.liv hlt3 hf4).trans L3.out)
    have hlt4 := Nat.lt_of_lt_of_le hlt3 f4.size
    have NF := Lib.hid (show ∀ j, j < w.heap.size → ¬ p.foot j → ¬ p3.foot j from fun j hj hn e => (M3.out.new j e).elim hn (fun h => by omega))
    have RR4 := Lib.hid ((H.out.rl.keep M3.out.fr (fun j hj => (H.out.rf j hj).1)).keep f4 (fun j hj e => NF.out j (H.out.rl.lt hj) (H.out.rf j hj).1 (.inl e)))
    have MM4 := Lib.hid ((H.out.ml.keep M3.out.fr (fun j hj => (H.out.mf j hj).1)).keep f4 (fun j hj e => NF.out j (H.out.ml.lt hj) (H.out.mf j hj).1 (.inl e)))
    have QQ4 := Lib.hid (RS3.out.keep f4 (fun j hj e => (RFF.out j hj).1 (.inl e)))
    have LG4 := Lib.hid (LG3.out.keep (p' := p3) f4 rfl (fun e => LG3.out.nb (.inl e)) (fun e => LG3.out.nm (.inl e)) (fun k hk => .inl hk))
    clear E4 hS4 rep4 f4 r3 PL4 OF
    go_wp2_with fail
    have RL := Lib.hid (show R.length ≤ 16384 ∨ 16384 < R.length by omega)
    obtain ⟨av, nv, cv, rfl⟩ : ∃ a n c, vrec = .slice a n c := by obtain ⟨a, c, e⟩ := QQ4.out.list.shape; exact ⟨a, _, c, e⟩
    refine (same_any w4 _ _ Q R QQ4.out.list RR4.out.list (by have := QL.out; omega)).mono ?_
    rintro e w5 ⟨rfl, f5⟩
    have r5 := (f5.row hlt4 (fun h => h)).trans r4
    have F5 := Lib.hid f5
    have l5 := (f5.liv hlt4 (fun h => h)).trans L4.out
    have hlt5 := Nat.lt_of_lt_of_le hlt4 f5.size
    clear f5 r4 RL
    have FIN := Lib.hid (show ∀ (W : World) vr' us', Fr (fun j => j = wb) w5 W → rowOf W wb = #[.pointer (some ⟨p.d, 0, none⟩), .pointer (some ⟨bl, 0, none⟩), .int .i64 sz, vr', .slice am nm cm, .bool false, .bool false] → live W wb = true → RefL w4 vr' us' Q → (∀ j, recsFoot vr' us' j → j < w.heap.size ∧ ¬ p.foot j ∧ j ≠ wb) → (∀ b ∈ Q, b.length ≤ 65536) → Crashed w0 W wb p S k R alt met from fun W vr' us' fW hr hl hrl hrf hqb => by
      have fA := (F5.out.mono (fun _ _ h => h.elim)).trans fW (fun _ _ h => h)
      have hw4 := F4.out.size
      have hw3 := M3.out.fr.size
      refine ⟨p3, S4, bl, bm, V3, _, vr', .slice am nm cm, us', um, Q, alt, ⟨⟨ST4.out.calm fA (fun j e => ⟨by have := H.out.wwb; omega, fun hj => NW3.out (e ▸ hj)⟩), ?_, hl, NW3.out, H.out.wwb, hrl.keep fA (fun j hj e => (hrf j hj).2.2 e), MM4.out.keep fA (fun j hj e => (H.out.mf j hj).2 e), fun j hj => ⟨NF.out j (hrf j hj).1 (hrf j hj).2.1, (hrf j hj).2.2⟩, fun j hj => ⟨NF.out j (H.out.ml.lt hj) (H.out.mf j hj).1, (H.out.mf j hj).2⟩, ON4.out.dead _ _, hqb, H.out.hA, by have := ON4.out.used; omega⟩, ?_, ON4.out, ?_, fun e => BB.out.1 e.symm, fun e => BB.out.2.1 e.symm, fun j hj e => ?_, fun j hj e => ?_⟩, P3.out, ?_, ?_, ?_, FA4.out.2.2, HQ.out⟩
      · rw [hr, P3.out, oSize_same (T := S4) (S := S) (by rw [FA4.out.1, FA.out.1, CR2.out.len]), HSZ.out]
      · have := LG4.out.keep (p' := p3) fA rfl (fun e => BB.out.1 e.symm) (fun e => BB.out.2.1 e.symm) (fun k hk => .inl hk)
        rwa [FA4.out.1, FA.out.1]
      · have := BB.out.2.2.1; have := H.out.st.fr.size; omega
      · have := (hrf j hj).1; have := BB.out.2.2.1; omega
      · have := H.out.ml.lt hj; have := BB.out.2.2.1; omega
      · rw [FA4.out.1, FA.out.1, CR2.out.len]
      · have := FA.out.2.1; rw [FA4.out.2.1]; have := CR2.out.wr; omega
      · have := FA.out.2.2.1; rw [FA4.out.2.1]; have := CR2.out.wr; omega)
    by_cases hQR : Q = R
    · have QR := Lib.hid hQR
      rw [decide_eq_true hQR]
      clear hQR
      go_wp2
      go_ret
      refine ⟨rfl, FIN.out _ (.slice ar nr cr) us ((Fr.refl _ w5).setRow _ _ (fun _ => rfl)) (rowOf_setRow_same _ _ _ l5) (by rw [live_setRow]; exact l5) (by rw [QR.out]; exact RR4.out) (fun j hj => ⟨H.out.rl.lt hj, H.out.rf j hj⟩) (by rw [QR.out]; exact H.out.hR)⟩
    · obtain ⟨hmet, hal⟩ := HQ.out.resolve_left hQR
      have QA := Lib.hid hal
      rw [decide_eq_false hQR]
      subst hmet
      clear hQR hal
      go_wp2_with fail
      refine (same_any w5 _ _ Q alt (QQ4.out.list.keep0 F5.out) (MM4.out.list.keep0 F5.out) (by have := QL.out; omega)).mono ?_
      rintro e w6 ⟨rfl, f6⟩
      rw [decide_eq_true QA.out]
      have r6 := (f6.row hlt5 (fun h => h)).trans r5
      have l6 := (f6.liv hlt5 (fun h => h)).trans l5
      have F6 := Lib.hid f6
      clear f6
      go_wp2
      go_ret
      refine ⟨rfl, FIN.out _ (.slice am nm cm) um ((F6.out.mono (fun _ _ h => h.elim)).setRow _ _ (fun _ => rfl)) (rowOf_setRow_same _ _ _ l6) (by rw [live_setRow]; exact l6) (by rw [QA.out]; exact MM4.out) (fun j hj => ⟨H.out.ml.lt hj, H.out.mf j hj⟩) (by rw [QA.out]; exact H.out.hA)⟩

/-! ### The laws' world of package log: Append and Checkpoint, the document's and the log's, whatever the record. -/
theorem ok_goes {S : DS} (h : S.Ok) : S.goes.Ok := by
  refine ⟨h.n0, h.n1, h.tl, h.dl, h.pe, ?_, ?_⟩
  · have := h.l0
    simp only [DS.goes, goesLeft]
    split
    · rename_i hh; simp at hh; omega
    · exact this
  · have := h.l1
    simp only [DS.goes, goesLeft]
    split <;> omega
theorem ok_write {S : DS} (h : S.Ok) {n : Int} {b : List UInt8} (hb : b.length = 64) : (S.write n b).2.Ok := by
  unfold DS.write
  split
  · exact h
  · rename_i hr
    split
    · exact h
    · split
      · exact ok_goes h
      · have g := ok_goes h
        have hr0 : readyI S.off n S.data.length = 0 := by simpa [DS.ready] using hr
        have hr1 := readyI_zero.1 hr0
        refine ⟨g.n0, g.n1, g.tl, g.dl, fun x hx => ?_, g.l0, g.l1⟩
        simp only [List.mem_append, List.mem_singleton] at hx
        rcases hx with hx | rfl
        · exact h.pe x hx
        · exact ⟨by show n.toNat < S.data.length; omega, hb⟩
theorem ok_lay {S : DS} (h : S.Ok) {x : Nat × List UInt8} (hb : x.2.length = 64) : (S.lay x).Ok := by
  refine ⟨by simpa [DS.lay] using h.n0, by simpa [DS.lay] using h.n1, by simpa [DS.lay] using h.tl, fun y hy => ?_, fun y hy => by simpa [DS.lay] using h.pe y hy, h.l0, h.l1⟩
  rcases List.mem_or_eq_of_mem_set hy with hy | rfl
  · exact h.dl y hy
  · exact hb
theorem ok_layAll (l : List (Nat × List UInt8)) : ∀ {S : DS}, S.Ok → (∀ x ∈ l, x.2.length = 64) → (S.layAll l).Ok := by
  induction l with
  | nil => intro S h _; exact h
  | cons x l ih => intro S h hl; exact ih (ok_lay h (hl x (by simp))) (fun y hy => hl y (List.mem_cons_of_mem _ hy))
theorem ok_sync {S : DS} (h : S.Ok) : S.sync.2.Ok := by
  unfold DS.sync
  split
  · exact h
  · split
    · exact ok_goes h
    · have g := ok_layAll S.pend (ok_goes h) (fun x hx => (h.pe x hx).2)
      exact ⟨g.n0, g.n1, g.tl, g.dl, fun x hx => by simp at hx, g.l0, g.l1⟩
theorem writeSeq_ok (bs : List (List UInt8)) : ∀ (S : DS) (fr : Int), S.Ok → (∀ b ∈ bs, b.length = 64) → (S.writeSeq fr bs).2.Ok := by
  induction bs with
  | nil => intro S fr h _; exact ok_sync h
  | cons b bs ih =>
    intro S fr h hb
    have h1 := ok_write (n := fr) h (hb b (by simp))
    unfold DS.writeSeq
    split
    · exact h1
    · exact ih _ _ h1 (fun x hx => hb x (List.mem_cons_of_mem _ hx))

/-- What the document's Appended, Checked tell. -/
def wantE (room q : Nat) : Int := if 65536 < q then 3 else if room < recN q then 4 else 0
theorem wantE_zero {room q : Nat} (h : wantE room q = 0) : q ≤ 65536 ∧ recN q ≤ room := by
  unfold wantE at h
  by_cases h1 : 65536 < q
  · rw [if_pos h1] at h; simp at h
  · rw [if_neg h1] at h
    by_cases h2 : room < recN q
    · rw [if_pos h2] at h; simp at h
    · omega

/-- The list that Appended, Checked answer, and where it lies. -/
structure NextAt (w w' : World) (vr : Value) (us : List Value) (vd vn : Value) (un : List Value) (N : List (List UInt8)) : Prop where
  rl : RefL w' vn un N
  foot : ∀ j, recsFoot vn un j → recsFoot vr us j ∨ vd.ownBlock = some j ∨ w.heap.size ≤ j

theorem foot_snoc {v v' vd : Value} {us : List Value} {B : Nat} (h : ∀ k, v'.ownBlock = some k → B ≤ k) {j : Nat} (hj : recsFoot v' (us ++ [vd]) j) : recsFoot v us j ∨ vd.ownBlock = some j ∨ B ≤ j := by
  rcases hj with hj | ⟨u, hu, hj⟩
  · exact .inr (.inr (h j hj))
  · rcases List.mem_append.1 hu with hu | hu
    · exact .inl (.inr ⟨u, hu, hj⟩)
    · simp at hu; subst hu; exact .inr (.inl hj)

theorem appended_all (w : World) (A : Nat) (vr : Value) (us : List Value) (R : List (List UInt8)) (vd : Value) (b : List UInt8) (hv : RefL w vr us R) (hb : OwnB w vd b 0) (hA2 : A ≤ 16384) (hs : sumN R ≤ A) (hR : ∀ b ∈ R, b.length ≤ 65536) (hq : b.length ≤ 140737488355328) :
    Calls Try.prog 90 #[.agg #[.int .i64 A, vr], vd] w fun e w' => ∃ vn un N, e = .returned (.tuple #[.agg #[.int .i64 A, vn], .int .i64 (wantE (A - sumN R) b.length)]) ∧ NextAt w w' vr us vd vn un N ∧ Fr (fun _ => False) w w' ∧ N = (if wantE (A - sumN R) b.length = 0 then R ++ [b] else R) := by
  obtain ⟨ar, cr, rfl⟩ := hv.list.shape
  obtain ⟨ab, cb, rfl⟩ := hb.shape
  by_cases h1 : 65536 < b.length
  · have e : wantE (A - sumN R) b.length = 3 := by unfold wantE; rw [if_pos h1]
    rw [e]
    refine (appended_long w A ar _ cr ab _ cb h1 hq).mono ?_
    rintro e w' ⟨rfl, f⟩
    exact ⟨_, us, R, rfl, ⟨hv.keep f (fun _ _ h => h), fun j hj => .inl hj⟩, f, by simp⟩
  · by_cases h2 : A - sumN R < recN b.length
    · have e : wantE (A - sumN R) b.length = 4 := by unfold wantE; rw [if_neg h1, if_pos h2]
      rw [e]
      refine (appended_full w A ar _ cr ab _ cb R hv.list hA2 hs hR (by omega) h2).mono ?_
      rintro e w' ⟨rfl, f⟩
      exact ⟨_, us, R, rfl, ⟨hv.keep f (fun _ _ h => h), fun j hj => .inl hj⟩, f, by simp⟩
    · have e : wantE (A - sumN R) b.length = 0 := by unfold wantE; rw [if_neg h1, if_neg h2]
      rw [e]
      refine (appended_ok w A ar _ cr ab _ cb R us b hv hb rfl hA2 hs hR (by omega) (by omega)).mono ?_
      rintro e w' ⟨v', rfl, r, f, hn⟩
      exact ⟨v', _, _, rfl, ⟨r, fun j hj => foot_snoc hn hj⟩, f, by simp⟩

theorem checked_all (w : World) (A : Nat) (vr : Value) (us : List Value) (R : List (List UInt8)) (vd : Value) (b : List UInt8) (hv : RefL w vr us R) (hb : OwnB w vd b 0) (hq : b.length ≤ 140737488355328) :
    Calls Try.prog 91 #[.agg #[.int .i64 A, vr], vd] w fun e w' => ∃ vn un N, e = .returned (.tuple #[.agg #[.int .i64 A, vn], .int .i64 (wantE A b.length)]) ∧ NextAt w w' vr us vd vn un N ∧ Fr (fun _ => False) w w' ∧ N = (if wantE A b.length = 0 then [b] else R) := by
  obtain ⟨ar, cr, rfl⟩ := hv.list.shape
  obtain ⟨ab, cb, rfl⟩ := hb.shape
  by_cases h1 : 65536 < b.length
  · have e : wantE A b.length = 3 := by unfold wantE; rw [if_pos h1]
    rw [e]
    refine (checked_long w A ar _ cr ab _ cb h1 hq).mono ?_
    rintro e w' ⟨rfl, f⟩
    exact ⟨_, us, R, rfl, ⟨hv.keep f (fun _ _ h => h), fun j hj => .inl hj⟩, f, by simp⟩
  · by_cases h2 : A < recN b.length
    · have e : wantE A b.length = 4 := by unfold wantE; rw [if_neg h1, if_pos h2]
      rw [e]
      refine (checked_full w A ar _ cr ab _ cb (by omega) h2).mono ?_
      rintro e w' ⟨rfl, f⟩
      exact ⟨_, us, R, rfl, ⟨hv.keep f (fun _ _ h => h), fun j hj => .inl hj⟩, f, by simp⟩
    · have e : wantE A b.length = 0 := by unfold wantE; rw [if_neg h1, if_neg h2]
      rw [e]
      refine (checked_ok w A ar _ cr ab _ cb b hb rfl (by omega) (by omega)).mono ?_
      rintro e w' ⟨v', rfl, r, f, hn⟩
      exact ⟨v', _, _, rfl, ⟨r, fun j hj => (foot_snoc (us := []) (v := .slice none 0 0) hn hj).imp (fun h => h.elim (fun h => by cases h) (fun ⟨_, h, _⟩ => by cases h)) id⟩, f, by simp⟩

/-- What becomes of a log that a record is handed to. -/
def Outcome (S : DS) (V : LogV) (cnt : Nat → Nat) (R N : List (List UInt8)) (k q : Nat) (want got : Int) (S' : DS) (V' : LogV) : Prop :=
  S'.data.length = S.data.length ∧ S.wr ≤ S'.wr ∧ S'.wr ≤ S.wr + q ∧
    ((want ≠ 0 ∧ got = want ∧ S' = S ∧ V' = V) ∨ (want = 0 ∧ got = 0 ∧ OnS S' V' cnt N (k + 1) ∧ (S.pl = false → S'.pl = false)) ∨
      (want = 0 ∧ got = 22 ∧ S.pl = true ∧ S'.off = true ∧ V'.over = true ∧ DeadS S' R N true (k + 1)))

/-- What a call on the log leaves. -/
structure LogOut (w0 w w' : World) (p p' : DP) (S' : DS) (bl bm : Nat) (V' : LogV) (n : Nat) (cnt : Nat → Nat) : Prop where
  d : p'.d = p.d
  st : St w0 w' p' S'
  log : LogAt w' p' bl bm V' n cnt
  mv : Moves (fun k => p.foot k ∨ k = bl) (fun k => p'.foot k ∨ k = bl) w w'

theorem log_append (w0 w : World) (p : DP) (S : DS) (h : St w0 w p S) (bl bm : Nat) (V : LogV) (cnt : Nat → Nat) (R : List (List UInt8)) (k : Nat) (L : LogAt w p bl bm V S.data.length cnt) (O : OnS S V cnt R k) (hk : k ≤ 8388608) (hbl : w0.heap.size ≤ bl)
    (a : Option Addr) (c : Nat) (b : List UInt8) (hb : BytesAt w (.slice a b.length c) b) (hcap : b.length ≤ c) :
    Calls Try.prog 49 #[.pointer (some ⟨bl, 0, none⟩), .slice a b.length c] w fun e w' => ∃ p' S' V' got, e = .returned (.int .i64 got) ∧ LogOut w0 w w' p p' S' bl bm V' S.data.length cnt ∧
      Outcome S V cnt R (R ++ [b]) k (recN b.length + 1) (wantE (S.oSize - sumN R) b.length) got S' V' := by
  have hu := O.used
  have hv := O.vok
  have ho := O.live.vo
  by_cases h1 : 65536 < b.length
  · have e : wantE (S.oSize - sumN R) b.length = 3 := by unfold wantE; rw [if_pos h1]
    have e2 : lookE V.over b.length = 3 := by unfold lookE; rw [ho]; simp [h1]
    rw [e]
    refine (append_bad w p bl bm V _ cnt L a _ c (by rw [e2]; simp)).mono ?_
    rintro e w' ⟨rfl, rfl⟩
    rw [e2]
    exact ⟨p, S, V, 3, rfl, ⟨rfl, h, L, Moves.refl _ _⟩, rfl, Int.le_refl _, by omega, .inl ⟨by simp, rfl, rfl, rfl⟩⟩
  · have e2 : lookE V.over b.length = 0 := by unfold lookE; rw [ho]; simp [h1]
    by_cases h2 : S.oSize - sumN R < recN b.length
    · have e : wantE (S.oSize - sumN R) b.length = 4 := by unfold wantE; rw [if_neg h1, if_pos h2]
      rw [e]
      refine (append_full w p bl bm V _ cnt L hv a _ c e2 (by rw [hu.2.2, hu.1]; exact h2)).mono ?_
      rintro e w' ⟨rfl, f⟩
      exact ⟨p, S, V, 4, rfl, ⟨rfl, h.calm f (fun _ h => h.elim), L.keep f rfl (fun h => h) (fun h => h) (fun _ h => .inl h), ⟨f.mono (fun _ _ h => h.elim), fun _ h => .inl h⟩⟩, rfl, Int.le_refl _, by omega, .inl ⟨by simp, rfl, rfl, rfl⟩⟩
    · have e : wantE (S.oSize - sumN R) b.length = 0 := by unfold wantE; rw [if_neg h1, if_neg h2]
      rw [e]
      have hf : recN b.length ≤ V.size - V.used := by rw [hu.2.2, hu.1]; omega
      refine (append_fits w0 w p S h bl bm V _ cnt L hv hbl a c b hb hcap e2 hf (by rw [O.pend]; simp)).mono ?_
      rintro e w' ⟨p', hp, rfl, st, lg, mv⟩
      obtain ⟨q, S', hqs⟩ : ∃ q S', appendS S V b = (q, S') := ⟨_, _, rfl⟩
      rw [hqs] at st lg ⊢
      obtain ⟨a1, a2, a3, ⟨rfl, a5, a6⟩ | ⟨rfl, a5, a6, a7⟩⟩ := append_state O hk (by omega) hf hqs st.rep.ok
      · exact ⟨p', S', _, 0, rfl, ⟨hp, st, lg, mv⟩, a1, a2, by omega, .inr (.inl ⟨rfl, rfl, a5, a6⟩)⟩
      · exact ⟨p', S', _, 22, rfl, ⟨hp, st, lg, mv⟩, a1, a2, by omega, .inr (.inr ⟨rfl, rfl, a5, a6, by simp [LogV.appended], a7⟩)⟩

theorem log_check (w0 w : World) (p : DP) (S : DS) (h : St w0 w p S) (bl bm : Nat) (V : LogV) (cnt : Nat → Nat) (R : List (List UInt8)) (k : Nat) (L : LogAt w p bl bm V S.data.length cnt) (O : OnS S V cnt R k) (hk : k ≤ 8388608) (hbl : w0.heap.size ≤ bl)
    (a : Option Addr) (c : Nat) (b : List UInt8) (hb : BytesAt w (.slice a b.length c) b) (hcap : b.length ≤ c) :
    Calls Try.prog 52 #[.pointer (some ⟨bl, 0, none⟩), .slice a b.length c] w fun e w' => ∃ p' S' V' got, e = .returned (.int .i64 got) ∧ LogOut w0 w w' p p' S' bl bm V' S.data.length cnt ∧
      Outcome S V cnt R [b] k (recN b.length + 1) (wantE S.oSize b.length) got S' V' := by
  have hu := O.used
  have hv := O.vok
  have ho := O.live.vo
  by_cases h1 : 65536 < b.length
  · have e : wantE S.oSize b.length = 3 := by unfold wantE; rw [if_pos h1]
    have e2 : lookE V.over b.length = 3 := by unfold lookE; rw [ho]; simp [h1]
    rw [e]
    refine (check_bad w p bl bm V _ cnt L a _ c (by rw [e2]; simp)).mono ?_
    rintro e w' ⟨rfl, rfl⟩
    rw [e2]
    exact ⟨p, S, V, 3, rfl, ⟨rfl, h, L, Moves.refl _ _⟩, rfl, Int.le_refl _, by omega, .inl ⟨by simp, rfl, rfl, rfl⟩⟩
  · have e2 : lookE V.over b.length = 0 := by unfold lookE; rw [ho]; simp [h1]
    by_cases h2 : S.oSize < recN b.length
    · have e : wantE S.oSize b.length = 4 := by unfold wantE; rw [if_neg h1, if_pos h2]
      rw [e]
      refine (check_full w p bl bm V _ cnt L a _ c e2 (by rw [hu.2.2]; exact h2)).mono ?_
      rintro e w' ⟨rfl, f⟩
      exact ⟨p, S, V, 4, rfl, ⟨rfl, h.calm f (fun _ h => h.elim), L.keep f rfl (fun h => h) (fun h => h) (fun _ h => .inl h), ⟨f.mono (fun _ _ h => h.elim), fun _ h => .inl h⟩⟩, rfl, Int.le_refl _, by omega, .inl ⟨by simp, rfl, rfl, rfl⟩⟩
    · have e : wantE S.oSize b.length = 0 := by unfold wantE; rw [if_neg h1, if_neg h2]
      rw [e]
      have hf : recN b.length ≤ V.size := by rw [hu.2.2]; omega
      have hfree : cnt (ckG V S.data.length cnt) = 0 := O.free _
      refine (check_fits w0 w p S h bl bm V _ cnt L hv hbl a c b hb hcap e2 hf (by rw [O.pend]; simp) O.d.ok.n1 hfree).mono ?_
      rintro e w' ⟨p', hp, rfl, st, lg, mv⟩
      obtain ⟨g, hg⟩ : ∃ g, ckG V S.data.length cnt = g := ⟨_, rfl⟩
      rw [hg] at st lg ⊢
      obtain ⟨q1, S1, hq1⟩ : ∃ q S', ckLay S V b g = (q, S') := ⟨_, _, rfl⟩
      obtain ⟨q, S', hqs⟩ : ∃ q S', ckS S V b g = (q, S') := ⟨_, _, rfl⟩
      rw [hqs] at st ⊢
      have hok1 : S1.Ok := by
        have := writeSeq_ok (layB g V.h.life 0 b) S ((2 + (1 - V.h.area) * V.size : Nat) : Int) O.d.ok (fun x hx => layB_64 hx)
        unfold ckLay at hq1
        rw [hq1] at this; exact this
      obtain ⟨a1, a2, a3, ⟨rfl, a5, a6⟩ | ⟨rfl, a5, a6, a7, a8⟩⟩ := check_state O hk (by omega) hf hg hq1 hok1 hqs st.rep.ok
      · exact ⟨p', S', _, 0, rfl, ⟨hp, st, lg, mv⟩, a1, a2, by omega, .inr (.inl ⟨rfl, rfl, a5, a6⟩)⟩
      · exact ⟨p', S', _, 22, rfl, ⟨hp, st, lg, mv⟩, a1, a2, by omega, .inr (.inr ⟨rfl, rfl, a5, a6, a7, a8⟩)⟩

/-! ### The laws' world of package log: write. -/
theorem OnS.mono {S : DS} {V : LogV} {cnt : Nat → Nat} {R : List (List UInt8)} {k k' : Nat} (h : OnS S V cnt R k) (hk : k ≤ k') : OnS S V cnt R k' :=
  ⟨⟨h.d.ok, h.d.n6, h.d.w0, by have := h.d.w1; omega⟩, h.off, h.pend, h.live, h.bd.mono hk, h.free⟩
theorem DeadS.mono {S : DS} {R alt : List (List UInt8)} {met : Bool} {k k' : Nat} (h : DeadS S R alt met k) (hk : k ≤ k') : DeadS S R alt met k' :=
  ⟨⟨h.d.ok, h.d.n6, h.d.w0, by have := h.d.w1; omega⟩, fun all' hm => by
    obtain ⟨s, hd, u, Q, h1, h2, h3⟩ := h.lies all' hm
    exact ⟨s, hd, u, Q, h1.mono hk, h2, h3⟩⟩

/-- The laws' world when the power went within a call. -/
structure WD (w0 w : World) (wb : Nat) (p : DP) (S : DS) (bl bm : Nat) (V : LogV) (cnt : Nat → Nat) (vr vm : Value) (us um : List Value) (R alt : List (List UInt8)) (k : Nat) : Prop where
  ci : CI w0 w wb p S bl vr vm us um R alt true true k
  log : LogAt w p bl bm V S.data.length cnt
  vo : V.over = true
  off : S.off = true
  wbl : w0.heap.size ≤ bl
  nbl : bl ≠ wb
  nbm : bm ≠ wb
  rf2 : ∀ j, recsFoot vr us j → j ≠ bl
  mf2 : ∀ j, recsFoot vm um j → j ≠ bl

/-- What a call on the log is to the laws' world. -/
def Res (over : Bool) (S : DS) (V : LogV) (cnt : Nat → Nat) (R N : List (List UInt8)) (k q : Nat) (want got : Int) (S' : DS) (V' : LogV) : Prop :=
  (over = true ∧ got = 7 ∧ S' = S ∧ V' = V) ∨ (over = false ∧ Outcome S V cnt R N k q want got S' V')

/-- Where a write stands when the log has answered. -/
def WCut (w0 w : World) (wb b6 sz : Nat) (p : DP) (S : DS) (bl bm : Nat) (V : LogV) (cnt : Nat → Nat) (vr vm : Value) (R : List (List UInt8)) (over : Bool) (k q : Nat) (want e : Value) (wx : World) : Prop :=
  ∃ p' S' V' an nn cn un N wi ei, want = .int .i64 wi ∧ e = .int .i64 ei ∧ rowOf wx b6 = #[.int .i64 sz, .slice an nn cn] ∧ live wx b6 = true ∧
    rowOf wx wb = #[.pointer (some ⟨p.d, 0, none⟩), .pointer (some ⟨bl, 0, none⟩), .int .i64 sz, vr, vm, .bool over, .bool over] ∧ live wx wb = true ∧
    RefL wx (.slice an nn cn) un N ∧ (∀ j, recsFoot (.slice an nn cn) un j → ¬ p'.foot j ∧ j ≠ wb ∧ j ≠ bl ∧ j ≠ b6) ∧
    LogOut w0 w wx p p' S' bl bm V' S.data.length cnt ∧ Res over S V cnt R N k q wi ei S' V' ∧ (wi = 0 → sumN N ≤ sz ∧ ∀ b ∈ N, b.length ≤ 65536)

/-- What a write leaves. -/
def Wrote (w0 w' : World) (wb : Nat) (p : DP) (S : DS) (over : Bool) (k q : Nat) : Prop :=
  ∃ p' S' bl bm V cnt vr vm us um R alt, (WI w0 w' wb p' S' bl bm V cnt vr vm us um R alt (k + 1) ∨ ((S.pl = true ∨ over = true) ∧ WD w0 w' wb p' S' bl bm V cnt vr vm us um R alt (k + 1))) ∧
    p'.d = p.d ∧ S'.data.length = S.data.length ∧ S.wr ≤ S'.wr ∧ S'.wr ≤ S.wr + q ∧ (S.pl = false → S'.pl = false)

theorem res_conv {over : Bool} {S : DS} {V : LogV} {cnt : Nat → Nat} {R N1 N2 : List (List UInt8)} {k q : Nat} {want got : Int} {S' : DS} {V' : LogV} (h : Res over S V cnt R N1 k q want got S' V') (e : want = 0 → N2 = N1) : Res over S V cnt R N2 k q want got S' V' := by
  rcases h with h | ⟨h1, a, b, c, h2 | ⟨h2, h3⟩ | ⟨h2, h3⟩⟩
  · exact .inl h
  · exact .inr ⟨h1, a, b, c, .inl h2⟩
  · rw [← e h2] at h3; exact .inr ⟨h1, a, b, c, .inr (.inl ⟨h2, h3⟩)⟩
  · rw [← e h2] at h3; exact .inr ⟨h1, a, b, c, .inr (.inr ⟨h2, h3⟩)⟩

theorem next_app {A : Nat} {R : List (List UInt8)} {b : List UInt8} (hs : sumN R ≤ A) (hR : ∀ b ∈ R, b.length ≤ 65536) (h : wantE (A - sumN R) b.length = 0) : sumN (R ++ [b]) ≤ A ∧ ∀ x ∈ R ++ [b], x.length ≤ 65536 := by
  obtain ⟨h1, h2⟩ := wantE_zero h
  refine ⟨by rw [sumN_snoc]; omega, fun x hx => ?_⟩
  rcases List.mem_append.1 hx with hx | hx
  · exact hR x hx
  · simp at hx; subst hx; exact h1
theorem next_chk {A : Nat} {b : List UInt8} (h : wantE A b.length = 0) : sumN [b] ≤ A ∧ ∀ x ∈ [b], x.length ≤ 65536 := by
  obtain ⟨h1, h2⟩ := wantE_zero h
  refine ⟨by simpa [sumN] using h2, fun x hx => ?_⟩
  simp at hx; subst hx; exact h1

set_option maxRecDepth 20000 in
set_option maxHeartbeats 4000000 in
theorem write_walk (w0 w : World) (wb : Nat) (p : DP) (S : DS) (bl bm : Nat) (V : LogV) (cnt : Nat → Nat) (vr vm : Value) (us um : List Value) (R alt : List (List UInt8)) (over : Bool) (k : Nat)
    (h : CI w0 w wb p S bl vr vm us um R alt over over k) (L : LogAt w p bl bm V S.data.length cnt) (wbl : w0.heap.size ≤ bl) (nbl : bl ≠ wb) (nbm : bm ≠ wb) (rf2 : ∀ j, recsFoot vr us j → j ≠ bl) (mf2 : ∀ j, recsFoot vm um j → j ≠ bl)
    (hvo : over = true → V.over = true ∧ S.off = true) (hof : over = false → S.off = false ∧ OnS S V cnt R k)
    (kind on : Int) (a : Option Addr) (c : Nat) (b : List UInt8) (ak : Option Addr) (nk ck : Nat) (hb : BytesAt w0 (.slice a b.length c) b) (hb2 : b.length ≤ 140737488355328)
    (hA : ∀ W, Fr (fun _ => False) w W → Calls Try.prog 49 #[.pointer (some ⟨bl, 0, none⟩), .slice a b.length c] W fun e w' => ∃ p' S' V' got, e = .returned (.int .i64 got) ∧ LogOut w0 W w' p p' S' bl bm V' S.data.length cnt ∧ Res over S V cnt R (R ++ [b]) k (recN b.length + 1) (wantE (S.oSize - sumN R) b.length) got S' V')
    (hC : ∀ W, Fr (fun _ => False) w W → Calls Try.prog 52 #[.pointer (some ⟨bl, 0, none⟩), .slice a b.length c] W fun e w' => ∃ p' S' V' got, e = .returned (.int .i64 got) ∧ LogOut w0 W w' p p' S' bl bm V' S.data.length cnt ∧ Res over S V cnt R [b] k (recN b.length + 1) (wantE S.oSize b.length) got S' V') :
    Calls Try.prog 58 #[.pointer (some ⟨wb, 0, none⟩), .agg #[.int .i64 kind, .int .i64 on, .slice a b.length c, .slice ak nk ck]] w fun e w' => e = .returned (.bool true) ∧ Wrote w0 w' wb p S over k (recN b.length + 1) := by
  have H := Lib.hid h
  have LL := Lib.hid L
  have HA := Lib.hid hA
  have HC := Lib.hid hC
  have HB := Lib.hid hb
  have BD := Lib.hid (And.intro wbl (And.intro nbl (And.intro nbm (And.intro rf2 (And.intro mf2 (And.intro hvo hof))))))
  have hrow := h.row
  have hlt := live_lt h.liv
  obtain ⟨ar, nr, cr, rfl⟩ : ∃ a n c, vr = .slice a n c := by obtain ⟨a, c, e⟩ := h.rl.list.shape; exact ⟨a, _, c, e⟩
  obtain ⟨am, nm, cm, rfl⟩ : ∃ a n c, vm = .slice a n c := by obtain ⟨a, c, e⟩ := h.ml.list.shape; exact ⟨a, _, c, e⟩
  obtain ⟨sz, hsz⟩ : ∃ sz, S.oSize = sz := ⟨_, rfl⟩
  have HSZ := Lib.hid hsz
  rw [hsz] at hrow HA HC
  obtain ⟨q, hq⟩ : ∃ q, b.length = q := ⟨_, rfl⟩
  have HQ := Lib.hid hq
  rw [hq] at HA HC HB hb2 ⊢
  obtain ⟨qq, hqq⟩ : ∃ qq, recN q + 1 = qq := ⟨_, rfl⟩
  rw [hqq] at HA HC ⊢
  clear h L hA hC hb hq hsz wbl nbl nbm rf2 mf2 hvo hof hqq
  go_enter Try.func58, Try.ntmps58
  go_upto_if 15 with (at_builtin; refine wpList_append_B rfl (.tmp 9) (.tmp 11) rfl (.slice (some ⟨w.heap.size + 1, 0, none⟩) 0 0) [] (w.heap.size + 1) rfl (.inr ⟨w.heap.size + 1, [], rfl, Nat.le_refl _, live_alloc_at _ _ _ _ (by simp), by simp, by rw [rowOf_alloc_at _ _ _ _ _ (by simp)]; rfl⟩) (by simp) (.slice a q c) b rfl ((HB.out.later H.out.st.fr).later (((Fr.refl (fun _ => False) w).alloc _).alloc _)) (by simp; rw [HQ.out]; omega) ?_; intro vd wd od fd xd; have rb3 := (fd.row (g := w.heap.size) (by simp; omega) (fun e => by simp [Value.ownBlock] at e)).trans ((rowOf_alloc_lt _ _ _ (by simp)).trans (rowOf_alloc_at _ _ _ _ _ rfl)); have rwd := (fd.row (g := wb) (by simp; omega) (fun e => by simp [Value.ownBlock] at e; omega)).trans ((rowOf_alloc_lt _ _ _ (by simp; omega)).trans ((rowOf_alloc_lt _ _ _ hlt).trans hrow)); have OD := Lib.hid (od.weaken (Nat.zero_le _)); have VD := Lib.hid (show ∀ j, vd.ownBlock = some j → w.heap.size ≤ j from fun j hj => by have := (od.lt hj).1; omega); have FD := Lib.hid ((((Fr.refl (fun _ => False) w).alloc _).alloc _).trans fd (fun i hi e => by simp [Value.ownBlock] at e; omega)); have hszd := fd.size; simp only [World.size_alloc] at hszd; have hl3 : w.heap.size < wd.heap.size := (by omega); have hlw : wb < wd.heap.size := (by omega); obtain ⟨av, cv, ev⟩ := od.shape; rw [List.nil_append, HQ.out] at ev; subst ev; clear od fd xd)
  obtain ⟨W4, hW4⟩ : ∃ W4, wd.alloc (.cells #[.int .i64 0, .slice none 0 0] 96) = W4 := ⟨_, rfl⟩
  obtain ⟨b3, hb3⟩ : ∃ b, w.heap.size = b := ⟨_, rfl⟩
  obtain ⟨b6, hb6⟩ : ∃ b, wd.heap.size = b := ⟨_, rfl⟩
  have BX := Lib.hid (show w.heap.size ≤ b3 ∧ b3 < b6 ∧ wb < b3 by omega)
  have F4 := Lib.hid (show Fr (fun _ => False) w W4 by rw [← hW4]; exact FD.out.alloc _)
  have rw4 : rowOf W4 wb = #[.pointer (some ⟨p.d, 0, none⟩), .pointer (some ⟨bl, 0, none⟩), .int .i64 sz, .slice ar nr cr, .slice am nm cm, .bool over, .bool over] := by rw [← hW4, rowOf_alloc_lt _ _ _ hlw]; exact rwd
  have rb4 : rowOf W4 b3 = #[.int .i64 kind, .int .i64 on, .slice a q c, .slice ak nk ck] := by rw [← hW4, ← hb3, rowOf_alloc_lt _ _ _ hl3]; exact rb3
  have r64 : rowOf W4 b6 = #[.int .i64 0, .slice none 0 0] := by rw [← hW4, ← hb6]; exact rowOf_alloc_at _ _ _ _ _ rfl
  have L64 := Lib.hid (show live W4 b6 = true by rw [← hW4, ← hb6]; exact live_alloc_at _ _ _ _ rfl)
  have OD4 := Lib.hid (show OwnB W4 (.slice av q cv) b 0 by rw [← hW4]; have := OD.out; rw [List.nil_append] at this; exact this.keep ((Fr.refl (fun _ => False) wd).alloc _) (fun _ _ h => h))
  have OD6 := Lib.hid (show ∀ j, (Value.slice av q cv).ownBlock = some j → j < b6 from fun j hj => by have := (OD.out.lt hj).2; omega)
  have l64 := live_lt L64.out
  have lw4 := Nat.lt_of_lt_of_le hlt F4.out.size
  have lb4 : b3 < W4.heap.size := by omega
  have nw6 : wb ≠ b6 := by omega
  have nb36 : b3 ≠ b6 := by omega
  have NB := Lib.hid (show ¬ (p.foot b3 ∨ b3 = bl) ∧ ¬ (p.foot b6 ∨ b6 = bl) from by
    have h1 := live_lt LL.out.liv
    exact ⟨fun e => e.elim (fun e => by have := H.out.st.lt e; omega) (fun e => by omega), fun e => e.elim (fun e => by have := H.out.st.lt e; omega) (fun e => by omega)⟩)
  have ZS := Lib.hid (show sz ≤ 16384 ∧ sumN R ≤ sz by
    have h1 := H.out.hs
    have h2 := HSZ.out
    have h3 := H.out.dead.d.ok.n1
    unfold DS.oSize at h2
    exact ⟨by omega, by rw [← HSZ.out]; exact h1⟩)
  rw [hW4]
  rw [hb6, hb3]
  clear hW4 hb3 hb6 rb3 rwd hszd hl3 hlw
  go_cut [7, 8] from 13 to 47 (fun want e wx => WCut w0 w wb b6 sz p S bl bm V cnt (.slice ar nr cr) (.slice am nm cm) R over k qq want e wx)
  case first =>
    by_cases hkd : kind = 0
    · have hkb : (kind == 0) = true := by simpa using hkd
      clear hkd
      go_wp2_with fail
      refine (appended_all W4 sz _ us R _ b (H.out.rl.keep F4.out (fun _ _ h => h)) OD4.out ZS.out.1 ZS.out.2 H.out.hR (by rw [HQ.out]; exact hb2)).mono ?_
      rintro e w5 ⟨vn, un, N, rfl, nx, f5, hN⟩
      obtain ⟨an, nn, cn, rfl⟩ : ∃ a n c, vn = .slice a n c := by obtain ⟨a, c, e⟩ := nx.rl.list.shape; exact ⟨a, _, c, e⟩
      have F5 := Lib.hid f5
      have NX := Lib.hid nx
      have HNN := Lib.hid hN
      have rw5 := (f5.row lw4 (fun h => h)).trans rw4
      have rb5 := (f5.row lb4 (fun h => h)).trans rb4
      have r65 := (f5.row l64 (fun h => h)).trans r64
      have l65 := (f5.liv l64 (fun h => h)).trans L64.out
      have lw5 := Nat.lt_of_lt_of_le lw4 f5.size
      have lb5 := Nat.lt_of_lt_of_le lb4 f5.size
      clear f5 nx hN
      go_wp2_with fail
      obtain ⟨W6, hW6⟩ : ∃ W6, w5.setRow b6 #[.int .i64 sz, .slice an nn cn] = W6 := ⟨_, rfl⟩
      have F6 := Lib.hid (show Fr (fun j => j = b6) w5 W6 by rw [← hW6]; exact (Fr.refl (fun j => j = b6) w5).setRow _ _ (fun _ => rfl))
      have R66 := Lib.hid (show rowOf W6 b6 = #[.int .i64 sz, .slice an nn cn] ∧ live W6 b6 = true by rw [← hW6]; exact ⟨rowOf_setRow_same _ _ _ l65, by rw [live_setRow]; exact l65⟩)
      have rw6 := (F6.out.row lw5 nw6).trans rw5
      have rb6 := (F6.out.row lb5 nb36).trans rb5
      have lw6 := Nat.lt_of_lt_of_le lw5 F6.out.size
      have l66 := live_lt R66.out.2
      rw [hW6]
      clear hW6 r65 l65
      have FW6 := Lib.hid (show Fr (fun _ => False) w W6 from (F4.out.trans F5.out (fun _ _ h => h)).trans F6.out (fun i hi e => by have := BX.out; omega))
      go_region_held3 (fun w' => rowOf w' wb = #[.pointer (some ⟨p.d, 0, none⟩), .pointer (some ⟨bl, 0, none⟩), .int .i64 sz, .slice ar nr cr, .slice am nm cm, .bool over, .bool over] ∧ rowOf w' b3 = #[.int .i64 kind, .int .i64 on, .slice a q c, .slice ak nk ck])
        (first | assumption | (refine ⟨?_, ?_⟩ <;> first | assumption | (rw [rowOf_drew]; assumption)))
        ((go_simp; go_at_call 49; refine (HA.out _ FW6.out.drew).mono ?_; rintro e w7 ⟨p7, S7, V7, got, rfl, lo, res⟩; have LO := Lib.hid lo; have RES := Lib.hid res; have nwm : ¬ (p.foot wb ∨ wb = bl) := (fun e => e.elim H.out.nwb (fun e => BD.out.2.1 e.symm)); have nbm3 : ¬ (p.foot b3 ∨ b3 = bl) := NB.out.1; have nbm6 : ¬ (p.foot b6 ∨ b6 = bl) := NB.out.2; have rw7 := (lo.mv.fr.row (g := wb) lw6 nwm).trans ((rowOf_drew _ _).trans rw6); have rb7 := (lo.mv.fr.row (g := b3) (Nat.lt_of_lt_of_le lb5 F6.out.size) nbm3).trans ((rowOf_drew _ _).trans rb6); have r67 := (lo.mv.fr.row (g := b6) l66 nbm6).trans ((rowOf_drew _ _).trans R66.out.1); have l67 := (lo.mv.fr.liv (g := b6) l66 nbm6).trans ((live_drew _ _).trans R66.out.2); have lwv7 := (lo.mv.fr.liv (g := wb) lw6 nwm).trans ((FW6.out.liv hlt (fun h => h)).trans H.out.liv); clear lo res))
      all_goals
        go_wp2_with fail
        go_meet
        case rel =>
          have e1 := LO.out.mv
          have hw7 : w.heap.size ≤ W6.heap.size := FW6.out.size
          have NXF := Lib.hid (show ∀ j, recsFoot (.slice an nn cn) un j → ¬ p.foot j ∧ j ≠ wb ∧ j ≠ bl ∧ j ≠ b6 ∧ j < w5.heap.size from fun j hj => by
            have hlt5 := NX.out.rl.lt hj
            have hbx := BX.out
            have hbl := live_lt LL.out.liv
            have key : (j < w.heap.size → (¬ p.foot j ∧ j ≠ wb ∧ j ≠ bl)) ∧ j ≠ b6 := by
              rcases NX.out.foot j hj with h | h | h
              · exact ⟨fun _ => ⟨(H.out.rf j h).1, (H.out.rf j h).2, BD.out.2.2.2.1 j h⟩, by have := H.out.rl.lt h; omega⟩
              · have h1 := VD.out j h; have h2 := OD6.out j h; exact ⟨fun h => by omega, by omega⟩
              · exact ⟨fun h2 => by have := F4.out.size; omega, by omega⟩
            by_cases hj2 : j < w.heap.size
            · exact ⟨(key.1 hj2).1, (key.1 hj2).2.1, (key.1 hj2).2.2, key.2, hlt5⟩
            · exact ⟨fun e => by have := H.out.st.lt e; omega, by omega, by omega, key.2, hlt5⟩)
          have hF56 := F6.out.size
          refine ⟨p7, S7, V7, an, nn, cn, un, N, _, _, rfl, rfl, r67, l67, rw7, lwv7, ?_, fun j hj => ?_, ⟨LO.out.d, LO.out.st, LO.out.log, ?_⟩, ?_, ?_⟩
          · exact ((NX.out.rl.keep F6.out (fun j hj e => (NXF.out j hj).2.2.2.1 e)).keep (Fr.refl (fun _ => False) W6).drew (fun _ _ h => h)).keep e1.fr (fun j hj e => e.elim (NXF.out j hj).1 (fun e => (NXF.out j hj).2.2.1 e))
          · have hx := NXF.out j hj
            refine ⟨fun e => ?_, hx.2.1, hx.2.2.1, hx.2.2.2.1⟩
            rcases e1.new j (.inl e) with (h | h) | h
            · exact hx.1 h
            · exact hx.2.2.1 h
            · simp at h; omega
          · exact ⟨(FW6.out.drew.mono (fun _ _ h => h.elim)).trans e1.fr (fun _ _ h => h), fun j hj => (e1.new j hj).imp id (fun h => by simp at h; omega)⟩
          · exact res_conv (by rw [HQ.out]; exact RES.out) (fun h0 => by rw [HNN.out, if_pos h0])
          · intro h0
            rw [HNN.out, if_pos h0]
            exact next_app ZS.out.2 H.out.hR h0
    · have hkb : (kind == 0) = false := by simpa using hkd
      clear hkd
      go_wp2_with fail
      refine (checked_all W4 sz _ us R _ b (H.out.rl.keep F4.out (fun _ _ h => h)) OD4.out (by rw [HQ.out]; exact hb2)).mono ?_
      rintro e w5 ⟨vn, un, N, rfl, nx, f5, hN⟩
      obtain ⟨an, nn, cn, rfl⟩ : ∃ a n c, vn = .slice a n c := by obtain ⟨a, c, e⟩ := nx.rl.list.shape; exact ⟨a, _, c, e⟩
      have F5 := Lib.hid f5
      have NX := Lib.hid nx
      have HNN := Lib.hid hN
      have rw5 := (f5.row lw4 (fun h => h)).trans rw4
      have rb5 := (f5.row lb4 (fun h => h)).trans rb4
      have r65 := (f5.row l64 (fun h => h)).trans r64
      have l65 := (f5.liv l64 (fun h => h)).trans L64.out
      have lw5 := Nat.lt_of_lt_of_le lw4 f5.size
      have lb5 := Nat.lt_of_lt_of_le lb4 f5.size
      clear f5 nx hN
      go_wp2_with fail
      obtain ⟨W6, hW6⟩ : ∃ W6, w5.setRow b6 #[.int .i64 sz, .slice an nn cn] = W6 := ⟨_, rfl⟩
      have F6 := Lib.hid (show Fr (fun j => j = b6) w5 W6 by rw [← hW6]; exact (Fr.refl (fun j => j = b6) w5).setRow _ _ (fun _ => rfl))
      have R66 := Lib.hid (show rowOf W6 b6 = #[.int .i64 sz, .slice an nn cn] ∧ live W6 b6 = true by rw [← hW6]; exact ⟨rowOf_setRow_same _ _ _ l65, by rw [live_setRow]; exact l65⟩)
      have rw6 := (F6.out.row lw5 nw6).trans rw5
      have rb6 := (F6.out.row lb5 nb36).trans rb5
      have lw6 := Nat.lt_of_lt_of_le lw5 F6.out.size
      have l66 := live_lt R66.out.2
      rw [hW6]
      clear hW6 r65 l65
      have FW6 := Lib.hid (show Fr (fun _ => False) w W6 from (F4.out.trans F5.out (fun _ _ h => h)).trans F6.out (fun i hi e => by have := BX.out; omega))
      go_region_held3 (fun w' => rowOf w' wb = #[.pointer (some ⟨p.d, 0, none⟩), .pointer (some ⟨bl, 0, none⟩), .int .i64 sz, .slice ar nr cr, .slice am nm cm, .bool over, .bool over] ∧ rowOf w' b3 = #[.int .i64 kind, .int .i64 on, .slice a q c, .slice ak nk ck])
        (first | assumption | (refine ⟨?_, ?_⟩ <;> first | assumption | (rw [rowOf_drew]; assumption)))
        ((go_simp; go_at_call 52; refine (HC.out _ FW6.out.drew).mono ?_; rintro e w7 ⟨p7, S7, V7, got, rfl, lo, res⟩; have LO := Lib.hid lo; have RES := Lib.hid res; have nwm : ¬ (p.foot wb ∨ wb = bl) := (fun e => e.elim H.out.nwb (fun e => BD.out.2.1 e.symm)); have nbm3 : ¬ (p.foot b3 ∨ b3 = bl) := NB.out.1; have nbm6 : ¬ (p.foot b6 ∨ b6 = bl) := NB.out.2; have rw7 := (lo.mv.fr.row (g := wb) lw6 nwm).trans ((rowOf_drew _ _).trans rw6); have rb7 := (lo.mv.fr.row (g := b3) (Nat.lt_of_lt_of_le lb5 F6.out.size) nbm3).trans ((rowOf_drew _ _).trans rb6); have r67 := (lo.mv.fr.row (g := b6) l66 nbm6).trans ((rowOf_drew _ _).trans R66.out.1); have l67 := (lo.mv.fr.liv (g := b6) l66 nbm6).trans ((live_drew _ _).trans R66.out.2); have lwv7 := (lo.mv.fr.liv (g := wb) lw6 nwm).trans ((FW6.out.liv hlt (fun h => h)).trans H.out.liv); clear lo res))
      all_goals
        go_wp2_with fail
        go_meet
        case rel =>
          have e1 := LO.out.mv
          have hw7 : w.heap.size ≤ W6.heap.size := FW6.out.size
          have NXF := Lib.hid (show ∀ j, recsFoot (.slice an nn cn) un j → ¬ p.foot j ∧ j ≠ wb ∧ j ≠ bl ∧ j ≠ b6 ∧ j < w5.heap.size from fun j hj => by
            have hlt5 := NX.out.rl.lt hj
            have hbx := BX.out
            have hbl := live_lt LL.out.liv
            have key : (j < w.heap.size → (¬ p.foot j ∧ j ≠ wb ∧ j ≠ bl)) ∧ j ≠ b6 := by
              rcases NX.out.foot j hj with h | h | h
              · exact ⟨fun _ => ⟨(H.out.rf j h).1, (H.out.rf j h).2, BD.out.2.2.2.1 j h⟩, by have := H.out.rl.lt h; omega⟩
              · have h1 := VD.out j h; have h2 := OD6.out j h; exact ⟨fun h => by omega, by omega⟩
              · exact ⟨fun h2 => by have := F4.out.size; omega, by omega⟩
            by_cases hj2 : j < w.heap.size
            · exact ⟨(key.1 hj2).1, (key.1 hj2).2.1, (key.1 hj2).2.2, key.2, hlt5⟩
            · exact ⟨fun e => by have := H.out.st.lt e; omega, by omega, by omega, key.2, hlt5⟩)
          have hF56 := F6.out.size
          refine ⟨p7, S7, V7, an, nn, cn, un, N, _, _, rfl, rfl, r67, l67, rw7, lwv7, ?_, fun j hj => ?_, ⟨LO.out.d, LO.out.st, LO.out.log, ?_⟩, ?_, ?_⟩
          · exact ((NX.out.rl.keep F6.out (fun j hj e => (NXF.out j hj).2.2.2.1 e)).keep (Fr.refl (fun _ => False) W6).drew (fun _ _ h => h)).keep e1.fr (fun j hj e => e.elim (NXF.out j hj).1 (fun e => (NXF.out j hj).2.2.1 e))
          · have hx := NXF.out j hj
            refine ⟨fun e => ?_, hx.2.1, hx.2.2.1, hx.2.2.2.1⟩
            rcases e1.new j (.inl e) with (h | h) | h
            · exact hx.1 h
            · exact hx.2.2.1 h
            · simp at h; omega
          · exact ⟨(FW6.out.drew.mono (fun _ _ h => h.elim)).trans e1.fr (fun _ _ h => h), fun j hj => (e1.new j hj).imp id (fun h => by simp at h; omega)⟩
          · exact res_conv (by rw [HQ.out]; exact RES.out) (fun h0 => by rw [HNN.out, if_pos h0])
          · intro h0
            rw [HNN.out, if_pos h0]
            exact next_chk h0
  case rest =>
    obtain ⟨p7, S7, V7, an, nn, cn, un, N, wi, ei, rfl, rfl, r67, l67, rw7, lw7, rn7, nf7, lo7, res7, hN7⟩ := hcut
    have RN := Lib.hid rn7
    have NF := Lib.hid nf7
    have LO := Lib.hid lo7
    have HN := Lib.hid hN7
    have bw6 : b6 ≠ wb := fun e => nw6 e.symm
    clear rn7 nf7 lo7 hN7 rw4 rb4 r64
    have NW7 := Lib.hid (show ¬ p7.foot wb from fun e => by
      rcases LO.out.mv.new wb (.inl e) with (h | h) | h
      · exact H.out.nwb h
      · exact BD.out.2.1 h.symm
      · omega)
    have KR := Lib.hid (show RefL wc (.slice ar nr cr) us R from H.out.rl.keep LO.out.mv.fr (fun j hj e => e.elim (H.out.rf j hj).1 (BD.out.2.2.2.1 j hj)))
    have KM := Lib.hid (show RefL wc (.slice am nm cm) um alt from H.out.ml.keep LO.out.mv.fr (fun j hj e => e.elim (H.out.mf j hj).1 (BD.out.2.2.2.2.1 j hj)))
    have NO := Lib.hid (show ∀ j, j < w.heap.size → ¬ p.foot j → j ≠ bl → ¬ p7.foot j from fun j hj hn hb e => by
      rcases LO.out.mv.new j (.inl e) with (h | h) | h
      · exact hn h
      · exact hb h
      · omega)
    have FIN := Lib.hid (show ∀ (W : World) vr' vm' us' um' R' alt' (mo : Bool), Fr (fun j => j = wb) wc W → rowOf W wb = #[.pointer (some ⟨p.d, 0, none⟩), .pointer (some ⟨bl, 0, none⟩), .int .i64 sz, vr', vm', .bool mo, .bool mo] → live W wb = true → RefL wc vr' us' R' → RefL wc vm' um' alt' →
        (∀ j, recsFoot vr' us' j → ¬ p7.foot j ∧ j ≠ wb) → (∀ j, recsFoot vm' um' j → ¬ p7.foot j ∧ j ≠ wb) → DeadS S7 R' alt' mo (k + 1) → S7.data.length = S.data.length → (∀ b ∈ R', b.length ≤ 65536) → (∀ b ∈ alt', b.length ≤ 65536) → sumN R' ≤ sz →
        CI w0 W wb p7 S7 bl vr' vm' us' um' R' alt' mo mo (k + 1) ∧ LogAt W p7 bl bm V7 S7.data.length cnt from fun W vr' vm' us' um' R' alt' mo fX hr hl h1 h2 h3 h4 hd hlen hR hA hs => by
      have hsz : S7.oSize = sz := by rw [oSize_same hlen, HSZ.out]
      refine ⟨⟨LO.out.st.calm fX (fun j e => ⟨by have := H.out.wwb; omega, fun hj => NW7.out (e ▸ hj)⟩), by rw [hr, LO.out.d, hsz], hl, NW7.out, H.out.wwb, h1.keep fX (fun j hj e => (h3 j hj).2 e), h2.keep fX (fun j hj e => (h4 j hj).2 e), h3, h4, hd, hR, hA, by rw [hsz]; exact hs⟩, ?_⟩
      have := LO.out.log.keep (p' := p7) fX rfl BD.out.2.1 BD.out.2.2.1 (fun k hk => .inl hk)
      rwa [hlen])
    have RF := Lib.hid (show ∀ j, recsFoot (.slice ar nr cr) us j → ¬ p7.foot j ∧ j ≠ wb from fun j hj => ⟨NO.out j (H.out.rl.lt hj) (H.out.rf j hj).1 (BD.out.2.2.2.1 j hj), (H.out.rf j hj).2⟩)
    have MF := Lib.hid (show ∀ j, recsFoot (.slice am nm cm) um j → ¬ p7.foot j ∧ j ≠ wb from fun j hj => ⟨NO.out j (H.out.ml.lt hj) (H.out.mf j hj).1 (BD.out.2.2.2.2.1 j hj), (H.out.mf j hj).2⟩)
    rcases res7 with ⟨ho, h7, hS, hV⟩ | ⟨ho, o1, o2, o3, ⟨hw, hg, hS, hV⟩ | ⟨hw, hg, on7, hp7⟩ | ⟨hw, hg, hpl, hoff, hv7, dd7⟩⟩
    · have HS := Lib.hid hS
      have HV := Lib.hid hV
      subst ho h7
      clear hS hV
      go_wp2
      go_ret
      obtain ⟨c1, c2⟩ := FIN.out wc _ _ us um R alt true (Fr.refl _ _) rw7 lw7 KR.out KM.out RF.out MF.out (by rw [HS.out]; exact H.out.dead.mono (by omega)) (by rw [HS.out]) H.out.hR H.out.hA ZS.out.2
      exact ⟨rfl, p7, S7, bl, bm, V7, cnt, _, _, us, um, R, alt, .inr ⟨.inr rfl, ⟨c1, c2, by rw [HV.out]; exact (BD.out.2.2.2.2.2.1 (by simp)).1, by rw [HS.out]; exact (BD.out.2.2.2.2.2.1 (by simp)).2, BD.out.1, BD.out.2.1, BD.out.2.2.1, BD.out.2.2.2.1, BD.out.2.2.2.2.1⟩⟩, LO.out.d, by rw [HS.out], by rw [HS.out]; exact Int.le_refl _, by rw [HS.out]; omega, by rw [HS.out]; exact id⟩
    · have HS := Lib.hid hS
      have HV := Lib.hid hV
      have HG := Lib.hid hg
      subst ho
      have hw2 : (wi != 0) = true := by simpa using hw
      have hww : (ei == wi) = true := by rw [hg]; simp
      clear hS hV hw hg
      go_wp2
      go_ret
      have onk := (BD.out.2.2.2.2.2.2 (by simp)).2.mono (Nat.le_succ k)
      obtain ⟨c1, c2⟩ := FIN.out wc _ _ us um R alt false (Fr.refl _ _) rw7 lw7 KR.out KM.out RF.out MF.out (by rw [HS.out]; exact H.out.dead.mono (by omega)) (by rw [HS.out]) H.out.hR H.out.hA ZS.out.2
      exact ⟨rfl, p7, S7, bl, bm, V7, cnt, _, _, us, um, R, alt, .inl ⟨c1, c2, by rw [HS.out, HV.out]; exact onk, BD.out.1, BD.out.2.1, BD.out.2.2.1, BD.out.2.2.2.1, BD.out.2.2.2.2.1⟩, LO.out.d, by rw [HS.out], by rw [HS.out]; exact Int.le_refl _, by rw [HS.out]; omega, by rw [HS.out]; exact id⟩
    · have ON := Lib.hid on7
      have HP := Lib.hid (And.intro o1 (And.intro o2 (And.intro o3 hp7)))
      subst ho hw hg
      clear on7 hp7 o1 o2 o3
      have OFF := Lib.hid (show Calls Try.prog 24 #[.pointer (some ⟨p.d, 0, none⟩)] wc fun e w' => e = .returned (.bool false) ∧ wc = w' by
        rw [← LO.out.d, ← ON.out.off]; exact off_rep wc p7 S7 LO.out.st.rep)
      go_wp2_with fail
      refine OFF.out.mono ?_
      rintro e w' ⟨rfl, rfl⟩
      go_wp2
      go_ret
      obtain ⟨c1, c2⟩ := FIN.out _ _ _ un um N alt false ((Fr.refl (fun j => j = wb) wc).setRow wb _ (fun _ => rfl)) (rowOf_setRow_same _ _ _ lw7) (by rw [live_setRow]; exact lw7) RN.out KM.out (fun j hj => ⟨(NF.out j hj).1, (NF.out j hj).2.1⟩) MF.out (ON.out.dead _ _) HP.out.1 (HN.out (by simp)).2 H.out.hA (HN.out (by simp)).1
      exact ⟨rfl, p7, S7, bl, bm, V7, cnt, _, _, un, um, N, alt, .inl ⟨c1, c2, ON.out, BD.out.1, BD.out.2.1, BD.out.2.2.1, fun j hj => (NF.out j hj).2.2.1, BD.out.2.2.2.2.1⟩, LO.out.d, HP.out.1, HP.out.2.1, HP.out.2.2.1, HP.out.2.2.2⟩
    · have DD := Lib.hid (And.intro dd7 (And.intro hv7 hoff))
      have HP := Lib.hid (And.intro o1 (And.intro o2 (And.intro o3 hpl)))
      subst ho hw hg
      clear dd7 hv7 hpl o1 o2 o3
      have OFF := Lib.hid (show Calls Try.prog 24 #[.pointer (some ⟨p.d, 0, none⟩)] wc fun e w' => e = .returned (.bool true) ∧ wc = w' by
        rw [← LO.out.d, ← hoff]; exact off_rep wc p7 S7 LO.out.st.rep)
      clear hoff
      go_wp2_with fail
      refine OFF.out.mono ?_
      rintro e w' ⟨rfl, rfl⟩
      go_wp2
      go_region
      all_goals
        go_wp2
        go_ret
        obtain ⟨c1, c2⟩ := FIN.out _ _ _ us un R N true ((Fr.refl (fun j => j = wb) wc).setRow wb _ (fun _ => rfl)).drew (by rw [rowOf_drew]; exact rowOf_setRow_same _ _ _ lw7) (by rw [live_drew, live_setRow]; exact lw7) KR.out RN.out RF.out (fun j hj => ⟨(NF.out j hj).1, (NF.out j hj).2.1⟩) DD.out.1 HP.out.1 H.out.hR (HN.out (by simp)).2 ZS.out.2
        exact ⟨rfl, p7, S7, bl, bm, V7, cnt, _, _, us, un, R, N, .inr ⟨.inl HP.out.2.2.2, ⟨c1, c2, DD.out.2.1, DD.out.2.2, BD.out.1, BD.out.2.1, BD.out.2.2.1, BD.out.2.2.2.1, fun j hj => (NF.out j hj).2.2.1⟩⟩, LO.out.d, HP.out.1, HP.out.2.1, HP.out.2.2.1, fun h => by rw [HP.out.2.2.2] at h; cases h⟩

end Go.Proofs.Ytflnlpbcmcfblaa
