/-
  The laws' world of package log: a crash, and a plan for the power within the opening.
-/
import Derived.Test.YtflnlpbcmcfblaaLV
import Derived.Test.YtflnlpbcmcfblaaLogIn
namespace Go.Proofs.Ytflnlpbcmcfblaa
open Go.RowKit

/-! ### The laws' world of package log: a crash, and a plan for the power within the opening. -/
structure CrdP (S S1 : DS) : Prop where
  mix : Mix S.vis S.pend S1.vis
  off : S1.off = false
  pend : S1.pend = []
  len : S1.data.length = S.data.length
  wr : S1.wr = S.wr

set_option maxRecDepth 20000 in
set_option maxHeartbeats 4000000 in
theorem crash_full (w0 w : World) (wb : Nat) (p : DP) (S : DS) (bl0 : Nat) (vr vm : Value) (us um : List Value) (R alt : List (List UInt8)) (met over : Bool) (k : Nat) (h : CI w0 w wb p S bl0 vr vm us um R alt met over k) (hk : k ≤ 8388600)
    (vk : Value) (l : List Int) (hkp : IntsAt w0 vk l) (n : Int) (hn : n ≤ 9223372036854775807) :
    Calls Try.prog 57 #[.pointer (some ⟨wb, 0, none⟩), vk, .int .i64 n] w fun e w' => e = .returned (.bool true) ∧ Open1 w0 w' wb (k + 2) := by
  have H := Lib.hid h
  have HK := Lib.hid hkp
  have hrow := h.row
  have hlt := live_lt h.liv
  obtain ⟨ar, nr, cr, rfl⟩ : ∃ a n c, vr = .slice a n c := by obtain ⟨a, c, e⟩ := h.rl.list.shape; exact ⟨a, _, c, e⟩
  obtain ⟨am, nm, cm, rfl⟩ : ∃ a n c, vm = .slice a n c := by obtain ⟨a, c, e⟩ := h.ml.list.shape; exact ⟨a, _, c, e⟩
  obtain ⟨sz, hsz⟩ : ∃ sz, S.oSize = sz := ⟨_, rfl⟩
  have HSZ := Lib.hid hsz
  rw [hsz] at hrow
  obtain ⟨E, hE⟩ : ∃ E, (S.crash l).1 = E := ⟨_, rfl⟩
  have HE := Lib.hid hE
  have PM := Lib.hid (show ∀ j, p.foot j → j < w.heap.size from fun j hj => H.out.st.lt hj)
  have HN := Lib.hid hn
  obtain ⟨ak, nk, ck, rfl⟩ : ∃ a n c, vk = .slice a n c := by obtain ⟨a, c, e, _⟩ := hkp; exact ⟨a, _, c, e⟩
  clear h hkp hsz hE
  go_enter Try.func57, Try.ntmps57
  go_wp2_with fail
  refine (crash_st w0 w p S H.out.st _ l HK.out).mono ?_
  rintro e w1 ⟨p1, hp1, rfl, s1, m1⟩
  rw [HE.out]
  have M1 := Lib.hid m1
  have r1 := (m1.fr.row hlt H.out.nwb).trans hrow
  have hlt1 := Nat.lt_of_lt_of_le hlt m1.fr.size
  have P1 := Lib.hid hp1
  have nw1 : ¬ p1.foot wb := fun e => (M1.out.new wb e).elim H.out.nwb (fun h => by omega)
  by_cases hz : E = 0
  case' pos =>
    subst hz
    have ST1 := Lib.hid s1
    have CR1 := Lib.hid (crd_of H.out.st.rep.ok l HE.out)
    obtain ⟨S1, hS1⟩ : ∃ S1, (S.crash l).2 = S1 := ⟨_, rfl⟩
    rw [hS1] at ST1 CR1
    clear s1 m1 hS1 hp1
    go_wp2_with fail
  case' neg =>
    have hz2 : (E != 0) = true := by simpa using hz
    rw [crash_bad l (by rw [HE.out]; exact hz)] at s1
    have S1' := Lib.hid s1
    clear s1 m1 hp1 hz
    go_wp2_with fail
    have CN := Lib.hid (show Calls Try.prog 23 #[.pointer (some ⟨p.d, 0, none⟩), .slice none 0 0] w1 fun e w' => ∃ p', p'.d = p1.d ∧ e = .returned (.int .i64 (S.crash []).1) ∧ St w0 w' p' (S.crash []).2 ∧ Moves p1.foot p'.foot w1 w' by
      rw [← P1.out]; exact crash_st w0 w1 p1 S S1'.out _ [] ⟨none, 0, rfl, by simp, .inl rfl⟩)
    refine CN.out.mono ?_
    rintro e w1 ⟨p1, hp1', rfl, s1', m1'⟩
    replace r1 := (m1'.fr.row hlt1 nw1).trans r1
    replace hlt1 := Nat.lt_of_lt_of_le hlt1 m1'.fr.size
    replace M1 := Lib.hid (M1.out.trans m1')
    replace P1 := Lib.hid (hp1'.trans P1.out)
    replace nw1 : ¬ p1.foot wb := fun e => (M1.out.new wb e).elim H.out.nwb (fun h => by omega)
    have ST1 := Lib.hid s1'
    have CR1 := Lib.hid (crd_of H.out.st.rep.ok [] (crash_nil_zero S))
    obtain ⟨S1, hS1⟩ : ∃ S1, (S.crash []).2 = S1 := ⟨_, rfl⟩
    rw [hS1] at ST1 CR1
    clear s1' m1' hS1 hp1' S1' CN
    go_wp2_with fail
  all_goals
    have PL := Lib.hid (show Calls Try.prog 32 #[.pointer (some ⟨p.d, 0, none⟩), .int .i64 n] w1 fun e w' => e = .returned (.int .i64 (S1.plan n).1) ∧ DiskRep w' p1 (S1.plan n).2 ∧ Fr (· = p1.d) w1 w' by
      rw [← P1.out]; exact plan_rep w1 p1 S1 ST1.out.rep n (by omega))
    refine PL.out.mono ?_
    rintro e w2 ⟨rfl, rep2, f2⟩
    have E2 : (S1.plan n).2 = { S1 with pl := decide (0 ≤ n), left := if 0 ≤ n then n else 0 } := by
      unfold DS.plan
      rw [if_neg (by rw [CR1.out.off]; simp)]
    rw [E2] at rep2
    obtain ⟨S2, hS2⟩ : ∃ S2 : DS, ({ S1 with pl := decide (0 ≤ n), left := if 0 ≤ n then n else 0 } : DS) = S2 := ⟨_, rfl⟩
    have CR2 := Lib.hid (show CrdP S S2 by rw [← hS2]; exact ⟨CR1.out.mix, CR1.out.off, CR1.out.pend, CR1.out.len, CR1.out.wr⟩)
    rw [hS2] at rep2
    have ST2 := Lib.hid (show St w0 w2 p1 S2 from ⟨ST1.out.fr.trans f2 (fun i hi e => by have := ST1.out.foot i (.inl e); omega), rep2, ST1.out.foot⟩)
    have hf2 : ¬ wb = p1.d := fun e => nw1 (.inl e)
    have r2 := (f2.row hlt1 hf2).trans r1
    have hlt2 := Nat.lt_of_lt_of_le hlt1 f2.size
    have M2 := Lib.hid (show Moves p.foot p1.foot w w2 from M1.out.trans ⟨f2.mono (fun i _ e => .inl e), fun j hj => .inl hj⟩)
    have L2 := Lib.hid (show live w2 wb = true from (f2.liv hlt1 hf2).trans ((M1.out.fr.liv hlt H.out.nwb).trans H.out.liv))
    have OZ := Lib.hid (oSize_same CR2.out.len)
    obtain ⟨s, hd, u, Q, hbd, hQ, lies⟩ := H.out.dead.lies _ CR2.out.mix
    rw [← OZ.out] at lies
    have LI := Lib.hid lies
    have HBD := Lib.hid hbd
    have HQ := Lib.hid hQ
    have DB := Lib.hid (show DiskB S2 k from ⟨rep2.ok, by rw [CR2.out.len]; exact H.out.dead.d.n6, by rw [CR2.out.wr]; exact H.out.dead.d.w0, by rw [CR2.out.wr]; exact H.out.dead.d.w1⟩)
    clear E2 hS2 rep2 f2 lies hbd hQ r1 PL
    go_wp2_with fail
    have OP := Lib.hid (show Calls Try.prog 47 #[.pointer (some ⟨p.d, 0, none⟩)] w2 fun e w' => OpenPost w0 w2 p1 S2 (headPick S2.reads 2) e w' by
      rw [← P1.out]; exact open_any w0 w2 p1 S2 ST2.out DB.out.n6 CR2.out.off (by rw [CR2.out.pend]; simp))
    refine OP.out.mono ?_
    rintro e w3 hpost
    rw [show headPick S2.reads 2 = some (s, hd) by rw [reads_vis CR2.out.off CR2.out.pend]; exact LI.out.pick] at hpost
    obtain ⟨p3, hp3, st3, mv3, hres⟩ := hpost
    obtain ⟨-, a1, a2, a3, ⟨b1, b2, b3, b4⟩ | ⟨b1, b2, b3, b4⟩⟩ := open_state DB.out (by omega) CR2.out.off CR2.out.pend HBD.out LI.out st3.rep.ok
    rotate_left
    · rw [if_neg (by rw [b1]; simp), b1] at hres
      obtain rfl := hres
      have ST3 := Lib.hid st3
      have P3 := Lib.hid (hp3.trans P1.out)
      have M3 := Lib.hid (M2.out.trans mv3)
      have r3 := (mv3.fr.row hlt2 nw1).trans r2
      have L3 := (mv3.fr.liv hlt2 nw1).trans L2.out
      have NW3 := Lib.hid (show ¬ p3.foot wb from fun e => (mv3.new wb e).elim nw1 (fun h => by omega))
      obtain ⟨S3, hS3⟩ : ∃ S3, (S2.oDone s hd).2 = S3 := ⟨_, rfl⟩
      rw [hS3] at a1 a2 a3 b3 b4 ST3
      have FA := Lib.hid (And.intro a1 (And.intro a2 (And.intro a3 (And.intro b3 b4))))
      clear hp3 st3 mv3 a1 a2 a3 b1 b2 b3 b4 OP hS3 r2
      have OF := Lib.hid (show Calls Try.prog 24 #[.pointer (some ⟨p.d, 0, none⟩)] w3 fun e w' => e = .returned (.bool true) ∧ w3 = w' by
        rw [← P3.out, ← FA.out.2.2.2.1]; exact off_rep w3 p3 S3 ST3.out.rep)
      go_wp2_with fail
      refine OF.out.mono ?_
      rintro e w' ⟨rfl, rfl⟩
      go_wp2_with fail
      have FX := (Fr.refl (fun j => j = wb) w3).setRow wb #[.pointer (some ⟨p.d, 0, none⟩), .pointer (some ⟨bl0, 0, none⟩), .int .i64 sz, .slice ar nr cr, .slice am nm cm, .bool met, .bool true] (fun _ => rfl)
      have hw3 := M3.out.fr.size
      have NF := Lib.hid (show ∀ j, j < w.heap.size → ¬ p.foot j → ¬ p3.foot j from fun j hj hn e => (M3.out.new j e).elim hn (fun h => by omega))
      have hz3 : S3.oSize = S.oSize := oSize_same (by rw [FA.out.1, CR2.out.len])
      have CI3 : CI w0 (w3.setRow wb #[.pointer (some ⟨p.d, 0, none⟩), .pointer (some ⟨bl0, 0, none⟩), .int .i64 sz, .slice ar nr cr, .slice am nm cm, .bool met, .bool true]) wb p3 S3 bl0 (.slice ar nr cr) (.slice am nm cm) us um R alt met true (k + 1) :=
        ⟨ST3.out.calm FX (fun j e => ⟨by have := H.out.wwb; omega, fun hj => NW3.out (e ▸ hj)⟩), by rw [rowOf_setRow_same _ _ _ L3, P3.out, hz3, HSZ.out], by rw [live_setRow]; exact L3, NW3.out, H.out.wwb,
          (H.out.rl.keep M3.out.fr (fun j hj => (H.out.rf j hj).1)).keep FX (fun j hj e => (H.out.rf j hj).2 e), (H.out.ml.keep M3.out.fr (fun j hj => (H.out.mf j hj).1)).keep FX (fun j hj e => (H.out.mf j hj).2 e),
          fun j hj => ⟨NF.out j (H.out.rl.lt hj) (H.out.rf j hj).1, (H.out.rf j hj).2⟩, fun j hj => ⟨NF.out j (H.out.ml.lt hj) (H.out.mf j hj).1, (H.out.mf j hj).2⟩,
          ⟨⟨ST3.out.rep.ok, by rw [FA.out.1]; exact DB.out.n6, by have := DB.out.w0; have := FA.out.2.1; omega, by have := DB.out.w1; have := FA.out.2.2.1; omega⟩, fun all' hm => by
            obtain ⟨s', h', u', q1, q2⟩ := FA.out.2.2.2.2 all' hm
            exact ⟨s', h', u', Q, q1, HQ.out, q2⟩⟩, H.out.hR, H.out.hA, by rw [hz3]; exact H.out.hs⟩
      refine (crash_calm w0 _ wb p3 S3 bl0 _ _ us um R alt met true (k + 1) CI3 (by omega) (.slice none 0 0) [] ⟨none, 0, rfl, by simp, .inl rfl⟩ (-1) (by omega) (by omega)).mono ?_
      rintro e w5 ⟨rfl, hc⟩
      have HC5 := Lib.hid hc.open1
      clear hc
      go_wp2
      go_ret
      exact ⟨rfl, HC5.out⟩
    rw [if_pos b1] at hres
    obtain ⟨bl, vrec, us3, bm, rfl, rs3, rff, lg3, hbl, hbm⟩ := hres
    rw [b3] at rs3
    have ST3 := Lib.hid st3
    have RS3 := Lib.hid rs3.refl'
    have RFF := Lib.hid rff
    have LG3 := Lib.hid lg3
    have ON3 := Lib.hid b2
    have P3 := Lib.hid (hp3.trans P1.out)
    have M3 := Lib.hid (M2.out.trans mv3)
    have r3 := (mv3.fr.row hlt2 nw1).trans r2
    have L3 := Lib.hid ((mv3.fr.liv hlt2 nw1).trans L2.out)
    have NW3 := Lib.hid (show ¬ p3.foot wb from fun e => (mv3.new wb e).elim nw1 (fun h => by omega))
    have hlt3 := Nat.lt_of_lt_of_le hlt2 mv3.fr.size
    have QL := Lib.hid (show Q.length ≤ 16384 by
      have h1 := b2.live.lies.ar.sum
      have h2 := sumN_ge Q
      have h3 := areaL_len b2.live.lies.arfit
      have h4 := b2.live.lies.n
      rw [vis_len] at h4
      have := b2.d.ok.n1
      omega)
    have BB := Lib.hid (show wb ≠ bl ∧ wb ≠ bm ∧ w.heap.size ≤ bl ∧ w.heap.size ≤ bm from ⟨by omega, by omega, by have := M2.out.fr.size; omega, by have := M2.out.fr.size; omega⟩)
    obtain ⟨S3, hS3⟩ : ∃ S3, (S2.oDone s hd).2 = S3 := ⟨_, rfl⟩
    obtain ⟨V3, hV3⟩ : ∃ V3, (⟨S2.oHead hd, s, S2.oSize, (S2.oRead hd).2, (S2.oRead hd).1.length, false⟩ : LogV) = V3 := ⟨_, rfl⟩
    have FA := Lib.hid (And.intro a1 (And.intro a2 a3))
    rw [hS3] at ST3 ON3 FA
    rw [hV3] at ON3 LG3
    clear hp3 st3 mv3 rs3 rff lg3 a1 a2 a3 b1 b2 b3 b4 hbl hbm OP hS3 hV3 r2
    go_wp2_with fail
    have OF := Lib.hid (show Calls Try.prog 24 #[.pointer (some ⟨p.d, 0, none⟩)] w3 fun e w' => e = .returned (.bool false) ∧ w3 = w' by
      rw [← P3.out, ← ON3.out.off]; exact off_rep w3 p3 S3 ST3.out.rep)
    refine OF.out.mono ?_
    rintro e w' ⟨rfl, rfl⟩
    go_wp2_with fail
    have PL4 := Lib.hid (show Calls Try.prog 32 #[.pointer (some ⟨p.d, 0, none⟩), .int .i64 (-1)] w3 fun e w' => e = .returned (.int .i64 (S3.plan (-1)).1) ∧ DiskRep w' p3 (S3.plan (-1)).2 ∧ Fr (· = p3.d) w3 w' by
      rw [← P3.out]; exact plan_rep w3 p3 S3 ST3.out.rep (-1) (by omega))
    refine PL4.out.mono ?_
    rintro e w4 ⟨rfl, rep4, f4⟩
    have E4 : (S3.plan (-1)).2 = { S3 with pl := false, left := 0 } := by
      unfold DS.plan
      rw [if_neg (by rw [ON3.out.off]; simp)]
      rfl
    have ON4 := Lib.hid (ON3.out.plan (-1) rep4.ok)
    have FA4 := Lib.hid (show (S3.plan (-1)).2.data.length = S3.data.length ∧ (S3.plan (-1)).2.wr = S3.wr ∧ (S3.plan (-1)).2.pl = false by rw [E4]; exact ⟨rfl, rfl, rfl⟩)
    obtain ⟨S4, hS4⟩ : ∃ S4, (S3.plan (-1)).2 = S4 := ⟨_, rfl⟩
    rw [hS4] at rep4 ON4 FA4
    have ST4 := Lib.hid (show St w0 w4 p3 S4 from ⟨ST3.out.fr.trans f4 (fun i hi e => by have := ST3.out.foot i (.inl e); omega), rep4, ST3.out.foot⟩)
    have F4 := Lib.hid f4
    have hf4 : ¬ wb = p3.d := fun e => NW3.out (.inl e)
    have r4 := (f4.row hlt3 hf4).trans r3
    have L4 := Lib.hid ((f4.liv hlt3 hf4).trans L3.out)
    have hlt4 := Nat.lt_of_lt_of_le hlt3 f4.size
    have NF := Lib.hid (show ∀ j, j < w.heap.size → ¬ p.foot j → ¬ p3.foot j from fun j hj hn e => (M3.out.new j e).elim hn (fun h => by omega))
    have RR4 := Lib.hid ((H.out.rl.keep M3.out.fr (fun j hj => (H.out.rf j hj).1)).keep f4 (fun j hj e => NF.out j (H.out.rl.lt hj) (H.out.rf j hj).1 (.inl e)))
    have MM4 := Lib.hid ((H.out.ml.keep M3.out.fr (fun j hj => (H.out.mf j hj).1)).keep f4 (fun j hj e => NF.out j (H.out.ml.lt hj) (H.out.mf j hj).1 (.inl e)))
    have QQ4 := Lib.hid (RS3.out.keep f4 (fun j hj e => (RFF.out j hj).1 (.inl e)))
    have LG4 := Lib.hid (LG3.out.keep (p' := p3) f4 rfl (fun e => LG3.out.nb (.inl e)) (fun e => LG3.out.nm (.inl e)) (fun k hk => .inl hk))
    clear E4 hS4 rep4 f4 r3 PL4 OF
    go_wp2_with fail
    have RL := Lib.hid (show R.length ≤ 16384 ∨ 16384 < R.length by omega)
    obtain ⟨av, nv, cv, rfl⟩ : ∃ a n c, vrec = .slice a n c := by obtain ⟨a, c, e⟩ := QQ4.out.list.shape; exact ⟨a, _, c, e⟩
    refine (same_any w4 _ _ Q R QQ4.out.list RR4.out.list (by have := QL.out; omega)).mono ?_
    rintro e w5 ⟨rfl, f5⟩
    have r5 := (f5.row hlt4 (fun h => h)).trans r4
    have F5 := Lib.hid f5
    have l5 := (f5.liv hlt4 (fun h => h)).trans L4.out
    have hlt5 := Nat.lt_of_lt_of_le hlt4 f5.size
    clear f5 r4 RL
    have FIN := Lib.hid (show ∀ (W : World) vr' us', Fr (fun j => j = wb) w5 W → rowOf W wb = #[.pointer (some ⟨p.d, 0, none⟩), .pointer (some ⟨bl, 0, none⟩), .int .i64 sz, vr', .slice am nm cm, .bool false, .bool false] → live W wb = true → RefL w4 vr' us' Q → (∀ j, recsFoot vr' us' j → j < w.heap.size ∧ ¬ p.foot j ∧ j ≠ wb) → (∀ b ∈ Q, b.length ≤ 65536) → Open1 w0 W wb (k + 2) from fun W vr' us' fW hr hl hrl hrf hqb => by
      have fA := (F5.out.mono (fun _ _ h => h.elim)).trans fW (fun _ _ h => h)
      have hw4 := F4.out.size
      have hw3 := M3.out.fr.size
      refine ⟨p3, S4, bl, bm, V3, _, vr', .slice am nm cm, us', um, Q, alt, ⟨⟨ST4.out.calm fA (fun j e => ⟨by have := H.out.wwb; omega, fun hj => NW3.out (e ▸ hj)⟩), ?_, hl, NW3.out, H.out.wwb, hrl.keep fA (fun j hj e => (hrf j hj).2.2 e), MM4.out.keep fA (fun j hj e => (H.out.mf j hj).2 e), fun j hj => ⟨NF.out j (hrf j hj).1 (hrf j hj).2.1, (hrf j hj).2.2⟩, fun j hj => ⟨NF.out j (H.out.ml.lt hj) (H.out.mf j hj).1, (H.out.mf j hj).2⟩, (ON4.out.mono (Nat.le_succ _)).dead _ _, hqb, H.out.hA, by have := ON4.out.used; omega⟩, ?_, ON4.out.mono (Nat.le_succ _), ?_, fun e => BB.out.1 e.symm, fun e => BB.out.2.1 e.symm, fun j hj e => ?_, fun j hj e => ?_⟩, FA4.out.2.2⟩
      · rw [hr, P3.out, oSize_same (T := S4) (S := S) (by rw [FA4.out.1, FA.out.1, CR2.out.len]), HSZ.out]
      · have := LG4.out.keep (p' := p3) fA rfl (fun e => BB.out.1 e.symm) (fun e => BB.out.2.1 e.symm) (fun k hk => .inl hk)
        rwa [FA4.out.1, FA.out.1]
      · have := BB.out.2.2.1; have := H.out.st.fr.size; omega
      · have := (hrf j hj).1; have := BB.out.2.2.1; omega
      · have := H.out.ml.lt hj; have := BB.out.2.2.1; omega)
    by_cases hQR : Q = R
    · have QR := Lib.hid hQR
      rw [decide_eq_true hQR]
      clear hQR
      go_wp2
      go_ret
      refine ⟨rfl, FIN.out _ (.slice ar nr cr) us ((Fr.refl _ w5).setRow _ _ (fun _ => rfl)) (rowOf_setRow_same _ _ _ l5) (by rw [live_setRow]; exact l5) (by rw [QR.out]; exact RR4.out) (fun j hj => ⟨H.out.rl.lt hj, H.out.rf j hj⟩) (by rw [QR.out]; exact H.out.hR)⟩
    · obtain ⟨hmet, hal⟩ := HQ.out.resolve_left hQR
      have QA := Lib.hid hal
      rw [decide_eq_false hQR]
      subst hmet
      clear hQR hal
      go_wp2_with fail
      refine (same_any w5 _ _ Q alt (QQ4.out.list.keep0 F5.out) (MM4.out.list.keep0 F5.out) (by have := QL.out; omega)).mono ?_
      rintro e w6 ⟨rfl, f6⟩
      rw [decide_eq_true QA.out]
      have r6 := (f6.row hlt5 (fun h => h)).trans r5
      have l6 := (f6.liv hlt5 (fun h => h)).trans l5
      have F6 := Lib.hid f6
      clear f6
      go_wp2
      go_ret
      refine ⟨rfl, FIN.out _ (.slice am nm cm) um ((F6.out.mono (fun _ _ h => h.elim)).setRow _ _ (fun _ => rfl)) (rowOf_setRow_same _ _ _ l6) (by rw [live_setRow]; exact l6) (by rw [QA.out]; exact MM4.out) (fun j hj => ⟨H.out.ml.lt hj, H.out.mf j hj⟩) (by rw [QA.out]; exact H.out.hA)⟩

/-! ### The laws' world of package log: does. -/
section
variable {w0 w : World} {wb : Nat} {p : DP} {S : DS} {bl bm : Nat} {V : LogV} {cnt : Nat → Nat} {vr vm : Value} {us um : List Value} {R alt : List (List UInt8)} {k : Nat}

theorem CI.mono {met over : Bool} {k' : Nat} (h : CI w0 w wb p S bl vr vm us um R alt met over k) (hk : k ≤ k') : CI w0 w wb p S bl vr vm us um R alt met over k' :=
  ⟨h.st, h.row, h.liv, h.nwb, h.wwb, h.rl, h.ml, h.rf, h.mf, h.dead.mono hk, h.hR, h.hA, h.hs⟩
theorem WI.mono {k' : Nat} (h : WI w0 w wb p S bl bm V cnt vr vm us um R alt k) (hk : k ≤ k') : WI w0 w wb p S bl bm V cnt vr vm us um R alt k' :=
  ⟨h.ci.mono hk, h.log, h.on.mono hk, h.wbl, h.nbl, h.nbm, h.rf2, h.mf2⟩
theorem WD.mono {k' : Nat} (h : WD w0 w wb p S bl bm V cnt vr vm us um R alt k) (hk : k ≤ k') : WD w0 w wb p S bl bm V cnt vr vm us um R alt k' :=
  ⟨h.ci.mono hk, h.log, h.vo, h.off, h.wbl, h.nbl, h.nbm, h.rf2, h.mf2⟩

/-- Only a disk's struct has turned. -/
theorem CI.disk {met over : Bool} {w' : World} {S' : DS} (h : CI w0 w wb p S bl vr vm us um R alt met over k) (f : Fr (· = p.d) w w') (rep : DiskRep w' p S') (hd : S'.data.length = S.data.length) (dead : DeadS S' R alt met k) : CI w0 w' wb p S' bl vr vm us um R alt met over k := by
  have hlt := live_lt h.liv
  have nd : ¬ wb = p.d := fun e => h.nwb (.inl e)
  refine ⟨⟨h.st.fr.trans f (fun i hi e => by have := h.st.foot i (.inl e); omega), rep, h.st.foot⟩, by rw [f.row hlt nd, oSize_same hd]; exact h.row, by rw [f.liv hlt nd]; exact h.liv, h.nwb, h.wwb, h.rl.keep f (fun j hj e => (h.rf j hj).1 (.inl e)), h.ml.keep f (fun j hj e => (h.mf j hj).1 (.inl e)), h.rf, h.mf, dead, h.hR, h.hA, by rw [oSize_same hd]; exact h.hs⟩

theorem plan_len (S : DS) (n : Int) : (S.plan n).2.data.length = S.data.length ∧ (S.plan n).2.wr = S.wr := by
  unfold DS.plan
  split <;> exact ⟨rfl, rfl⟩

theorem WI.plan {w' : World} (h : WI w0 w wb p S bl bm V cnt vr vm us um R alt k) (n : Int) (f : Fr (· = p.d) w w') (rep : DiskRep w' p (S.plan n).2) : WI w0 w' wb p (S.plan n).2 bl bm V cnt vr vm us um R alt k := by
  have on := h.on.plan n rep.ok
  have hl := (plan_len S n).1
  refine ⟨h.ci.disk f rep hl (on.dead _ _), ?_, on, h.wbl, h.nbl, h.nbm, h.rf2, h.mf2⟩
  rw [hl]
  exact h.log.keep f rfl (fun e => h.log.nb (.inl e)) (fun e => h.log.nm (.inl e)) (fun _ h => .inl h)
theorem WD.plan {w' : World} (h : WD w0 w wb p S bl bm V cnt vr vm us um R alt k) (n : Int) (f : Fr (· = p.d) w w') (rep : DiskRep w' p (S.plan n).2) : WD w0 w' wb p (S.plan n).2 bl bm V cnt vr vm us um R alt k := by
  have e : (S.plan n).2 = S := by unfold DS.plan; rw [if_pos h.off]
  rw [e] at rep ⊢
  refine ⟨h.ci.disk f rep rfl h.ci.dead, ?_, h.vo, h.off, h.wbl, h.nbl, h.nbm, h.rf2, h.mf2⟩
  exact h.log.keep f rfl (fun e => h.log.nb (.inl e)) (fun e => h.log.nm (.inl e)) (fun _ h => .inl h)
end

/-- The laws' world between operations. -/
def LState (w0 w : World) (wb k : Nat) : Prop := ∃ p S bl bm V cnt vr vm us um R alt, WI w0 w wb p S bl bm V cnt vr vm us um R alt k ∨ WD w0 w wb p S bl bm V cnt vr vm us um R alt k

theorem LState.mono {w0 w : World} {wb k k' : Nat} (h : LState w0 w wb k) (hk : k ≤ k') : LState w0 w wb k' := by
  obtain ⟨p, S, bl, bm, V, cnt, vr, vm, us, um, R, alt, h⟩ := h
  exact ⟨p, S, bl, bm, V, cnt, vr, vm, us, um, R, alt, h.imp (·.mono hk) (·.mono hk)⟩
theorem Open1.state {w0 w : World} {wb k : Nat} (h : Open1 w0 w wb k) : LState w0 w wb k := by
  obtain ⟨p, S, bl, bm, V, cnt, vr, vm, us, um, R, alt, h, -⟩ := h
  exact ⟨p, S, bl, bm, V, cnt, vr, vm, us, um, R, alt, .inl h⟩
theorem Wrote.state {w0 w' : World} {wb : Nat} {p : DP} {S : DS} {over : Bool} {k q : Nat} (h : Wrote w0 w' wb p S over k q) : LState w0 w' wb (k + 1) := by
  obtain ⟨p', S', bl, bm, V, cnt, vr, vm, us, um, R, alt, h1, -⟩ := h
  exact ⟨p', S', bl, bm, V, cnt, vr, vm, us, um, R, alt, h1.imp id (·.2)⟩

/-- What each state of the laws' world has in common. -/
theorem LState.ci {w0 w : World} {wb k : Nat} (h : LState w0 w wb k) : ∃ p S bl vr vm us um R alt o, CI w0 w wb p S bl vr vm us um R alt o o k := by
  obtain ⟨p, S, bl, bm, V, cnt, vr, vm, us, um, R, alt, h | h⟩ := h
  · exact ⟨_, _, _, _, _, _, _, _, _, _, h.ci⟩
  · exact ⟨_, _, _, _, _, _, _, _, _, _, h.ci⟩

theorem write_state {w0 w : World} {wb k : Nat} (h : LState w0 w wb k) (hk : k ≤ 8388608) (kind on : Int) (a : Option Addr) (c : Nat) (b : List UInt8) (ak : Option Addr) (nk ck : Nat) (hb : BytesAt w0 (.slice a b.length c) b) (hcap : b.length ≤ c) (hb2 : b.length ≤ 140737488355328) :
    Calls Try.prog 58 #[.pointer (some ⟨wb, 0, none⟩), .agg #[.int .i64 kind, .int .i64 on, .slice a b.length c, .slice ak nk ck]] w fun e w' => e = .returned (.bool true) ∧ LState w0 w' wb (k + 1) := by
  obtain ⟨p, S, bl, bm, V, cnt, vr, vm, us, um, R, alt, h | h⟩ := h
  · exact (write_on h hk kind on a c b ak nk ck hb hcap hb2).mono fun e w' ⟨h1, h2⟩ => ⟨h1, h2.state⟩
  · exact (write_dead h kind on a c b ak nk ck hb hb2).mono fun e w' ⟨h1, h2⟩ => ⟨h1, h2.state⟩

theorem crash_state {w0 w : World} {wb k : Nat} (h : LState w0 w wb k) (hk : k ≤ 8388600) (vk : Value) (l : List Int) (hkp : IntsAt w0 vk l) (n : Int) (hn : n ≤ 9223372036854775807) :
    Calls Try.prog 57 #[.pointer (some ⟨wb, 0, none⟩), vk, .int .i64 n] w fun e w' => e = .returned (.bool true) ∧ Open1 w0 w' wb (k + 2) := by
  obtain ⟨p, S, bl, vr, vm, us, um, R, alt, o, h⟩ := h.ci
  exact crash_full w0 w wb p S bl vr vm us um R alt o o k h hk vk l hkp n hn

theorem calm_state {w0 w : World} {wb k : Nat} (h : LState w0 w wb k) (hk : k ≤ 8388600) :
    Calls Try.prog 57 #[.pointer (some ⟨wb, 0, none⟩), .slice none 0 0, .int .i64 (-1)] w fun e w' => e = .returned (.bool true) ∧ Open1 w0 w' wb (k + 1) := by
  obtain ⟨p, S, bl, vr, vm, us, um, R, alt, o, h⟩ := h.ci
  exact (crash_calm w0 w wb p S bl vr vm us um R alt o o k h (by omega) (.slice none 0 0) [] ⟨none, 0, rfl, by simp, .inl rfl⟩ (-1) (by omega) (by omega)).mono fun e w' ⟨h1, h2⟩ => ⟨h1, h2.open1⟩

theorem plan_state {w0 w : World} {wb k : Nat} (h : LState w0 w wb k) (pd : Nat) (hpd : ∃ c1 c2 c3 c4 c5 c6, rowOf w wb = #[.pointer (some ⟨pd, 0, none⟩), c1, c2, c3, c4, c5, c6]) (n : Int) (hn : n ≤ 9223372036854775807) :
    Calls Try.prog 32 #[.pointer (some ⟨pd, 0, none⟩), .int .i64 n] w fun e w' => ∃ q, e = .returned (.int .i64 q) ∧ LState w0 w' wb k ∧ Fr (fun j => j = pd) w w' := by
  obtain ⟨p, S, bl, bm, V, cnt, vr, vm, us, um, R, alt, h⟩ := h
  have hr : rowOf w wb = #[.pointer (some ⟨p.d, 0, none⟩), .pointer (some ⟨bl, 0, none⟩), .int .i64 S.oSize, vr, vm, .bool false, .bool false] ∨ rowOf w wb = #[.pointer (some ⟨p.d, 0, none⟩), .pointer (some ⟨bl, 0, none⟩), .int .i64 S.oSize, vr, vm, .bool true, .bool true] := h.imp (·.ci.row) (·.ci.row)
  obtain ⟨c1, c2, c3, c4, c5, c6, hpd⟩ := hpd
  obtain rfl : p.d = pd := by
    rcases hr with hr | hr <;> (rw [hpd] at hr; simp at hr; exact hr.1.symm)
  have rep : DiskRep w p S := by
    rcases h with h | h
    · exact h.ci.st.rep
    · exact h.ci.st.rep
  refine (plan_rep w p S rep n hn).mono ?_
  rintro e w' ⟨rfl, r, f⟩
  exact ⟨_, rfl, ⟨p, _, bl, bm, V, cnt, vr, vm, us, um, R, alt, h.imp (·.plan n f r) (·.plan n f r)⟩, f⟩

set_option maxHeartbeats 400000 in
theorem room_dead (w : World) (bl d : Nat) (h : HeadV) (slot size used records bm : Nat) (hrow : rowOf w bl = logRow d h slot size used records true bm) :
    Calls Try.prog 53 #[.pointer (some ⟨bl, 0, none⟩)] w fun e w' => e = .returned (.int .i64 0) ∧ w = w' := by
  have H := Lib.hid hrow
  unfold logRow at hrow
  go_enter Try.func53, Try.ntmps53
  go_wp2_with (go_at_call 89; refine (logNone_ok _ _ _ _ _ _ _ _ _ _ H.out).mono ?_; rintro e w' ⟨rfl, rfl⟩)
  go_ret
  exact ⟨rfl, rfl⟩

set_option maxRecDepth 20000 in
set_option maxHeartbeats 2000000 in
/-- Look, when the power went. -/
theorem look_dead {w0 w : World} {wb : Nat} {p : DP} {S : DS} {bl bm : Nat} {V : LogV} {cnt : Nat → Nat} {vr vm : Value} {us um : List Value} {R alt : List (List UInt8)} {k : Nat} (H : WD w0 w wb p S bl bm V cnt vr vm us um R alt k) (kind on : Int) (hkind : kind < 0 ∨ 3 < kind) (ad : Option Addr) (nd cd : Nat) (ak : Option Addr) (nk ck : Nat) :
    Calls Try.prog 56 #[.pointer (some ⟨wb, 0, none⟩), .agg #[.int .i64 kind, .int .i64 on, .slice ad nd cd, .slice ak nk ck]] w fun e w' => e = .returned (.bool true) ∧ Fr (fun _ => False) w w' := by
  have HH := Lib.hid H
  have hrow := H.ci.row
  have hlt := live_lt H.ci.liv
  have ho := H.vo
  have k0 : (kind == 0) = false := by simp; omega
  have k1 : (kind == 1) = false := by simp; omega
  have k2 : (kind == 2) = false := by simp; omega
  have k3 : (kind == 3) = false := by simp; omega
  have RM := Lib.hid (show ∀ W, Fr (fun _ => False) w W → Calls Try.prog 53 #[.pointer (some ⟨bl, 0, none⟩)] W fun e w' => e = .returned (.int .i64 0) ∧ Fr (fun _ => False) w w' from fun W f => by
    have L := HH.out.log.keep (p' := p) f rfl (fun h => h) (fun h => h) (fun _ h => .inl h)
    have hr := L.row
    rw [ho] at hr
    refine (room_dead W bl p.d V.h V.slot V.size V.used V.records bm hr).mono ?_
    rintro e w' ⟨rfl, rfl⟩
    exact ⟨rfl, f⟩)
  have CT := Lib.hid (show ∀ W, Fr (fun _ => False) w W → Calls Try.prog 54 #[.pointer (some ⟨bl, 0, none⟩)] W fun e w' => e = .returned (.int .i64 0) ∧ W = w' from fun W f => by
    have L := HH.out.log.keep (p' := p) f rfl (fun h => h) (fun h => h) (fun _ h => .inl h)
    have hr := L.row
    rw [ho] at hr
    refine (count_any W bl p.d V.h V.slot V.size V.used V.records true bm hr).mono ?_
    rintro e w' ⟨rfl, rfl⟩
    exact ⟨rfl, rfl⟩)
  obtain ⟨ar, nr, cr, rfl⟩ : ∃ a n c, vr = .slice a n c := by obtain ⟨a, c, e⟩ := H.ci.rl.list.shape; exact ⟨a, _, c, e⟩
  obtain ⟨am, nm, cm, rfl⟩ : ∃ a n c, vm = .slice a n c := by obtain ⟨a, c, e⟩ := H.ci.ml.list.shape; exact ⟨a, _, c, e⟩
  obtain ⟨sz, hsz⟩ : ∃ sz, S.oSize = sz := ⟨_, rfl⟩
  rw [hsz] at hrow
  clear H ho hsz hkind
  go_enter Try.func56, Try.ntmps56
  go_wp2_with fail
  obtain ⟨W1, hW1⟩ : ∃ W1, w.alloc (.cells #[.int .i64 kind, .int .i64 on, .slice ad nd cd, .slice ak nk ck] 102) = W1 := ⟨_, rfl⟩
  have F1 := Lib.hid (show Fr (fun _ => False) w W1 by rw [← hW1]; exact (Fr.refl _ w).alloc _)
  have r1 := (F1.out.row hlt (fun h => h)).trans hrow
  have hlt1 := Nat.lt_of_lt_of_le hlt F1.out.size
  rw [hW1]
  clear hW1
  refine (RM.out _ F1.out).mono ?_
  rintro e w2 ⟨rfl, f2⟩
  have F2 := Lib.hid f2
  have r2 := (f2.row hlt (fun h => h)).trans hrow
  clear f2
  go_wp2_with fail
  refine (CT.out _ F2.out).mono ?_
  rintro e w3 ⟨rfl, rfl⟩
  go_wp2
  go_ret
  exact ⟨rfl, F2.out⟩

theorem Fr.lstate {w0 w w' : World} {wb k : Nat} (h : LState w0 w wb k) (f : Fr (fun _ => False) w w') : LState w0 w' wb k := by
  obtain ⟨p, S, bl, bm, V, cnt, vr, vm, us, um, R, alt, h⟩ := h
  have key : ∀ {o : Bool}, CI w0 w wb p S bl vr vm us um R alt o o k → CI w0 w' wb p S bl vr vm us um R alt o o k := fun h =>
    ⟨h.st.calm f (fun _ h => h.elim), by rw [f.row (live_lt h.liv) (fun h => h)]; exact h.row, by rw [f.liv (live_lt h.liv) (fun h => h)]; exact h.liv, h.nwb, h.wwb, h.rl.keep f (fun _ _ h => h), h.ml.keep f (fun _ _ h => h), h.rf, h.mf, h.dead, h.hR, h.hA, h.hs⟩
  refine ⟨p, S, bl, bm, V, cnt, vr, vm, us, um, R, alt, h.imp (fun h => ?_) (fun h => ?_)⟩
  · exact ⟨key h.ci, h.log.keep f rfl (fun h => h) (fun h => h) (fun _ h => .inl h), h.on, h.wbl, h.nbl, h.nbm, h.rf2, h.mf2⟩
  · exact ⟨key h.ci, h.log.keep f rfl (fun h => h) (fun h => h) (fun _ h => .inl h), h.vo, h.off, h.wbl, h.nbl, h.nbm, h.rf2, h.mf2⟩

set_option maxRecDepth 20000 in
set_option maxHeartbeats 4000000 in
theorem does_any {w0 w : World} {wb k : Nat} (h : LState w0 w wb k) (hk : k ≤ 8388600) (cs : Array Value) (o : LOp) (hop : LOpAt w0 cs o 140737488355328) :
    Calls Try.prog 56 #[.pointer (some ⟨wb, 0, none⟩), .agg cs] w fun e w' => e = .returned (.bool true) ∧ LState w0 w' wb (k + 2) := by
  obtain ⟨a, c, ak, ck, rfl, hb, hcap, hb2, hkp, hn1, hn2⟩ := hop
  obtain ⟨kind, on, b, l⟩ := o
  simp only at *
  have HB := Lib.hid (And.intro hb (And.intro hcap (And.intro hb2 (And.intro hkp (And.intro hn1 hn2)))))
  obtain ⟨q, hq⟩ : ∃ q, b.length = q := ⟨_, rfl⟩
  have HQ := Lib.hid hq
  obtain ⟨ql, hql⟩ : ∃ q, l.length = q := ⟨_, rfl⟩
  have HQL := Lib.hid hql
  rw [hq, hql]
  by_cases hkind : kind < 0 ∨ 3 < kind
  · obtain ⟨p, S, bl, bm, V, cnt, vr, vm, us, um, R, alt, h1 | h1⟩ := h
    · refine (look_on h1 kind on hkind a q c ak ql ck).mono ?_
      rintro e w' ⟨rfl, f⟩
      exact ⟨rfl, (Fr.lstate ⟨p, S, bl, bm, V, cnt, vr, vm, us, um, R, alt, .inl h1⟩ f).mono (by omega)⟩
    · refine (look_dead h1 kind on hkind a q c ak ql ck).mono ?_
      rintro e w' ⟨rfl, f⟩
      exact ⟨rfl, (Fr.lstate ⟨p, S, bl, bm, V, cnt, vr, vm, us, um, R, alt, .inr h1⟩ f).mono (by omega)⟩
  · have hs : ∃ pd c1 c2 c3 c4 c5 c6, rowOf w wb = #[.pointer (some ⟨pd, 0, none⟩), c1, c2, c3, c4, c5, c6] ∧ wb < w.heap.size ∧ wb ≠ pd ∧ pd < w.heap.size := by
      obtain ⟨p, S, bl, vr, vm, us, um, R, alt, o, h⟩ := h.ci
      exact ⟨_, _, _, _, _, _, _, h.row, live_lt h.liv, fun e => h.nwb (.inl e), h.st.lt (.inl rfl)⟩
    obtain ⟨pd, c1, c2, c3, c4, c5, c6, hrow, hlt, hpd, hpd2⟩ := hs
    have HL := Lib.hid h
    have HROW := Lib.hid hrow
    obtain ⟨W1, hW1⟩ : ∃ W1, w.alloc (.cells #[.int .i64 kind, .int .i64 on, .slice a q c, .slice ak ql ck] 102) = W1 := ⟨_, rfl⟩
    obtain ⟨b3, hb3⟩ : ∃ b, w.heap.size = b := ⟨_, rfl⟩
    have F1 := Lib.hid (show Fr (fun _ => False) w W1 by rw [← hW1]; exact (Fr.refl _ w).alloc _)
    have r3 : rowOf W1 b3 = #[.int .i64 kind, .int .i64 on, .slice a q c, .slice ak ql ck] := by rw [← hW1, ← hb3]; exact rowOf_alloc_at _ _ _ _ _ rfl
    have lb3 : b3 < W1.heap.size := by rw [← hW1, ← hb3]; simp
    have hr1 := (F1.out.row hlt (fun h => h)).trans hrow
    have L1 := Lib.hid (Fr.lstate h F1.out)
    have HW := Lib.hid (And.intro hW1 hb3)
    have WRT := Lib.hid (show ∀ kd, Calls Try.prog 58 #[.pointer (some ⟨wb, 0, none⟩), .agg #[.int .i64 kd, .int .i64 on, .slice a q c, .slice ak ql ck]] W1 fun e w' => e = .returned (.bool true) ∧ LState w0 w' wb (k + 1) from fun kd => by
      rw [← HQ.out]; exact write_state L1.out (by omega) kd on a c b ak ql ck HB.out.1 HB.out.2.1 HB.out.2.2.1)
    have CRS := Lib.hid (show Calls Try.prog 57 #[.pointer (some ⟨wb, 0, none⟩), .slice ak ql ck, .int .i64 on] W1 fun e w' => e = .returned (.bool true) ∧ Open1 w0 w' wb (k + 2) by
      rw [← HQL.out]; exact crash_state L1.out hk _ l HB.out.2.2.2.1 on HB.out.2.2.2.2.2)
    have PLN := Lib.hid (show ∀ W, Fr (fun _ => False) W1 W → Calls Try.prog 32 #[.pointer (some ⟨pd, 0, none⟩), .int .i64 on] W fun e w' => ∃ q, e = .returned (.int .i64 q) ∧ LState w0 w' wb k ∧ Fr (fun j => j = pd) W w' from fun W f =>
      plan_state (Fr.lstate L1.out f) pd ⟨c1, c2, c3, c4, c5, c6, (f.row (Nat.lt_of_lt_of_le hlt F1.out.size) (fun h => h)).trans ((F1.out.row hlt (fun h => h)).trans HROW.out)⟩ on HB.out.2.2.2.2.2)
    have lt1 := Nat.lt_of_lt_of_le hlt F1.out.size
    have nb3 : ¬ b3 = pd := by rw [← hb3]; omega
    clear h hrow hW1 hb3 hb hcap hb2 hkp hn1 hn2 hq hql
    rcases (show kind = 0 ∨ kind = 1 ∨ kind = 2 ∨ kind = 3 by omega) with rfl | rfl | rfl | rfl
    · go_enter Try.func56, Try.ntmps56
      go_wp2_with fail
      rw [HW.out.1]
      refine (WRT.out 0).mono ?_
      rintro e w2 ⟨rfl, h2⟩
      have H2 := Lib.hid (h2.mono (Nat.le_succ _))
      clear h2
      go_wp2
      go_ret
      exact ⟨rfl, H2.out⟩
    · go_enter Try.func56, Try.ntmps56
      go_wp2_with fail
      rw [HW.out.1]
      refine (WRT.out 1).mono ?_
      rintro e w2 ⟨rfl, h2⟩
      have H2 := Lib.hid (h2.mono (Nat.le_succ _))
      clear h2
      go_wp2
      go_ret
      exact ⟨rfl, H2.out⟩
    · go_enter Try.func56, Try.ntmps56
      go_upto_region 6 with fail
      rw [HW.out.1]
      rw [HW.out.2]
      go_region_held3 (fun w' => rowOf w' wb = #[.pointer (some ⟨pd, 0, none⟩), c1, c2, c3, c4, c5, c6] ∧ rowOf w' b3 = #[.int .i64 2, .int .i64 on, .slice a q c, .slice ak ql ck])
        (first | assumption | (refine ⟨?_, ?_⟩ <;> first | assumption | (rw [rowOf_drew]; assumption)))
        ((go_simp; go_at_call 32; refine (PLN.out _ (Fr.refl _ _).drew).mono ?_; rintro e w2 ⟨q2, rfl, h2, f2⟩; have H2 := Lib.hid (h2.mono (show k ≤ k + 2 by omega)); have kw2 := (f2.row (g := wb) lt1 hpd).trans ((rowOf_drew _ _).trans hr1); have kb2 := (f2.row (g := b3) lb3 nb3).trans ((rowOf_drew _ _).trans r3); clear h2 f2))
      all_goals
        go_wp2
        go_ret
        exact ⟨rfl, H2.out⟩
    · go_enter Try.func56, Try.ntmps56
      go_wp2_with fail
      rw [HW.out.1]
      refine CRS.out.mono ?_
      rintro e w2 ⟨rfl, h2⟩
      have H2 := Lib.hid h2.state
      clear h2
      go_wp2
      go_ret
      exact ⟨rfl, H2.out⟩

/-! ### LogKeeps: the walk. -/
theorem LState.fr {w0 w : World} {wb k : Nat} (h : LState w0 w wb k) : Fr (fun _ => False) w0 w := by
  obtain ⟨p, S, bl, vr, vm, us, um, R, alt, o, h⟩ := h.ci
  exact h.st.fr

/-- One operation of a script, as its cells lie. -/
theorem LOpsAt.op {w : World} {a : Option Addr} {L c : Nat} {l : List LOp} {B : Nat} (h : LOpsAt w (.slice a L c) l B) {k : Nat} (hk : k < l.length) :
    ∃ g off d n ad q cd ak ql ck, a = some ⟨g, off, none⟩ ∧ (rowOf w g)[off + k * 4]? = some (.int .i64 d) ∧ (rowOf w g)[off + k * 4 + 1]? = some (.int .i64 n) ∧ (rowOf w g)[off + k * 4 + 2]? = some (.slice ad q cd) ∧ (rowOf w g)[off + k * 4 + 3]? = some (.slice ak ql ck) ∧
      d = l[k].d ∧ n = l[k].n ∧ q = l[k].data.length ∧ LOpAt w #[.int .i64 d, .int .i64 n, .slice ad q cd, .slice ak ql ck] l[k] B := by
  obtain ⟨a', c', e, h | ⟨g, off, rfl, h⟩⟩ := h
  · rw [h] at hk; simp at hk
  simp only [Value.slice.injEq] at e
  obtain ⟨h1, h2⟩ := h k hk
  have h3 := h2
  obtain ⟨ad, cd, ak, ck, e2, -⟩ := h3
  have g0 := cut_get (cur := rowOf w g) (off := off + k * 4) (n := 4) (by omega) 0 (by omega)
  have g1 := cut_get (cur := rowOf w g) (off := off + k * 4) (n := 4) (by omega) 1 (by omega)
  have g2 := cut_get (cur := rowOf w g) (off := off + k * 4) (n := 4) (by omega) 2 (by omega)
  have g3 := cut_get (cur := rowOf w g) (off := off + k * 4) (n := 4) (by omega) 3 (by omega)
  rw [e2] at g0 g1 g2 g3
  rw [e2] at h2
  refine ⟨g, off, _, _, ad, _, cd, ak, _, ck, e.1, ?_, ?_, ?_, ?_, rfl, rfl, rfl, h2⟩
  · simpa using g0.symm
  · simpa using g1.symm
  · simpa using g2.symm
  · simpa using g3.symm

set_option maxRecDepth 20000 in
set_option maxHeartbeats 2000000 in
theorem keeps_none (w : World) (n : Int) (v : Value) (hb : Calls Try.prog 55 #[.int .i64 n] w fun e w' => e = .returned (.tuple #[.agg noWorld, .bool false, .bool true]) ∧ Fr (fun _ => False) w w') :
    Calls Try.prog 14 #[.int .i64 n, v] w fun e w' => e = .returned (.bool true) ∧ Below w.heap.size w w' := by
  have HB := Lib.hid hb
  clear hb
  go_enter Try.func14, Try.ntmps14
  go_wp2_with fail
  refine HB.out.mono ?_
  rintro e w1 ⟨rfl, f1⟩
  have F1 := Lib.hid f1
  unfold noWorld
  clear f1
  go_wp2_with fail
  refine (live_any _).mono ?_
  rintro e w3 ⟨rfl, rfl⟩
  go_wp2
  go_ret
  exact ⟨rfl, (F1.out.alloc _).below (Nat.le_refl _) (fun _ _ h => h)⟩

set_option maxRecDepth 20000 in
set_option maxHeartbeats 4000000 in
theorem keeps_ok (w : World) (n : Nat) (h6 : 6 ≤ n) (h2 : n ≤ 16384) (a : Option Addr) (L c : Nat) (l : List LOp) (hv : LOpsAt w (.slice a L c) l 140737488355328) (hl : l.length = L) (hA : L ≤ 1048576) :
    Calls Try.prog 14 #[.int .i64 n, .slice a L c] w fun e w' => e = .returned (.bool true) ∧ Below w.heap.size w w' := by
  have HV := Lib.hid hv
  have HL := Lib.hid hl
  clear hv hl
  go_enter Try.func14, Try.ntmps14
  go_wp2_with fail
  refine (begun_ok w n h6 h2).mono ?_
  rintro e w1 ⟨p, S, bl, bm, V, cnt, rfl, hbg⟩
  have O1 := Lib.hid hbg.world.state
  obtain ⟨W1, hW1⟩ : ∃ W1, w1.alloc (.cells #[.pointer (some ⟨p.d, 0, none⟩), .pointer (some ⟨bl, 0, none⟩), .int .i64 S.oSize, .slice none 0 0, .slice none 0 0, .bool false, .bool false] 98) = W1 := ⟨_, rfl⟩
  obtain ⟨wb, hwb⟩ : ∃ b, w1.heap.size = b := ⟨_, rfl⟩
  obtain ⟨sz, hsz⟩ : ∃ sz, S.oSize = sz := ⟨_, rfl⟩
  rw [hsz] at hW1 O1 ⊢
  rw [hW1, hwb] at O1
  have HW := Lib.hid (And.intro hW1 hwb)
  clear hbg hW1 hwb hsz
  go_wp2_with fail
  rw [HW.out.1, HW.out.2]
  refine (live_any _).mono ?_
  rintro e w3 ⟨rfl, rfl⟩
  go_wp2
  go_loopw [9, 26] (fun _ i wr => ∃ k : Nat, k ≤ L ∧ i = .int .i64 k ∧ Hid (LState w wr wb (1 + 2 * k))) (fun _ i _ => L - (intOf i).toNat)
  case atStart => exact ⟨0, Nat.zero_le _, rfl, O1⟩
  case round =>
    obtain ⟨k, hk, rfl, OK⟩ := hrel
    by_cases hlt : k < L
    · have hki : (k : Int) < (L : Int) := by omega
      obtain ⟨g, off, d, on, ad, q, cd, ak, ql, ck, rfl, c0, c1, c2, c3, -, -, -, hop⟩ := HV.out.op (k := k) (by rw [HL.out]; exact hlt)
      have HOP := Lib.hid hop
      have hg : g < w.heap.size := rowOf_lt (by obtain ⟨h, _⟩ := Array.getElem?_eq_some_iff.1 c0; omega)
      have er := OK.out.fr.row hg (fun h => h)
      rw [← er] at c0 c1 c2 c3
      have DW := Lib.hid (show ∀ W, LState w W wb (1 + 2 * k) → Calls Try.prog 56 #[.pointer (some ⟨wb, 0, none⟩), .agg #[.int .i64 d, .int .i64 on, .slice ad q cd, .slice ak ql ck]] W fun e w' => e = .returned (.bool true) ∧ LState w w' wb (1 + 2 * k + 2) from
        fun W h => does_any h (by omega) _ _ HOP.out)
      clear hop er
      go_wp2_with fail
      refine (DW.out _ (Fr.lstate OK.out ((Fr.refl (fun _ => False) wr).alloc _))).mono ?_
      rintro e w4 ⟨rfl, o4⟩
      have O4 := Lib.hid o4
      clear o4
      go_wp2
      go_roundw
      case rel => exact ⟨k + 1, by omega, by go_num, Lib.hid (by have := O4.out; rwa [show 1 + 2 * k + 2 = 1 + 2 * (k + 1) by omega] at this)⟩
      case measure => simp [intOf]; omega
    · obtain rfl : k = L := by omega
      go_wp2_with fail
      refine (calm_state OK.out (by omega)).mono ?_
      rintro e w4 ⟨rfl, o4⟩
      have O4 := Lib.hid o4
      clear o4
      go_wp2_with fail
      refine (crash_open O4.out (by omega)).mono ?_
      rintro e w5 ⟨rfl, o5⟩
      have O5 := Lib.hid o5
      clear o5
      go_wp2_with fail
      refine (look_open O5.out).mono ?_
      rintro e w6 ⟨rfl, f6⟩
      have F6 := Lib.hid (O5.out.fr.trans f6 (fun _ _ h => h))
      clear f6
      go_wp2
      go_ret
      exact ⟨rfl, F6.out.below (Nat.le_refl _) (fun _ _ h => h)⟩

theorem keeps_any (w : World) (n : Int) (a : Option Addr) (L c : Nat) (l : List LOp) (hv : LOpsAt w (.slice a L c) l 1048576) (hA : l.length ≤ 1048576) :
    Calls Try.prog 14 #[.int .i64 n, .slice a L c] w fun e w' => e = .returned (.bool true) ∧ Below w.heap.size w w' := by
  by_cases h1 : n < 1 ∨ 16384 < n
  · exact keeps_none w n _ (begun_bad w n h1)
  · obtain ⟨m, rfl⟩ : ∃ m : Nat, n = m := ⟨n.toNat, by omega⟩
    by_cases h6 : m < 6
    · exact keeps_none w _ _ (begun_small w m (by omega) h6)
    · have hl : l.length = L := by
        obtain ⟨a', c', e, -⟩ := hv
        simp only [Value.slice.injEq] at e; exact e.2.1.symm
      exact keeps_ok w m (by omega) (by omega) a L c l (hv.mono (by omega)) hl (by omega)

end Go.Proofs.Ytflnlpbcmcfblaa
