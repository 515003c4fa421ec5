/-
  Package log: write; turn.
-/
import Derived.Test.YtflnlpbcmcfblaaLookL
namespace Go.Proofs.Ytflnlpbcmcfblaa
open Go.RowKit

/-- Blocks written one behind the other, and a sync. -/
def DS.writeSeq (S : DS) (from_ : Int) : List (List UInt8) → Int × DS
  | [] => S.sync
  | b :: bs => if (S.write from_ b).1 ≠ 0 then S.write from_ b else DS.writeSeq (S.write from_ b).2 (from_ + 1) bs

theorem writeSeq_drop {S : DS} {fr : Int} {bs : List (List UInt8)} {k : Nat} (hk : k < bs.length) : S.writeSeq fr (bs.drop k) = if (S.write fr bs[k]).1 ≠ 0 then S.write fr bs[k] else (S.write fr bs[k]).2.writeSeq (fr + 1) (bs.drop (k + 1)) := by
  rw [List.drop_eq_getElem_cons hk]; rfl

theorem write_pend1 (S : DS) (n : Int) (b : List UInt8) : (S.write n b).2.pend.length ≤ S.pend.length + 1 := by
  unfold DS.write
  split
  · simp
  · split
    · simp
    · split
      · simp [DS.goes]
      · simp

set_option maxRecDepth 20000 in
set_option maxHeartbeats 2000000 in
theorem writeL_any (w0 w : World) (p : DP) (S : DS) (h : St w0 w p S) (fr : Nat) (v : Value) (bs : List (List UInt8)) (base : Nat) (hv : AllAt w v bs base) (hne : bs ≠ []) (hl : bs.length ≤ 20000) (hfr : fr ≤ 20000) (hsep : ∀ k, base ≤ k → k < w.heap.size → ¬ p.foot k) (hm : S.pend.length ≤ 1099511627776) :
    Calls Try.prog 85 #[.pointer (some ⟨p.d, 0, none⟩), .int .i64 fr, v] w fun e w' => ∃ p', p'.d = p.d ∧ e = .returned (.int .i64 (S.writeSeq fr bs).1) ∧ St w0 w' p' (S.writeSeq fr bs).2 ∧ Moves p.foot p'.foot w w' := by
  have H := Lib.hid h
  have HV := Lib.hid hv
  have HM := Lib.hid hm
  have HSEP := Lib.hid hsep
  obtain ⟨g, off, cap, rfl, hcap, hbase, hsz, hcells⟩ := hv
  obtain ⟨m, hmm⟩ : ∃ m, bs.length = m := ⟨_, rfl⟩
  have HMM := Lib.hid hmm
  rw [hmm] at HV hcap hl ⊢
  clear h hcells hmm hsep hm
  go_enter Try.func85, Try.ntmps85
  go_wp2
  go_loopw [7, 8, 9, 12] (fun _ _ _ i wr => ∃ (k : Nat) (pk : DP) (Sk : DS), k ≤ m ∧ i = .int .i64 k ∧ pk.d = p.d ∧ St w0 wr pk Sk ∧ Moves p.foot pk.foot w wr ∧ Hid (Sk.writeSeq ((fr : Int) + k) (bs.drop k) = S.writeSeq fr bs) ∧ Hid (Sk.pend.length ≤ S.pend.length + k)) (fun _ _ _ i _ => m - (intOf i).toNat)
  case atStart => exact ⟨0, p, S, Nat.zero_le _, rfl, rfl, H.out, Moves.refl _ _, Lib.hid (by simp), Lib.hid (by simp)⟩
  case round =>
    obtain ⟨k, pk, Sk, hk, rfl, hpd, hst, hmv, heq, hpn⟩ := hrel
    have HST := Lib.hid hst
    have HMV := Lib.hid hmv
    have HPD := Lib.hid hpd
    clear hst hmv hpd
    by_cases hlt : k < m
    · have hki : (k : Int) < (m : Int) := by omega
      have hkl : k < bs.length := by rw [HMM.out]; exact hlt
      obtain ⟨g', off', cap', e, -, -, hsz', hcells⟩ := AllAt.keep (HMM.out.symm ▸ HV.out) HMV.out.fr (fun j h1 h2 => HSEP.out j h1 h2) hne
      simp only [Value.slice.injEq, Option.some.injEq, Addr.mk.injEq, and_true] at e
      obtain ⟨⟨rfl, rfl⟩, -, rfl⟩ := e
      obtain ⟨u, c0, ou⟩ := hcells k hkl
      have OU := Lib.hid ou
      have WS := Lib.hid (heq.out.symm.trans (writeSeq_drop hkl))
      obtain ⟨b, hb⟩ : ∃ b, bs[k] = b := ⟨_, rfl⟩
      rw [hb] at OU WS
      have hsep2 : ∀ j, u.ownBlock = some j → ¬ pk.foot j := fun j hj e => by
        obtain ⟨v0, e0, o0⟩ : ∃ v0, v0 = u ∧ OwnB wr v0 b base := ⟨u, rfl, OU.out⟩
        subst e0
        rcases HMV.out.new j e with h1 | h1
        · refine HSEP.out j (o0.lt hj).1 ?_ h1
          exact H.out.lt h1
        · -- a block of the arguments is older
          obtain ⟨g2, off2, cap2, e2, -, -, -, hc2⟩ := HMM.out.symm ▸ HV.out
          simp only [Value.slice.injEq, Option.some.injEq, Addr.mk.injEq, and_true] at e2
          obtain ⟨⟨rfl, rfl⟩, -, rfl⟩ := e2
          obtain ⟨u2, d0, ou2⟩ := hc2 k hkl
          have hg0 : g < w.heap.size := rowOf_lt (by omega)
          have er : rowOf wr g = rowOf w g := HMV.out.fr.row hg0 (HSEP.out g hbase hg0)
          rw [er, d0] at c0
          obtain rfl := Option.some.inj c0
          have := (ou2.lt hj).2
          omega
      have HS2 := Lib.hid hsep2
      clear hcells ou hb hkl hsz' hsep2
      obtain ⟨au, cu, rfl⟩ := OU.out.shape
      go_wp2_with fail
      rw [← HPD.out]
      refine (write_any wr pk Sk HST.out.rep ((fr : Int) + k) _ b OU.out.at_ HS2.out (by have := hpn.out; have := HM.out; omega)).mono ?_
      rintro e w5 ⟨p5, hp5, rfl, r5, m5⟩
      have S5 := Lib.hid (HST.out.move m5 r5)
      have M5 := Lib.hid (HMV.out.trans m5)
      have HP5 := Lib.hid (hp5.trans HPD.out)
      have PN := Lib.hid (write_pend1 Sk ((fr : Int) + k) b)
      rw [HPD.out]
      clear r5 m5 hp5
      obtain ⟨q, hq⟩ : ∃ q, (Sk.write ((fr : Int) + k) b).1 = q := ⟨_, rfl⟩
      obtain ⟨S6, hS6⟩ : ∃ S6, (Sk.write ((fr : Int) + k) b).2 = S6 := ⟨_, rfl⟩
      have EQ := Lib.hid (show Sk.write ((fr : Int) + k) b = (q, S6) by rw [← hq, ← hS6])
      rw [hS6] at S5 PN
      rw [EQ.out] at WS
      rw [hq]
      clear hq hS6
      by_cases hz : q = 0
      · subst hz
        have W6 := Lib.hid (show S6.writeSeq ((fr : Int) + (k + 1 : Nat)) (bs.drop (k + 1)) = S.writeSeq fr bs by
          have := WS.out
          rw [if_neg (by simp)] at this
          rw [this]; congr 1)
        go_wp2
        go_roundw
        case rel => exact ⟨k + 1, p5, S6, by omega, by go_num, HP5.out, S5.out, M5.out, W6.out, Lib.hid (by have := PN.out; have := hpn.out; omega)⟩
        case measure => simp [intOf]; omega
      · have hz2 : (q != 0) = true := by simpa using hz
        have W6 := Lib.hid (show S.writeSeq fr bs = (q, S6) by
          have := WS.out
          rwa [if_pos (by simpa using hz)] at this)
        go_wp2
        go_ret
        rw [W6.out]
        exact ⟨p5, HP5.out, rfl, S5.out, M5.out⟩
    · obtain rfl : k = m := by omega
      have W6 := Lib.hid (show S.writeSeq fr bs = Sk.sync by
        have := heq.out
        rw [List.drop_eq_nil_of_le (by rw [HMM.out]; exact Nat.le_refl _)] at this
        exact this.symm)
      go_wp2_with fail
      rw [← HPD.out]
      refine (sync_any wr pk Sk HST.out.rep).mono ?_
      rintro e w5 ⟨p5, hp5, rfl, r5, m5⟩
      have S5 := Lib.hid (HST.out.move m5 r5)
      have M5 := Lib.hid (HMV.out.trans m5)
      have HP5 := Lib.hid (hp5.trans HPD.out)
      rw [HPD.out]
      clear r5 m5 hp5
      go_wp2
      go_ret
      rw [W6.out]
      exact ⟨p5, HP5.out, rfl, S5.out, M5.out⟩

end Go.Proofs.Ytflnlpbcmcfblaa
