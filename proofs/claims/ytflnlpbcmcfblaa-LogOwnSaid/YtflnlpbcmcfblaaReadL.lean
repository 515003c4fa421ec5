/-
  Package log: read tells the records of an area.
-/
import Derived.Deep.CutRange
import Derived.WalkMore
import Derived.Test.YtflnlpbcmcfblaaRecP
namespace Go.Proofs.Ytflnlpbcmcfblaa
open Go.RowKit

set_option maxRecDepth 20000 in
set_option maxHeartbeats 4000000 in
theorem readL_any (wA w : World) (bl d : Nat) (t l g ar slot size : Nat) (over : Bool) (bm : Nat) (v : Value) (area : List (List UInt8)) (base : Nat) (hrow : rowOf w bl = logRow d ⟨t, l, g, ar⟩ slot size 0 0 over bm) (hlv : live w bl = true) (hv : AllAt wA v area base) (hfA : Fr (fun _ => False) wA w) (hne : area ≠ [])
    (hal : area.length ≤ 16384) (hbb : wA.heap.size ≤ bl) :
    Calls Try.prog 82 #[.pointer (some ⟨bl, 0, none⟩), v] w fun e w' => ∃ vr us, e = .returned vr ∧ Recs w' vr us (readFrom area g area.length 0 0).1 w.heap.size ∧
      rowOf w' bl = logRow d ⟨t, l, g, ar⟩ slot size (readFrom area g area.length 0 0).2 (readFrom area g area.length 0 0).1.length over bm ∧ live w' bl = true ∧ Fr (fun k => k = bl) w w' := by
  unfold logRow at hrow ⊢
  simp only at hrow ⊢
  have HV := Lib.hid hv
  obtain ⟨gA, off, cap, rfl, hcap, hbase, hsz, hcells⟩ := hv
  obtain ⟨q, hq⟩ : ∃ q, area.length = q := ⟨_, rfl⟩
  have HQ := Lib.hid hq
  rw [hq] at HV hcap hal ⊢
  have HROW := Lib.hid hrow
  have HNE := Lib.hid hne
  clear hcells hq hrow hne
  go_enter Try.func82, Try.ntmps82
  go_wp2
  go_step3
  go_wp2
  go_step3
  go_wp2
  go_loopw [5, 6, 7, 8, 9, 10, 11, 12, 13] (fun vr _ _ _ _ _ _ _ _ wr => ∃ (used f : Nat) (us : List Value) (recs : List (List UInt8)), used ≤ q ∧ rowOf wr bl = #[.pointer (some ⟨d, 0, none⟩), .int .u64 t, .int .u64 l, .int .u64 g, .int .i64 ar, .int .i64 slot, .int .i64 size, .int .i64 used, .int .i64 recs.length, .bool over, .map (some bm)] ∧
      live wr bl = true ∧ Fr (fun k => k = bl) w wr ∧ Hid (Recs wr vr us recs w.heap.size) ∧ recs.length ≤ used ∧ Hid (q - used ≤ f ∧ readFrom area g q 0 0 = (recs ++ (readFrom area g f used recs.length).1, (readFrom area g f used recs.length).2)))
    (fun _ _ _ _ _ _ _ _ _ wr => q - (intOf ((rowOf wr bl).getD 7 undef)).toNat)
  case atStart => exact ⟨0, q, [], [], Nat.zero_le _, HROW.out, hlv, Fr.refl _ _, Lib.hid (Recs.nil _ _), Nat.le_refl _, Lib.hid ⟨by omega, by simp⟩⟩
  case round =>
    obtain ⟨used, f, us, recs, hu, hrow, hlive, hf, hrs, hru, heq⟩ := hrel
    have HF := Lib.hid hf
    have HROWO := Lib.hid hrow
    have hbl := live_lt hlive
    have VW := Lib.hid (AllAt.keep (HQ.out.symm ▸ HV.out) ((hfA.mono (fun _ _ h => h.elim)).trans hf (fun _ _ h => h)) (fun k h1 h2 e => by omega) HNE.out)
    clear hf
    obtain ⟨rc, hrc⟩ : ∃ rc, recs.length = rc := ⟨_, rfl⟩
    have HRC := Lib.hid hrc
    rw [hrc] at hrow hru heq
    clear hrc
    by_cases hlt : used < q
    · have hui : (used : Int) < (q : Int) := by omega
      have hul : used < area.length := by rw [HQ.out]; exact hlt
      obtain ⟨g', off', cap', e, -, -, hsz', hcells⟩ := VW.out
      simp only [Value.slice.injEq, Option.some.injEq, Addr.mk.injEq, and_true] at e
      obtain ⟨⟨rfl, rfl⟩, -, rfl⟩ := e
      obtain ⟨u, c0, ou⟩ := hcells used hul
      have OU := Lib.hid ou
      have AT := Lib.hid (show area[used] = at_ area used by unfold at_; rw [List.getD, List.getElem?_eq_getElem hul]; rfl)
      rw [AT.out] at OU
      clear hcells ou hsz'
      go_wp2_with fail
      refine (readMark_any wr u _ base OU.out).mono ?_
      rintro e w4 ⟨rfl, f4⟩
      obtain ⟨r1, r2, r3⟩ := rm_long (at_ area used)
      have MV := Lib.hid (show ∃ mg ml mr mp mo, rmV (at_ area used) = ⟨mg, ml, mr, mp, mo⟩ from ⟨_, _, _, _, _, rfl⟩)
      obtain ⟨mg, ml, mr, mp, mo, hm⟩ := MV.out
      have HM := Lib.hid hm
      rw [hm] at r1 r2 r3 ⊢
      clear hm MV
      unfold markA
      simp only at r1 r2 r3 ⊢
      have hrow4 := (f4.row hbl (fun h => h)).trans hrow
      have hlive4 := (f4.liv hbl (fun h => h)).trans hlive
      have hbl4 := live_lt hlive4
      have F4 := Lib.hid f4
      clear f4 hrow hlive
      obtain ⟨is, his⟩ : ∃ is, rmIs (at_ area used) = is := ⟨_, rfl⟩
      have HIS := Lib.hid his
      rw [his]
      clear his
      have hmo : ((mo : Int)) ≤ 9223372036854775807 := by omega
      have BN := Lib.hid (blocksI_nat mo)
      have RN := Lib.hid (recN_lt r1)
      obtain ⟨W5, hW5⟩ : ∃ W5, w4.alloc (.cells #[.int .u64 mg, .int .u64 ml, .int .i64 mr, .int .i64 mp, .int .i64 mo] 142) = W5 := ⟨_, rfl⟩
      have F5 := Lib.hid (show Fr (fun _ => False) w4 W5.drew by rw [← hW5]; exact ((Fr.refl _ w4).alloc _).drew)
      have Q5 := Lib.hid (show rowOf W5.drew w4.heap.size = #[.int .u64 mg, .int .u64 ml, .int .i64 mr, .int .i64 mp, .int .i64 mo] ∧ w4.heap.size < W5.drew.heap.size by rw [← hW5, rowOf_drew]; exact ⟨rowOf_alloc_at _ _ _ _ _ rfl, by simp⟩)
      have K5 := And.intro ((F5.out.row hbl4 (fun h => h)).trans hrow4) Q5.out.1
      have L5 := Lib.hid (And.intro (Nat.lt_of_lt_of_le hbl4 F5.out.size) Q5.out.2)
      have hK := Lib.hid (show ∀ X, _ from fun X => And.intro ((rowOf_alloc_lt W5.drew X bl L5.out.1).trans K5.1) ((rowOf_alloc_lt W5.drew X w4.heap.size L5.out.2).trans K5.2))
      go_upto_region 4 with fail
      go_region_held3 (fun w' => rowOf w' bl = #[.pointer (some ⟨d, 0, none⟩), .int .u64 t, .int .u64 l, .int .u64 g, .int .i64 ar, .int .i64 slot, .int .i64 size, .int .i64 used, .int .i64 rc, .bool over, .map (some bm)] ∧ rowOf w' w4.heap.size = #[.int .u64 mg, .int .u64 ml, .int .i64 mr, .int .i64 mp, .int .i64 mo])
        (first | assumption | exact hK.out _)
        (fail)
      go_wp2_with fail
      refine (logBlocks_any mo hmo _).mono ?_
      rintro e w' ⟨rfl, rfl⟩
      rw [BN.out]
      obtain ⟨n, hn⟩ : ∃ n, recN mo = n := ⟨_, rfl⟩
      have HN := Lib.hid hn
      rw [hn] at RN ⊢
      clear hn BN
      obtain ⟨f', rfl⟩ : ∃ f', f = f' + 1 := ⟨f - 1, by have := heq.out.1; omega⟩
      obtain ⟨W6, hW6⟩ : ∃ W6, (W5.alloc (.cells #[.int .u64 g, .int .u64 ml, .int .i64 rc, .int .i64 0, .int .i64 mo] 142)).drew = W6 := ⟨_, rfl⟩
      obtain ⟨b6, hb6⟩ : ∃ b, w4.heap.size = b := ⟨_, rfl⟩
      obtain ⟨b8, hb8⟩ : ∃ b, W5.heap.size = b := ⟨_, rfl⟩
      have l56 := L5.out.2
      simp only [World.size_drew] at l56
      have F56 : Fr (fun _ => False) W5.drew W6 := by
        rw [← hW6]
        have := (Fr.refl (fun _ => False) W5).alloc (.cells #[.int .u64 g, .int .u64 ml, .int .i64 rc, .int .i64 0, .int .i64 mo] 142)
        exact ⟨this.os, this.tape, this.output, this.size, this.block⟩
      have F6 := Lib.hid (F5.out.trans F56 (fun _ _ h => h))
      have Q6 := Lib.hid (show rowOf W6 b6 = #[.int .u64 mg, .int .u64 ml, .int .i64 mr, .int .i64 mp, .int .i64 mo] ∧ rowOf W6 b8 = #[.int .u64 g, .int .u64 ml, .int .i64 rc, .int .i64 0, .int .i64 mo] ∧ live W6 b8 = true ∧ b6 < b8 ∧ w4.heap.size ≤ b6 ∧ b8 < W6.heap.size by
        refine ⟨by rw [← hb6]; exact (F56.row L5.out.2 (fun h => h)).trans K5.2, ?_, ?_, by omega, by omega, ?_⟩
        · rw [← hW6, ← hb8, rowOf_drew]; exact rowOf_alloc_at _ _ _ _ _ rfl
        · rw [← hW6, ← hb8, live_drew]; exact live_alloc_at _ _ _ _ rfl
        · rw [← hW6, ← hb8]; simp)
      rw [hW6, hb8, hb6]
      clear hW6 hb8 hb6 hW5 K5 F56 l56
      have hrow6 := (F6.out.row hbl4 (fun h => h)).trans hrow4
      have hlive6 := (F6.out.liv hbl4 (fun h => h)).trans hlive4
      have r6 := Q6.out.1
      have r8 := Q6.out.2.1
      have E0 := Lib.hid (show recHead area g used rc = (is && decide ((⟨mg, ml, mr, mp, mo⟩ : MarkV) = ⟨g, ml, rc, 0, mo⟩) && decide (used + n ≤ q)) by unfold recHead; rw [HM.out, HIS.out, HN.out, HQ.out])
      have bl6 := live_lt hlive6
      clear hrow4 hlive4
      have FIN := Lib.hid (show ∀ W, recAt area g used rc = none → Fr (fun k => k = b8) W6 W → ∃ vr us, Ending.returned u5 = Ending.returned vr ∧ Recs W vr us (readFrom area g q 0 0).1 w.heap.size ∧
          rowOf W bl = #[.pointer (some ⟨d, 0, none⟩), .int .u64 t, .int .u64 l, .int .u64 g, .int .i64 ar, .int .i64 slot, .int .i64 size, .int .i64 (readFrom area g q 0 0).2, .int .i64 (readFrom area g q 0 0).1.length, .bool over, .map (some bm)] ∧ live W bl = true ∧ Fr (fun k => k = bl) w W from fun W hno fr => by
        have hz : readFrom area g q 0 0 = (recs, used) := by rw [heq.out.2, readFrom_stop hno]; simp
        have hq5 := Q6.out.2.2.2.2.1
        have h68 := Q6.out.2.2.2.1
        have s4 := HF.out.size
        have s44 := F4.out.size
        rw [hz]
        simp only
        refine ⟨u5, us, rfl, (hrs.out.keep F4.out (fun _ _ _ h => h)).keep ((F6.out.mono (fun _ _ h => h.elim)).trans fr (fun _ _ h => h)) (fun k h1 h2 e => by omega), ?_, ?_, ?_⟩
        · rw [HRC.out]; exact (fr.row bl6 (by omega)).trans hrow6
        · exact (fr.liv bl6 (by omega)).trans hlive6
        · exact ((HF.out.trans F4.out (fun _ _ h => h.elim)).trans F6.out (fun _ _ h => h.elim)).trans fr (fun i hi e => by omega))
      have hn1 := recN_pos mo
      rw [HN.out] at hn1
      cases is with
      | false =>
        have NO := Lib.hid (recAt_nohead (by rw [E0.out]; rfl))
        go_wp2
        rw [Exit.noGoto_ret]
        go_ret
        exact FIN.out _ NO.out (Fr.refl _ _)
      | true =>
        by_cases hm : mg = g ∧ mr = rc ∧ mp = 0
        · obtain ⟨rfl, rfl, rfl⟩ := hm
          by_cases hfit : used + n ≤ q
          · have hfi : ¬ (q : Int) < ((used : Int) + (n : Int)) := by omega
            have HD := Lib.hid (show recHead area mg used mr = true by rw [E0.out]; simp [hfit])
            have hb68 := Q6.out.2.2.2.1
            have hw46 := Q6.out.2.2.2.2.1
            have hb8s := Q6.out.2.2.2.2.2
            have lb8 := Q6.out.2.2.1
            have hn6 := RN.out
            have nbl6 : ¬ bl = b8 := by omega
            have n68 : ¬ b6 = b8 := by omega
            go_wp2
            go_loopw [10, 11, 12, 13, 68] (fun vb _ _ _ ix wi => ∃ i : Nat, i ≤ n ∧ ix = .int .i64 i ∧ OwnB wi vb (recBytes area used i) W6.heap.size ∧ (∃ pl, rowOf wi b8 = #[.int .u64 mg, .int .u64 ml, .int .i64 mr, pl, .int .i64 mo]) ∧ live wi b8 = true ∧ Hid (∀ j, j < i → recBlock area mg used mr j = true) ∧ Fr (fun k => k = b8) W6 wi) (fun _ _ _ _ ix _ => n - (intOf ix).toNat)
            case atStart => exact ⟨0, Nat.zero_le _, rfl, by simpa [recBytes] using OwnB.nil W6 W6.heap.size, ⟨_, r8⟩, lb8, Lib.hid (fun j hj => by omega), Fr.refl _ _⟩
            case round =>
              obtain ⟨i, hi, rfl, hob, ⟨pl, hr8⟩, hl8, hall, hfi6⟩ := hrel
              have HOB := Lib.hid hob
              have HFI := Lib.hid hfi6
              have hrowi := (hfi6.row bl6 nbl6).trans hrow6
              have hlivei := (hfi6.liv bl6 nbl6).trans hlive6
              have hr6 := (hfi6.row (g := b6) (by omega) n68).trans r6
              have hb8w := live_lt hl8
              have hblw := live_lt hlivei
              have hszi := hfi6.size
              clear hob hfi6
              by_cases hin : i < n
              · have hii : (i : Int) < (n : Int) := by omega
                have hul2 : used + i < area.length := by rw [HQ.out]; omega
                have hui2 : ((used : Int) + (i : Int)) < (q : Int) := by omega
                have FV := (((F4.out.trans F6.out (fun _ _ h => h)).mono (fun _ _ h => h.elim)).trans HFI.out (fun _ _ h => h))
                have sF4 := F4.out.size
                obtain ⟨g', off', cap', e, -, hbg, hsz', hcells⟩ := VW.out
                simp only [Value.slice.injEq, Option.some.injEq, Addr.mk.injEq, and_true] at e
                obtain ⟨⟨rfl, rfl⟩, -, rfl⟩ := e
                obtain ⟨u2, c2o, ou2⟩ := hcells (used + i) hul2
                have AT2 := Lib.hid (show area[used + i] = at_ area (used + i) by unfold at_; rw [List.getD, List.getElem?_eq_getElem hul2]; rfl)
                rw [AT2.out] at ou2
                have hgA := rowOf_lt (g := gA) (Nat.lt_of_le_of_lt (Nat.zero_le _) (Array.getElem?_eq_some_iff.1 c2o).1)
                have c2 := (congrArg (fun x : Array Value => x[off + (used + i)]?) (FV.row (g := gA) (by omega) (by omega))).trans c2o
                have U2 := Lib.hid (show ∀ j, u2.ownBlock = some j → j < b8 from fun j hj => by have := (ou2.lt hj).2; omega)
                have OU2 := Lib.hid (ou2.keep FV (fun k hk e => by have := (ou2.lt hk).2; omega))
                have hgA8 : gA < b8 := by omega
                clear hcells hsz' FV sF4 c2o ou2 hgA
                go_wp2_with fail
                refine (readMark_any _ u2 _ base OU2.out).mono ?_
                rintro e wa ⟨rfl, fa⟩
                have MV2 := Lib.hid (show ∃ xg xl xr xp xo, rmV (at_ area (used + i)) = ⟨xg, xl, xr, xp, xo⟩ from ⟨_, _, _, _, _, rfl⟩)
                obtain ⟨xg, xl, xr, xp, xo, hm2⟩ := MV2.out
                obtain ⟨is2, his2⟩ : ∃ is, rmIs (at_ area (used + i)) = is := ⟨_, rfl⟩
                have RB := Lib.hid (show recBlock area mg used mr i = (is2 && decide ((⟨xg, xl, xr, xp, xo⟩ : MarkV) = ⟨mg, ml, mr, i, mo⟩)) by unfold recBlock; rw [hm2, his2, HM.out])
                have H64 := Lib.hid (show is2 = true → (at_ area (used + i)).length = 64 from fun e => rmIs_len (his2.trans e))
                rw [hm2, his2]
                clear hm2 his2 MV2
                unfold markA
                simp only
                obtain ⟨wb, hwb⟩ : ∃ wb, wa.alloc (.cells #[.int .u64 xg, .int .u64 xl, .int .i64 xr, .int .i64 xp, .int .i64 xo] 142) = wb := ⟨_, rfl⟩
                obtain ⟨b12, hb12⟩ : ∃ b, wa.heap.size = b := ⟨_, rfl⟩
                have FB := Lib.hid (show Fr (fun _ => False) wr wb by rw [← hwb]; exact fa.alloc _)
                have QB := Lib.hid (show rowOf wb b12 = #[.int .u64 xg, .int .u64 xl, .int .i64 xr, .int .i64 xp, .int .i64 xo] ∧ wr.heap.size ≤ b12 ∧ b12 < wb.heap.size by
                  rw [← hwb, ← hb12]; exact ⟨rowOf_alloc_at _ _ _ _ _ rfl, fa.size, by simp⟩)
                have HWB := Lib.hid (And.intro hwb hb12)
                have hr8b := (FB.out.row hb8w (fun h => h)).trans hr8
                have hl8b := (FB.out.liv hb8w (fun h => h)).trans hl8
                have hrowb := (FB.out.row hblw (fun h => h)).trans hrowi
                have hr6b := (FB.out.row (g := b6) (by omega) (fun h => h)).trans hr6
                have n128 : ¬ b12 = b8 := by have := QB.out.2.1; omega
                have n128' : ¬ b8 = b12 := by have := QB.out.2.1; omega
                have rb12 := QB.out.1
                have nbl8 : ¬ bl = b8 := nbl6
                have c2b := (congrArg (fun x : Array Value => x[off + (used + i)]?) (FB.out.row (g := gA) (by omega) (fun h => h))).trans c2
                clear fa hwb hb12 hr8 hl8 hrowi hr6 c2
                go_upto_region 12 with fail
                rw [HWB.out.1, HWB.out.2]
                obtain ⟨wc, hwc⟩ : ∃ wc, wb.setRow b8 #[.int .u64 mg, .int .u64 ml, .int .i64 mr, .int .i64 i, .int .i64 mo] = wc := ⟨_, rfl⟩
                have FC := Lib.hid (show Fr (fun k => k = b8) wb wc by rw [← hwc]; exact (Fr.refl (fun k => k = b8) wb).setRow _ _ (fun _ => rfl))
                have QC := Lib.hid (show rowOf wc b8 = #[.int .u64 mg, .int .u64 ml, .int .i64 mr, .int .i64 i, .int .i64 mo] ∧ live wc b8 = true by rw [← hwc]; exact ⟨rowOf_setRow_same _ _ _ hl8b, by rw [live_setRow]; exact hl8b⟩)

                have FRC := Lib.hid ((HFI.out.trans FB.out (fun _ _ h => h.elim)).trans FC.out (fun _ _ h => h))
                have rc8 := QC.out.1
                have rcl := (FC.out.row (live_lt (show live wb bl = true from (FB.out.liv hblw (fun h => h)).trans hlivei)) nbl6).trans hrowb
                have rc12 := (FC.out.row QB.out.2.2 n128).trans rb12
                have rc6 := (FC.out.row (g := b6) (by have := FB.out.size; omega) n68).trans hr6b
                have OBC := Lib.hid ((HOB.out.keep FB.out (fun _ _ h => h)).keep FC.out (fun k hk e => by have := (HOB.out.lt hk).1; omega))
                have OUC := Lib.hid ((OU2.out.keep FB.out (fun _ _ h => h)).keep FC.out (fun k hk e => by have := U2.out k hk; omega))
                have c2c := (congrArg (fun x : Array Value => x[off + (used + i)]?) (FC.out.row (g := gA) (by have := FB.out.size; omega) (by omega))).trans c2b
                clear c2b
                have szc := FC.out.size
                have szb := FB.out.size
                go_upto_region 13 with fail
                clear hwc hrowb hr6b hr8b hl8b rb12
                have NOB := Lib.hid (fun (h : recBlock area mg used mr i = false) => recAt_noblock (area := area) (gen := mg) (used := used) (rec := mr) (i := i) (by rw [HM.out, HN.out]; exact hin) h)
                cases is2 with
                | false =>
                  have NO := Lib.hid (NOB.out (by rw [RB.out]; rfl))
                  go_wp2
                  all_goals first
                    | (go_ret
                       exact FIN.out _ NO.out FRC.out)
                    | (rw [Exit.noGoto_ret]
                       go_ret
                       exact FIN.out _ NO.out FRC.out)
                | true =>
                  by_cases hm2 : xg = mg ∧ xl = ml ∧ xr = mr ∧ xp = i ∧ xo = mo
                  · obtain ⟨rfl, rfl, rfl, rfl, rfl⟩ := hm2
                    have RT := Lib.hid (show recBlock area xg used xr xp = true by rw [RB.out]; simp)
                    have h64 := H64.out rfl
                    rcases OUC.out with ⟨_, e0⟩ | ⟨gu, ext, rfl, hbu, lgu, hmxu, hruu⟩
                    · rw [e0] at h64; simp at h64
                    have BXX := Lib.hid (show BytesAt wc (.slice (some ⟨gu, 24, none⟩) 40 (64 + ext.length - 24)) ((at_ area (used + xp)).drop 24) from
                      ⟨_, _, by rw [List.length_drop, h64], .inr ⟨gu, 24, rfl, by rw [List.length_drop, h64, hruu, bvA_size, List.length_append, h64]; omega, by
                        rw [List.length_drop, h64, hruu]
                        refine cut_ext (by rw [bvA_size, List.length_drop, h64]) (by rw [bvA_size, List.length_append, h64]; omega) (fun k hk => ?_)
                        rw [bvA_get, bvA_get, List.getElem?_append_left (by omega), List.getElem?_drop]⟩⟩)
                    have RBL := Lib.hid (recBytes_len xp hall.out)
                    rw [h64] at c2c ⊢
                    have BND := Lib.hid (show (recBytes area used xp).length + ((at_ area (used + xp)).drop 24).length ≤ 140737488355328 by rw [RBL.out, List.length_drop, h64]; omega)
                    have SC := Lib.hid (show W6.heap.size ≤ wc.heap.size by omega)
                    have HALL2 := Lib.hid (show ∀ j, j < xp + 1 → recBlock area xg used xr j = true from fun j hj => by
                      by_cases e : j = xp
                      · rw [e]; exact RT.out
                      · exact hall.out j (by omega))
                    have hg24 : ¬ (64 + ext.length = 24) := by omega
                    clear hruu hmxu lgu hbu
                    go_wp2_with (at_builtin; refine wpList_append_B rfl (.tmp 93) (.tmp 103) rfl u10 (recBytes area used xp) W6.heap.size rfl OBC.out SC.out (.slice (some ⟨gu, 24, none⟩) 40 (64 + ext.length - 24)) _ rfl BXX.out BND.out ?_; intro v3 w3 o3 f3 x3; have O3 := Lib.hid o3; have F3 := Lib.hid f3; clear o3 f3 x3)
                    go_roundw
                    case rel =>
                      have nb8 : ¬ u10.ownBlock = some b8 := fun e => by have := (OBC.out.lt e).1; omega
                      have lb8c := live_lt QC.out.2
                      exact ⟨xp + 1, by omega, by go_num, by rw [recBytes_succ]; exact O3.out, ⟨_, (F3.out.row lb8c nb8).trans QC.out.1⟩, (F3.out.liv lb8c nb8).trans QC.out.2, HALL2.out, FRC.out.trans F3.out (fun k hk e => by have := (OBC.out.lt e).1; omega)⟩
                    case measure => simp [intOf]; omega
                  · have NO := Lib.hid (NOB.out (by
                      rw [RB.out]
                      have : ¬ ((⟨xg, xl, xr, xp, xo⟩ : MarkV) = ⟨mg, ml, mr, i, mo⟩) := fun e => hm2 (by simp at e; omega)
                      simp [this]))
                    go_wp2
                    all_goals first
                      | (go_ret
                         exact FIN.out _ NO.out FRC.out)
                      | (rw [Exit.noGoto_ret]
                         go_ret
                         exact FIN.out _ NO.out FRC.out)
                      | (exfalso; apply hm2; omega)
              · obtain rfl : i = n := by omega
                have RA := Lib.hid (show recAt area mg used mr = some ((recBytes area used i).take mo, i) by
                  have h1 := recAt_all HD.out (by rw [HM.out, HN.out]; exact hall.out)
                  rw [HM.out, HN.out] at h1
                  exact h1)
                have RBL := Lib.hid (recBytes_len i hall.out)
                have hmo40 : mo ≤ i * 40 := by have := recN_le (long := mo); rw [HN.out] at this; exact this
                obtain ⟨bt, hbt⟩ : ∃ bt, (recBytes area used i).take mo = bt := ⟨_, rfl⟩
                have HBL := Lib.hid (show bt.length = mo by rw [← hbt, List.length_take, RBL.out]; omega)
                have TK := Lib.hid (fun (a : Option Addr) (L c : Nat) (h : BytesAt wr (.slice a L c) (recBytes area used i)) => show BytesAt wr (.slice a mo c) bt by rw [← hbt]; exact h.take mo (by rw [RBL.out]; exact hmo40))
                rw [hbt] at RA
                clear hbt
                rcases HOB.out with ⟨_, e0⟩ | ⟨g2, ext, hu10, hb2, lg2, hmx2, hru2⟩
                · exfalso; have := RBL.out; rw [e0] at this; simp at this; omega
                rw [RBL.out] at hu10
                subst hu10
                have BT := Lib.hid (TK.out _ _ _ HOB.out.at_)
                have cl := clone36_B wr g2 0 (i * 40 + ext.length) bt (by rw [HBL.out]; exact BT.out) (by rw [HBL.out]; omega)
                rw [HBL.out] at cl
                have CL := Lib.hid cl
                have RCI := Lib.hid ((hrs.out.keep F4.out (fun _ _ _ h => h)).keep ((F6.out.mono (fun _ _ h => h.elim)).trans HFI.out (fun _ _ h => h)) (fun k h1 h2 e => by omega))
                have UL := Lib.hid (show us.length ≤ 16384 by have := hrs.out.ln; have := HRC.out; omega)
                have hmoi : (mo : Int) ≤ ((i * 40 : Nat) : Int) := by omega
                have hmoc : (mo : Int) ≤ ((i * 40 + ext.length : Nat) : Int) := by omega
                have hmon : mo ≤ i * 40 + ext.length := by omega
                have hwbl := Lib.hid (live_lt hlv)
                have hwwr := Lib.hid (show w.heap.size ≤ wr.heap.size by have := HF.out.size; have := F4.out.size; have := F6.out.size; omega)
                clear cl hb2 lg2 hmx2 hru2 hmo40
                go_wp2_with (first | (go_at_call 65; refine CL.out.mono ?_; rintro e wd ⟨u3, rfl, o3, f3⟩; have O3 := Lib.hid o3; have F3 := Lib.hid f3; have S3 := Lib.hid f3.size; have hrowd := (f3.row hblw (fun h => h)).trans hrowi; have hlived := (f3.liv hblw (fun h => h)).trans hlivei; have hbld := live_lt hlived; obtain ⟨a3, c3, e3⟩ := o3.shape; rw [HBL.out] at e3; subst e3; clear o3 f3) | (at_builtin; refine wpList_append_one rfl (.tmp 106) (.tmp 112) 29 rfl 36 _ 1 24 Try.underlying29 ti36 u5 (us.map fun u => #[u]) w.heap.size rfl ((RCI.out.da.keep F3.out (fun _ _ h => h)).keep ((Fr.refl (fun _ => False) wd).alloc _) (fun _ _ h => h)) (by have := S3.out; have := hwwr.out; simp; omega) wd.heap.size 1 rfl #[.slice a3 mo c3] (by simp [go_sem]) (by simp [go_sem]) (by intro y hy; simp at hy; subst hy; rfl) (by intro y hy; simp at hy; obtain ⟨u, _, rfl⟩ := hy; rfl) (by have := UL.out; simp only [maxLen]; simp; omega) (fitsN (by have := UL.out; simp; omega) (by omega)) ?_; intro g5 cap5 w5 ho5 f5 hn5; have HO5 := Lib.hid ho5; have F5 := Lib.hid f5; have N5 := Lib.hid hn5; have nu5 : ¬ u5.ownBlock = some bl := (fun e => by have := (RCI.out.da.lt e).1; have := hwbl.out; omega); have hrow5 := (f5.row (g := bl) (by simp; omega) nu5).trans ((rowOf_alloc_lt wd _ _ hbld).trans hrowd); have hlive5 := (f5.liv (g := bl) (by simp; omega) nu5).trans ((live_alloc_lt wd _ _ hbld).trans hlived); clear ho5 f5 hn5))
                go_roundw
                case rel =>
                  have q1 := hwwr.out
                  have q2 := S3.out
                  have q3 := hwbl.out
                  have q6 := F6.out.size
                  have q4 := F4.out.size
                  have q0 := HF.out.size
                  have q8 := Q6.out.2.2.2.1
                  have q9 := Q6.out.2.2.2.2.1
                  have hu5 : ∀ k, u5.ownBlock = some k → w.heap.size ≤ k := fun k e => (RCI.out.da.lt e).1
                  have FX := (((((HF.out.trans F4.out (fun _ _ h => h.elim)).trans F6.out (fun _ _ h => h.elim)).trans HFI.out (fun k hk e => by omega)).trans F3.out (fun _ _ h => h.elim)).alloc (.cells #[.slice a3 mo c3] 36)).trans F5.out (fun k hk e => by have := hu5 k e; omega)
                  have HO6 := HO5.out
                  rw [List.length_map] at HO6
                  have RX := RCI.out.snoc (F3.out.alloc (.cells #[.slice a3 mo c3] 36)) ((O3.out.weaken q1).keep ((Fr.refl (fun _ => False) wd).alloc (.cells #[.slice a3 mo c3] 36)) (fun _ _ h => h)) (fun j hj => (O3.out.lt hj).1) HO6 F5.out (fun j hj => by
                    simp only [Value.ownBlock, Option.some.injEq] at hj
                    subst hj; exact N5.out)
                  refine ⟨used + i, f', us ++ [.slice a3 mo c3], recs ++ [bt], hfit, ?_, by rw [live_setRow]; exact hlive5, FX.setRow _ _ (fun _ => rfl), Lib.hid (RX.keep ((Fr.refl (fun k => k = bl) w5).setRow _ _ (fun _ => rfl)) (fun k h1 h2 e => by omega)), by rw [List.length_append, HRC.out]; simp; omega, Lib.hid ⟨by have := heq.out.1; omega, ?_⟩⟩
                  · rw [rowOf_setRow_same _ _ _ hlive5, List.length_append, HRC.out]
                    simp
                  · rw [heq.out.2, readFrom_more hul RA.out, List.length_append, HRC.out]
                    simp
                case measure =>
                  rw [rowOf_setRow_same _ _ _ hlive5, HROWO.out]
                  simp [intOf]
                  omega
          · have hfi : (q : Int) < ((used : Int) + (n : Int)) := by omega
            have NO := Lib.hid (recAt_nohead (show recHead area mg used mr = false by rw [E0.out]; simp [hfit]))
            have rn := RN.out
            go_wp2
            rw [Exit.noGoto_ret]
            go_ret
            exact FIN.out _ NO.out (Fr.refl _ _)
        · have NO := Lib.hid (recAt_nohead (show recHead area g used rc = false by
            rw [E0.out]
            have : ¬ ((⟨mg, ml, mr, mp, mo⟩ : MarkV) = ⟨g, ml, rc, 0, mo⟩) := fun e => hm (by simp at e; omega)
            simp [this]))
          go_wp2
          all_goals first
            | (rw [Exit.noGoto_ret]
               go_ret
               exact FIN.out _ NO.out (Fr.refl _ _))
            | (exfalso; apply hm; omega)
    · obtain rfl : used = q := by omega
      go_wp2
      rw [Exit.noGoto_ret]
      go_ret
      have hz : readFrom area g used 0 0 = (recs, used) := by rw [heq.out.2, readFrom_end (by rw [HQ.out]; exact Nat.le_refl _)]; simp
      rw [hz]
      simp only
      exact ⟨u5, us, rfl, hrs.out, by rw [HRC.out]; exact hrow, hlive, HF.out⟩

end Go.Proofs.Ytflnlpbcmcfblaa
