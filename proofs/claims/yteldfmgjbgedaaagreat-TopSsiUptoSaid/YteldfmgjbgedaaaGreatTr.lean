/-
  The law TopSsi: its walk.
-/
import Derived.Test.YteldfmgjbgedaaaGreatTpq
import Derived.Test.YteldfmgjbgedaaaGreatNil
import Derived.Test.YteldfmgjbgedaaaGreatOq
import Derived.Test.YteldfmgjbgedaaaGreatTo
import Derived.Test.YteldfmgjbgedaaaGreatTm
namespace Go.Proofs.YteldfmgjbgedaaaGreat
open Go.RowKit Go.Maps

set_option maxRecDepth 20000 in
set_option maxHeartbeats 4000000 in
theorem top3_bad (w : World) {ca ck cr cl : Int} (h : CapsBad ca ck cr cl) (v : Value) :
    Calls Tryz.prog 3 #[.agg #[.int .i64 ca, .int .i64 ck, .int .i64 cr, .int .i64 cl], v] w fun e w' => e = .returned (.bool true) ∧ Fr (fun _ => False) w w' := by
  have HN := Lib.hid (new4_bad (w.alloc (.cells #[.int .i64 ca, .int .i64 ck, .int .i64 cr, .int .i64 cl] 23)) h)
  have HFB : Hid (Fr (fun _ => False) w (w.alloc (.cells #[.int .i64 ca, .int .i64 ck, .int .i64 cr, .int .i64 cl] 23))) := Lib.hid ((Fr.refl _ w).alloc _)
  have hrb : rowOf (w.alloc (.cells #[.int .i64 ca, .int .i64 ck, .int .i64 cr, .int .i64 cl] 23)) w.heap.size = #[.int .i64 ca, .int .i64 ck, .int .i64 cr, .int .i64 cl] := rowOf_alloc_at _ _ _ _ _ rfl
  have hlb : w.heap.size < (w.alloc (.cells #[.int .i64 ca, .int .i64 ck, .int .i64 cr, .int .i64 cl] 23)).heap.size := by simp
  unfold CapsBad at h
  go_enter Tryz.func3, Tryz.ntmps3
  go_wp2_with (go_at_call 4; refine HN.out.mono ?_; rintro e w2 ⟨rfl, hf⟩; have HF := Lib.hid hf; have rb2 := (hf.row hlb (fun e => e)).trans hrb; clear hf)
  all_goals first
    | (exfalso; omega)
    | (go_ret; refine ⟨?_, HFB.out.trans HF.out (fun _ _ e => e)⟩; first
        | rfl
        | (show Ending.returned (.bool (decide (ca < 1) || decide (64 < ca) || decide (ck < 0) || decide (1024 < ck) || decide (cr < 1) || decide (65536 < cr) || decide (cl < 1) || decide (4096 < cl))) = _; congr 2; simp; omega))
theorem Kept.upto {M M' : MS} {S S' : PS} {n r u : Nat} (h : Kept M S n r 4 (u : Nat) M' S') (hall : ∀ (v : Nat) (p : PT), v < u → S.l[v]? = some p → p.over = true) : ∀ (v : Nat) (p : PT), v < u + 1 → S'.l[v]? = some p → p.over = true := by
  intro v p hv hp
  have hlt := (List.getElem?_eq_some_iff.1 hp).1
  rw [(h.four rfl).1] at hlt
  have h0 : S.l[v]? = some S.l[v] := List.getElem?_eq_getElem hlt
  by_cases e : v = u
  · obtain ⟨p', h1, h2⟩ := (h.four rfl).2 v _ (by rw [e]) h0
    rw [hp] at h1; cases h1; exact h2
  · obtain ⟨p', h1, h2⟩ := h.over v _ h0 (hall v _ (by omega) h0)
    rw [hp] at h1; cases h1; exact h2

set_option maxRecDepth 20000 in
set_option maxHeartbeats 4000000 in
theorem top3_ok (H53 : Sorts53) (H68 : Sorts68) (H72 : Sorts72) (H124 : Sorted124) (H77 : Sorts77) (H79 : Sorted79) (H82 : Search82) (H83 : Sorts83) (H84 : Compact84) (w : World) {ca ck cr cl : Int} (h : ¬ CapsBad ca ck cr cl) (a : Option Addr) (n c : Nat) (l : List SAct) (hl : l.length = n) (hv : ActsAt w (.slice a n c) l) (hn : n < 2 ^ 18) (hx : ∀ s ∈ l, s.x.length < 2 ^ 32) :
    Calls Tryz.prog 3 #[.agg #[.int .i64 ca, .int .i64 ck, .int .i64 cr, .int .i64 cl], .slice a n c] w fun e w' => e = .returned (.bool true) ∧ Fr (fun _ => False) w w' := by
  have HN := Lib.hid (new4_ok (w.alloc (.cells #[.int .i64 ca, .int .i64 ck, .int .i64 cr, .int .i64 cl] 23)) h (B := 2 ^ 40))
  have HFB : Hid (Fr (fun _ => False) w (w.alloc (.cells #[.int .i64 ca, .int .i64 ck, .int .i64 cr, .int .i64 cl] 23))) := Lib.hid ((Fr.refl _ w).alloc _)
  have HV := Lib.hid hv
  have HL := Lib.hid hl
  have HX := Lib.hid hx
  clear hl hx hv h
  go_enter Tryz.func3, Tryz.ntmps3
  go_upto_region 4 with (go_at_call 4; refine HN.out.mono ?_; rintro e w2 ⟨P, cls, rfl, hM, -, -, -, hPB, -, hMi, hc3, hf⟩; have HTS := Lib.hid (TS.made HFB.out hf hM hMi hc3 hPB); clear hM hMi hc3 hf hPB)
  go_upto_region 5 with fail
  obtain ⟨pp, hpp⟩ : ∃ b, b = w2.heap.size := ⟨_, rfl⟩
  rw [← hpp] at HTS ⊢
  generalize w2.alloc (.cells #[.pointer (some ⟨P.m, 0, none⟩), .slice none 0 0, .slice none 0 0, .slice none 0 0, .slice none 0 0] 35) = W at *
  generalize clsG cls pp 7 = cls0 at HTS
  clear hpp HFB HN
  go_wp2_with fail
  go_loopw [78] (fun t78 wr => ∃ (k : Nat) (keys : List Key) (vk : Value) (cls : Nat → Nat), t78 = .int .i64 (k : Nat) ∧ k ≤ n ∧ Hid (TS w wr pp cls P 0 MS.zero ⟨[], [], [], keys, .slice none 0 0, .slice none 0 0, .slice none 0 0, vk⟩) ∧ keys.length ≤ k ∧ Hid (∀ x ∈ keys, x.length < 2 ^ 32)) (fun t78 _ => n - (intOf t78).toNat)
  case atStart => exact ⟨0, [], _, _, rfl, Nat.zero_le _, HTS, Nat.le_refl _, Lib.hid (fun _ h => by cases h)⟩
  case round =>
    obtain ⟨k, keys, vk, cls1, rfl, hk, HT, hkl, HK⟩ := hrel
    by_cases hlt : k < n
    · have hkl' : k < l.length := by have := HL.out; omega
      obtain ⟨g, off, rfl, hg, hgs, e0, e1, e2, e3⟩ := ((HV.out).keep HT.out.fr).get hkl'
      have hx1 := HX.out _ (List.getElem_mem hkl')
      generalize l[k] = s at e0 e1 e2 e3 hx1
      have hki : (k : Int) < (n : Int) := by omega
      obtain ⟨ak, ck', hvk⟩ := HT.out.play.hk.len
      rw [strRows_length] at hvk
      replace hvk : vk = .slice ak keys.length ck' := hvk
      have hrp := HT.out.play.row
      replace hrp : rowOf wr pp = #[.pointer (some ⟨P.m, 0, none⟩), .slice none 0 0, .slice none 0 0, .slice none 0 0, vk] := hrp
      rw [hvk] at hrp
      have HVK := Lib.hid hvk
      have ltp := live_lt HT.out.play.lp
      clear hvk
      go_upto_region 8 with fail
      obtain ⟨b1, b2, b3, b4⟩ := boxed_new wr #[.int .i64 0, .int .i64 0, .string ⟨#[]⟩, .string ⟨#[]⟩] #[.int .i64 s.k, .int .i64 s.i, .string ⟨s.x.toArray⟩, .string ⟨s.y.toArray⟩] 37
      generalize (wr.alloc (.cells #[.int .i64 0, .int .i64 0, .string ⟨#[]⟩, .string ⟨#[]⟩] 37)).setRow wr.heap.size #[.int .i64 s.k, .int .i64 s.i, .string ⟨s.x.toArray⟩, .string ⟨s.y.toArray⟩] = wb at *
      have hr1 := (b1.row ltp (fun e => e)).trans hrp
      have ltp1 : pp < wb.heap.size := Nat.lt_of_lt_of_le ltp b1.size
      have HC := Lib.hid (contains5 wb.drew (show OwnRows wb.drew (.slice ak keys.length ck') 1 (strRows keys) 0 from HVK.out ▸ (HT.out.play.fr0 b1.drew).hk) s.x)
      have HB1 := Lib.hid b1
      clear e0 e1 e2 e3 hgs hg hrp b1
      go_region_held3 (fun w' => rowOf w' pp = #[.pointer (some ⟨P.m, 0, none⟩), .slice none 0 0, .slice none 0 0, .slice none 0 0, .slice ak keys.length ck'] ∧ rowOf w' wr.heap.size = #[.int .i64 s.k, .int .i64 s.i, .string ⟨s.x.toArray⟩, .string ⟨s.y.toArray⟩])
        (first | assumption | exact ⟨by first | assumption | (rw [rowOf_drew]; assumption), by first | assumption | (rw [rowOf_drew]; assumption)⟩)
        (first | (go_simp; go_at_call 5; refine HC.out.mono ?_; rintro e w5 ⟨rb, rfl, hrb, hf2⟩; have HRB := Lib.hid hrb; have HFC := Lib.hid ((Fr.refl (fun _ => False) wb).drew.trans hf2 (fun _ _ e => e)); have K5 := And.intro ((hf2.row (g := pp) ltp1 (fun e => e)).trans ((rowOf_drew _ _).trans hr1)) ((hf2.row (g := wr.heap.size) b4 (fun e => e)).trans ((rowOf_drew _ _).trans b2)); clear hrb hf2))
      all_goals
        have HT5 := Lib.hid (HT.out.fr0 (HB1.out.trans HFC.out (fun _ _ e => e)))
        cases rb with
        | true =>
          go_wp2
          refine ⟨⟨k + 1, keys, vk, cls1, by go_num, by omega, HT5, by omega, HK⟩, by simp only [intOf]; omega⟩
        | false =>
          obtain ⟨r5, r5b⟩ := K5
          have lp5 := HT5.out.play.lp
          have lt5 := live_lt lp5
          have ltb5 : wr.heap.size < w5.heap.size := Nat.lt_of_lt_of_le b4 HFC.out.size
          clear hr1 b2 b3
          go_wp2_with fail
          go_region_law (refine step_append_one (o := ⟨some 98, _, _, _, _, _⟩) rfl (.tmp 94) (.tmp 97) 33 rfl 9 _ 1 16 Tryz.underlying33 ti9 (.slice ak keys.length ck') (strRows keys) 0 rfl ((show OwnRows w5 (.slice ak keys.length ck') 1 (strRows keys) 0 from HVK.out ▸ HT5.out.play.hk).keep (((Fr.refl (fun _ => False) w5).alloc _).drew) (fun _ _ h => h)) (Nat.zero_le _) w5.heap.size 1 rfl #[.string ⟨s.x.toArray⟩] (by simp [go_sem]) (by simp [go_sem]; rfl) (by intro z hz; simp at hz; rcases hz with rfl; rfl) (strRows_size _) (by rw [strRows_length]; simp only [maxLen]; omega) (fitsN (by rw [strRows_length]; omega) (by omega)) ?_; intro g' cap' w6 ho6 f6 hn6; rw [strRows_length] at ho6 ⊢; have HO6 := Lib.hid ho6; have N6 := Lib.hid hn6; have f56 : Fr (fun i => vk.ownBlock = some i) w5 w6 := ((((Fr.refl (fun _ => False) w5).alloc _).drew).mono (fun _ _ e => e.elim)).trans f6 (fun _ _ e => by rw [HVK.out]; exact e); have np6 : ¬ vk.ownBlock = some pp := (fun e => by have := HT5.out.play.ck _ e; rw [HT5.out.play.cp] at this; omega); have r6 := (f56.row lt5 np6).trans r5; have l6 := (f56.liv lt5 np6).trans lp5; have HF56 := Lib.hid f56; clear ho6 f6 hn6 f56)
          all_goals
            have n6 : vk.ownBlock = some g' ∨ w5.heap.size ≤ g' := N6.out.elim (fun e => .inl (by rw [HVK.out]; exact e)) (fun e => .inr (by simp at e; omega))
            have HT7 := Lib.hid (HT5.out.key s.x HO6.out HF56.out n6)
            clear r6 l6 np6 r5 r5b
            generalize w6.setRow pp #[.pointer (some ⟨P.m, 0, none⟩), .slice none 0 0, .slice none 0 0, .slice none 0 0, .slice (some ⟨g', 0, none⟩) (keys.length + 1) cap'] = w7 at *
            go_wp2
            refine ⟨⟨k + 1, keys ++ [s.x], _, _, by go_num, by omega, HT7, by simp; omega, Lib.hid (fun z hz => (List.mem_append.1 hz).elim (HK.out z) (fun e => by simp at e; subst e; exact hx1))⟩, by simp only [intOf]; omega⟩
    · obtain rfl : k = n := by omega
      have hkn : keys.length < 2 ^ 18 := by omega
      clear hk hlt hkl
      go_wp2_with fail
      go_loopw [104] (fun t104 wr => ∃ (j : Nat) (bn : Nat) (cls : Nat → Nat) (M : MS) (S : PS), t104 = .int .i64 (j : Nat) ∧ j ≤ k ∧ Hid (TS w wr pp cls { P with bn := bn } j M S ∧ (∃ Z, Good M S Z) ∧ Small M S j j ∧ S.keys = keys)) (fun t104 _ => k - (intOf t104).toNat)
      case atStart => exact ⟨0, P.bn, cls1, MS.zero, _, rfl, Nat.zero_le _, Lib.hid ⟨HT.out, ⟨_, Good.init _ _⟩, Small.zero _ _, rfl⟩⟩
      case round =>
        clear HT
        obtain ⟨j, bn, cls2, M, S, rfl, hj, HT⟩ := hrel
        by_cases hlt : j < k
        · have hjl' : j < l.length := by have := HL.out; omega
          obtain ⟨g, off, rfl, hg, hgs, e0, e1, e2, e3⟩ := ((HV.out).keep HT.out.1.fr).get hjl'
          have hx1 := HX.out _ (List.getElem_mem hjl')
          generalize l[j] = s at e0 e1 e2 e3 hx1
          have hki : (j : Int) < (k : Int) := by omega
          go_upto_region 14 with fail
          obtain ⟨b1, b2, b3, b4⟩ := boxed_new wr #[.int .i64 0, .int .i64 0, .string ⟨#[]⟩, .string ⟨#[]⟩] #[.int .i64 s.k, .int .i64 s.i, .string ⟨s.x.toArray⟩, .string ⟨s.y.toArray⟩] 37
          generalize (wr.alloc (.cells #[.int .i64 0, .int .i64 0, .string ⟨#[]⟩, .string ⟨#[]⟩] 37)).setRow wr.heap.size #[.int .i64 s.k, .int .i64 s.i, .string ⟨s.x.toArray⟩, .string ⟨s.y.toArray⟩] = wb at *
          have HDO := Lib.hid (Play.does6 H53 H68 H72 H124 (HT.out.1.fr0 b1).mgr HT.out.1.B (HT.out.1.fr0 b1).play HT.out.2.1.choose_spec HT.out.2.2.1 (by omega) (by omega) (by omega) s.k s.i s.x s.y hx1)
          have HB1 := Lib.hid b1
          clear e0 e1 e2 e3 hgs hg b1
          go_wp2_with (go_at_call 6; refine HDO.out.mono ?_; rintro e w5 ⟨rfl, hA⟩; obtain ⟨cls3, bn3, M3, S3, hT3, hK3⟩ := (HT.out.1.fr0 HB1.out).act hA; have HT3 := Lib.hid hT3; have HK3 := Lib.hid hK3; clear hA hT3 hK3)
          refine ⟨⟨j + 1, bn3, cls3, M3, S3, by go_num, by omega, Lib.hid ⟨HT3.out, HK3.out.good, HK3.out.small.mono (Nat.le_refl _) (by split <;> omega), HK3.out.keys.trans HT.out.2.2.2⟩⟩, by simp only [intOf]; omega⟩
        · obtain rfl : j = k := by omega
          clear hj hlt
          have hL : S.l.length ≤ j := by
            obtain ⟨Z, hG⟩ := HT.out.2.1
            rw [hG.len, hG.tie.last]; exact HT.out.2.2.1.last
          obtain ⟨al, c1, hvl⟩ := HT.out.1.play.hl.len
          rw [List.length_map] at hvl
          have hrp := HT.out.1.play.row
          rw [hvl] at hrp
          have ltp := live_lt HT.out.1.play.lp
          clear hvl
          go_wp2_with fail
          go_loopw [118] (fun t118 wr => ∃ (u : Nat) (bn : Nat) (cls : Nat → Nat) (M : MS) (S' : PS), t118 = .int .i64 (u : Nat) ∧ u ≤ S.l.length ∧ Hid (TS w wr pp cls { P with bn := bn } (j + u) M S' ∧ (∃ Z, Good M S' Z) ∧ Small M S' (j + u) j ∧ S'.keys = keys ∧ S'.l.length = S.l.length ∧ ∀ (v : Nat) (p : PT), v < u → S'.l[v]? = some p → p.over = true)) (fun t118 _ => S.l.length - (intOf t118).toNat)
          case atStart => exact ⟨0, bn, cls2, M, S, rfl, Nat.zero_le _, Lib.hid ⟨HT.out.1, HT.out.2.1, HT.out.2.2.1, HT.out.2.2.2, rfl, fun _ _ h => by omega⟩⟩
          case round =>
            clear hrp ltp
            obtain ⟨u, bn2, cls3, M2, S2, rfl, hu, HU⟩ := hrel
            by_cases hlt : u < S.l.length
            · have hui : (u : Int) < (S.l.length : Int) := by omega
              have HDO := Lib.hid (Play.does6 H53 H68 H72 H124 HU.out.1.mgr HU.out.1.B HU.out.1.play HU.out.2.1.choose_spec HU.out.2.2.1 (by omega) (by omega) (by omega) 4 (u : Nat) [] [] (by simp))
              go_wp2_with (go_at_call 6; refine HDO.out.mono ?_; rintro e w5 ⟨rfl, hA⟩; obtain ⟨cls4, bn3, M3, S3, hT3, hK3⟩ := HU.out.1.act hA; have HT3 := Lib.hid hT3; have HK3 := Lib.hid hK3; clear hA hT3 hK3)
              refine ⟨⟨u + 1, bn3, cls4, M3, S3, by go_num, by omega, Lib.hid ⟨HT3.out, HK3.out.good, HK3.out.small.mono (Nat.le_refl _) (by rw [if_pos rfl]; exact Nat.le_refl _), HK3.out.keys.trans HU.out.2.2.2.1, (HK3.out.four rfl).1.trans HU.out.2.2.2.2.1, HK3.out.upto HU.out.2.2.2.2.2⟩⟩, by simp only [intOf]; omega⟩
            · obtain rfl : u = S.l.length := by omega
              clear hu hlt HT
              have HP := Lib.hid HU.out.1.play
              obtain ⟨Z, hG⟩ := HU.out.2.1
              have HG := Lib.hid hG
              have hlo : S2.ord.length < 2 ^ 30 := by have := HU.out.2.2.1.ord; omega
              have hla : (histActs S2).length < 2 ^ 36 := histActs_small HU.out.2.2.1 (by omega) (by rw [HU.out.2.2.2.1]; exact hkn)
              have HH := Lib.hid (HP.out.history7 hla)
              obtain ⟨ao, co, hvo⟩ := HP.out.ho.len
              rw [natRows_length] at hvo
              have hrp := HP.out.row
              rw [hvo] at HH hrp
              have HVO := Lib.hid hvo
              have ltp := live_lt HP.out.lp
              have hd := hG.done (fun v p hp => HU.out.2.2.2.2.2 v p (by have := (List.getElem?_eq_some_iff.1 hp).1; have := HU.out.2.2.2.2.1; omega) hp)
              have HD := Lib.hid hd
              clear hvo hG hd
              go_upto_region 23 with (go_at_call 7; refine HH.out.mono ?_; rintro e w8 ⟨va, rfl, hX⟩; obtain ⟨aa, ca', hva⟩ := hX.out.1.len; subst hva; have HX8 := Lib.hid hX.out; clear hX)
              obtain ⟨b1, b2, b3, b4⟩ := boxed_new w8 #[.slice none 0 0, .slice none 0 0] #[.slice ao S2.ord.length co, .slice aa (histActs S2).length ca'] 42
              generalize (w8.alloc (.cells #[.slice none 0 0, .slice none 0 0] 42)).setRow w8.heap.size #[.slice ao S2.ord.length co, .slice aa (histActs S2).length ca'] = w9 at *
              have hf9 : Fr (fun _ => False) wr w9 := HX8.out.2.trans b1 (fun _ _ e => e)
              have hr9 := (hf9.row ltp (fun e => e)).trans hrp
              have ltp9 : pp < w9.heap.size := Nat.lt_of_lt_of_le ltp hf9.size
              have HF9 := Lib.hid hf9
              have HFW : Hid (Fr (fun _ => False) w w9) := Lib.hid (HU.out.1.fr.trans hf9 (fun _ _ e => e))
              have hrows : histActs S2 = (histP S2).map actRow := histActs_rows S2
              have HOA : Hid (OwnRows w9 (.slice aa (histActs S2).length ca') 4 ((histP S2).map actRow) wr.heap.size) := Lib.hid (by rw [← hrows]; exact HX8.out.1.keep b1 (fun _ _ e => e))
              have HOC : Hid (OwnRows w9 (.slice ao S2.ord.length co) 1 (natRows S2.ord) 0) := Lib.hid (HVO.out ▸ (HP.out.fr0 hf9).ho)
              clear hrp b1 b3 hf9 hrows
              by_cases hA : 4096 < (histActs S2).length
              · have hAi : (4096 : Int) < ((histActs S2).length : Int) := by omega
                go_wp2
                go_ret
                exact ⟨rfl, HFW.out⟩
              · have hAi : ((histActs S2).length : Int) ≤ 4096 := by omega
                by_cases hC : 4096 < S2.ord.length
                · have hCi : (4096 : Int) < (S2.ord.length : Int) := by omega
                  go_wp2
                  go_ret
                  exact ⟨rfl, HFW.out⟩
                · have hCi : (S2.ord.length : Int) ≤ 4096 := by omega
                  have HO8 := Lib.hid (order8 H77 H79 H82 H83 H84 HOA.out HOC.out HG.out.histOk (HG.out.actsB HU.out.2.2.1 (by omega) (by rw [HU.out.2.2.2.1]; exact HK.out) (by omega) (by omega)) (fun ws N I hp hW => HG.out.places (fun t ht => hp.mem_iff.1 ht) hW.n hW.dep))
                  go_wp2_with (first
                    | (go_at_call 8; refine HO8.out.mono ?_; rintro e w10 ⟨a10, c10, rfl, hf10⟩; have hr10 := (hf10.row ltp9 (fun e => e)).trans hr9; have ltp10 : pp < w10.heap.size := Nat.lt_of_lt_of_le ltp9 hf10.size; have HTR := Lib.hid ((HU.out.1.mgr.fr0 (HF9.out.trans hf10 (fun _ _ e => e))).tracked9 H53 HD.out.2.1 HD.out.2.2.1 HD.out.2.2.2); have HF10 := Lib.hid hf10; clear hf10)
                    | (go_at_call 9; refine HTR.out.mono ?_; rintro e w11 ⟨rfl, hf11⟩; have HF11 := Lib.hid hf11; clear hf11))
                  go_ret
                  exact ⟨rfl, (HFW.out.trans HF10.out (fun _ _ e => e)).trans HF11.out (fun _ _ e => e)⟩

/-- The law, whatever the caps. -/
theorem top3_any (w : World) (ca ck cr cl : Int) (a : Option Addr) (n c : Nat) (l : List SAct) (hl : l.length = n) (hv : ActsAt w (.slice a n c) l) (hn : n < 2 ^ 18) (hx : ∀ s ∈ l, s.x.length < 2 ^ 32) :
    Calls Tryz.prog 3 #[.agg #[.int .i64 ca, .int .i64 ck, .int .i64 cr, .int .i64 cl], .slice a n c] w fun e w' => e = .returned (.bool true) ∧ Fr (fun _ => False) w w' := by
  by_cases h : CapsBad ca ck cr cl
  · exact top3_bad w h _
  · exact top3_ok sorts53 sorts68 sorts72 sorted124 sorts77 sorted79 search82 sorts83 compact84 w h a n c l hl hv hn hx
#print axioms top3_any
end Go.Proofs.YteldfmgjbgedaaaGreat
