/-
  The reference of package disk: Load of what fits.
-/
import Derived.Test.YtflnlpbcmcfblaaRef14
namespace Go.Proofs.Ytflnlpbcmcfblaa
open Go.RowKit

theorem tearAll_tearN (S : DS) (l : List Int) (k : Nat) (hk : k < l.length) (tn : Nat) (h : l[k] = tn) : S.tearAll (l.take (k + 1)) = (S.tearAll (l.take k)).tearN tn := by
  rw [tearAll_take_succ S l k hk, h]; rfl

set_option maxRecDepth 20000 in
set_option maxHeartbeats 4000000 in
theorem rload_ok (w : World) (g off cap : Nat) (image : List UInt8) (tv : Value) (torn : List Int) (n : Nat) (hn : image.length = n * 64) (hcap : image.length ≤ cap) (h1 : 1 ≤ n) (h2 : n ≤ 16384)
    (hx : off + image.length ≤ (rowOf w g).size) (hc : cut (rowOf w g) off image.length = bvA image) (ht : IntsAt w tv torn) (hok : ∀ t ∈ torn, 0 ≤ t ∧ t < n) :
    Calls Try.prog 43 #[.slice (some ⟨g, off, none⟩) image.length cap, tv] w fun e w' => ∃ gd gt cd ct f, e = .returned (.tuple #[.agg #[.bool true, .bool false, .int .i64 (-1), .slice (some ⟨gd, 0, none⟩) n cd, .slice (some ⟨gt, 0, none⟩) n ct, .slice none 0 0, .int .i64 0, .int .i64 0], .int .i64 0]) ∧
      RVal w' f gd gt n (DS.load image torn) ∧ Fr (fun _ => False) w w' ∧ ∀ k, f k → w.heap.size ≤ k := by
  obtain ⟨at_, capt, rfl, hmt, ht2⟩ := id ht
  have HIT := Lib.hid ht
  have HN := Lib.hid hn
  have HX := Lib.hid hx
  have HC := Lib.hid hc
  have HK := Lib.hid hok
  obtain ⟨L, hL⟩ : ∃ L, image.length = L := ⟨_, rfl⟩
  have hgl : g < w.heap.size := rowOf_lt (by omega)
  rw [hL] at hn hcap ⊢
  rw [hn] at hcap
  have HLL := Lib.hid hL
  obtain ⟨q, hq⟩ : ∃ q, torn.length = q := ⟨_, rfl⟩
  have HQ := Lib.hid hq
  rw [hq] at HIT hmt ⊢
  have e1 : Int.tmod (L : Int) 64 = 0 := by rw [hn]; simp
  have e2 : Int.tdiv (L : Int) 64 = n := by rw [hn]; simp
  have n1 : ¬ (n : Int) < 1 := by omega
  have n2 : ¬ (16384 : Int) < n := by omega
  clear hx hc hok ht2 ht hL hq
  go_enter Try.func43, Try.ntmps43
  go_wp2
  go_loop [7] (fun i => ∃ k : Nat, k ≤ q ∧ i = .int .i64 k) (fun i => q - (intOf i).toNat)
  case atStart => exact ⟨0, Nat.zero_le _, rfl⟩
  case round =>
    obtain ⟨k, hk, rfl⟩ := hrel
    by_cases hlt : k < q
    · obtain ⟨gx, ox, hax, hc0⟩ := HIT.out.cell HQ.out hlt
      subst hax
      have hgx : gx < w.heap.size := rowOf_lt (by have := (Array.getElem?_eq_some_iff.1 hc0).1; omega)
      have hki : (k : Int) < (q : Int) := by omega
      obtain ⟨hx0, hx1⟩ := HK.out _ (List.getElem_mem (show k < torn.length by have := HQ.out; omega))
      obtain ⟨x, hx⟩ : ∃ x, torn[k]'(by have := HQ.out; omega) = x := ⟨_, rfl⟩
      rw [hx] at hc0 hx0 hx1
      have hx2 : ¬ x < 0 := by omega
      have hx3 : ¬ (n : Int) ≤ x := by omega
      clear hx
      go_wp2
      go_round
      case rel => exact ⟨k + 1, by omega, by go_num⟩
      case measure => simp [intOf]; omega
    · obtain rfl : k = q := by omega
      clear hlt hk
      have FA := Lib.hid (show ∀ X, Fr (fun _ => False) w (w.alloc X) from fun X => (Fr.refl _ w).alloc X)
      go_wp2_with fail
      obtain ⟨w0, hw0⟩ : ∃ w0, w.alloc (.cells #[Value.bool false, .bool false, .int .i64 0, .slice none 0 0, .slice none 0 0, .slice none 0 0, .int .i64 0, .int .i64 0] 50) = w0 := ⟨_, rfl⟩
      have F0 := Lib.hid (show Fr (fun _ => False) w w0 by rw [← hw0]; exact FA.out _)
      have B0 := Lib.hid (show rowOf w0 w.heap.size = #[Value.bool false, .bool false, .int .i64 0, .slice none 0 0, .slice none 0 0, .slice none 0 0, .int .i64 0, .int .i64 0] ∧ live w0 w.heap.size = true ∧ w0.heap.size = w.heap.size + 1 by rw [← hw0]; exact ⟨rowOf_alloc_at _ _ _ _ _ rfl, live_alloc_at _ _ _ _ rfl, by simp⟩)
      rw [hw0]
      clear hw0 FA
      refine (rnew_ok2 w0 n h1 h2).mono ?_
      rintro e w1 ⟨gd, gt, cd, ct, rfl, v1, f1, d1⟩
      have V1 := Lib.hid v1
      have F1 := Lib.hid f1
      have D1 := Lib.hid d1
      clear v1 f1 d1
      obtain ⟨b8, hb8⟩ : ∃ b8, w1.heap.size = b8 := ⟨_, rfl⟩
      obtain ⟨w2, hw2⟩ : ∃ w2, w1.alloc (.cells #[.bool true, .bool false, .int .i64 (-1), .slice (some ⟨gd, 0, none⟩) n cd, .slice (some ⟨gt, 0, none⟩) n ct, .slice none 0 0, .int .i64 0, .int .i64 0] 50) = w2 := ⟨_, rfl⟩
      obtain ⟨f1, hf1⟩ : ∃ f1 : Nat → Prop, (fun k => w0.heap.size ≤ k ∧ k < w1.heap.size) = f1 := ⟨_, rfl⟩
      have FL := Lib.hid (show ∀ k, f1 k → w0.heap.size ≤ k ∧ k < b8 by intro k hk; rw [← hf1] at hk; rw [← hb8]; exact hk)
      rw [hf1] at V1
      have f12 : Fr (fun _ => False) w1 w2 := by rw [← hw2]; exact (Fr.refl _ w1).alloc _
      have V2 := Lib.hid (V1.out.keep f12 (fun _ _ h => h))
      have D2 := Lib.hid (show RDist w2 gd n by unfold RDist; rw [f12.row (live_lt V1.out.ld) (fun h => h)]; exact D1.out)
      have F2 := Lib.hid (F1.out.trans f12 (fun _ _ h => h))
      have R8 := Lib.hid (show rowOf w2 b8 = #[.bool true, .bool false, .int .i64 (-1), .slice (some ⟨gd, 0, none⟩) n cd, .slice (some ⟨gt, 0, none⟩) n ct, .slice none 0 0, .int .i64 0, .int .i64 0] ∧ live w2 b8 = true by rw [← hw2, ← hb8]; exact ⟨rowOf_alloc_at _ _ _ _ _ rfl, live_alloc_at _ _ _ _ rfl⟩)
      have HB8 := Lib.hid hb8
      have HW2 := Lib.hid hw2
      have B80 := Lib.hid (show w0.heap.size ≤ b8 by rw [← hb8]; exact F1.out.size)
      clear hb8 hw2 hf1 f12
      go_wp2
      rw [HW2.out, HB8.out]
      clear HW2 HB8 V1 D1
      go_loopw [10] (fun i wr => ∃ k : Nat, k ≤ n ∧ i = .int .i64 k ∧ RVal wr f1 gd gt n (DS.laidUpto image n k) ∧ RDist wr gd n ∧ Fr f1 w2 wr) (fun i _ => n - (intOf i).toNat)
      case atStart => exact ⟨0, Nat.zero_le _, rfl, V2.out, D2.out, Fr.refl _ _⟩
      case round =>
        obtain ⟨m, hm, rfl, hv, hd, hf⟩ := hrel
        have HV := Lib.hid hv
        have HD := Lib.hid hd
        have HF := Lib.hid hf
        have nf8 : ¬ f1 b8 := fun e => by have := (FL.out _ e).2; omega
        have l8 := live_lt R8.out.2
        have row8 := (hf.row l8 nf8).trans R8.out.1
        have live8 := (hf.liv l8 nf8).trans R8.out.2
        clear hv hd hf
        by_cases hlt : m < n
        · have hki : (m : Int) < (n : Int) := by omega
          have hmm := Nat.mul_le_mul_right 64 (show m + 1 ≤ n from hlt)
          obtain ⟨u, hcell, ou, -⟩ := HV.out.data m (by rw [DS.chunks_len HV.out.ok, HV.out.nn]; exact hlt)
          have h64 := DS.chunk64 HV.out.ok _ (List.getElem_mem (show m < (DS.laidUpto image n m).chunks.length by rw [DS.chunks_len HV.out.ok, HV.out.nn]; exact hlt))
          obtain ⟨gu, ext, rfl, -, lu, hmx, hru⟩ := ou
          obtain ⟨ch, hch⟩ : ∃ ch, (DS.laidUpto image n m).chunks[m]'(by rw [DS.chunks_len HV.out.ok, HV.out.nn]; exact hlt) = ch := ⟨_, rfl⟩
          rw [hch] at h64 hcell hmx hru
          rw [h64] at hcell hmx
          have HRU := Lib.hid hru
          have H64 := Lib.hid h64
          have hus : 64 ≤ (rowOf wr gu).size := by rw [hru, bvA_size, List.length_append]; omega
          have s0 := B0.out.2.2
          have nfg : ¬ f1 g := fun e => by have := (FL.out _ e).1; omega
          have rg : rowOf wr g = rowOf w g := by rw [HF.out.row (by have := F2.out.size; omega) nfg, F2.out.row (by omega) (fun h => h), F0.out.row hgl (fun h => h)]
          have hgs : off + m * 64 + 64 ≤ (rowOf wr g).size := by rw [rg]; have := HX.out; rw [HLL.out] at this; omega
          have hcc : cut (rowOf wr g) (off + m * 64) 64 = bvA (chunk image m) := by rw [rg]; exact cut_chunk HN.out hlt HX.out HC.out
          have hk3 : m * 64 ≤ n * 64 := by omega
          have hk64 : 64 ≤ n * 64 - m * 64 := by omega
          have hkn : ¬ (n * 64 = m * 64) := by omega
          have hcp : m * 64 ≤ cap := by omega
          have EXT := Lib.hid (show ∃ e : Nat, ext.length = e from ⟨_, rfl⟩)
          have hones : ones (bvA (chunk image m)) := bvA_ones _
          clear rg hru h64 hch
          go_wp2
          go_region
          go_wp2
          go_roundw
          case rel =>
            have hl := laidUpto_fields image n m
            have ht0 : (DS.laidUpto image n m).torn[m]? = some false := by rw [hl.2.1]; simp [hlt]
            have FX : Fr (fun i => i = gu) wr ((wr.setRow gu (blit (rowOf wr gu) 0 (bvA (chunk image m)))).drew) := ((Fr.refl (fun i => i = gu) wr).setRow _ _ (fun _ => rfl)).drew
            have fgu : f1 gu := by
              obtain ⟨u, b1, -, b3⟩ := HV.out.data m (by rw [DS.chunks_len HV.out.ok, HV.out.nn]; exact hlt)
              rw [hcell] at b1
              obtain rfl := Option.some.inj b1
              exact (b3 gu rfl).1
            obtain ⟨q1, q2⟩ := HV.out.fill HD.out (c := chunk image m) (e := ext) hlt (chunk_len HN.out hlt) hcell FX rfl hmx (by simp [go_sem, lu]) (by
              rw [rowOf_drew, rowOf_setRow_same _ _ _ lu, HRU.out]
              have := bvA_blit [] ch ext (chunk image m) 0 rfl (by rw [H64.out, chunk_len HN.out hlt])
              simpa using this) ht0
            exact ⟨m + 1, by omega, by go_num, by rw [laidUpto_succ]; exact q1, q2, HF.out.trans (FX.mono (fun i _ e => by rw [e]; exact fgu)) (fun _ _ h => h)⟩
          case measure => simp [intOf]; omega
        · obtain rfl : m = n := by omega
          have HRP := Lib.hid (HV.out.box nf8 row8 live8)
          obtain ⟨f3, hf3⟩ : ∃ f3 : Nat → Prop, (fun k => f1 k ∨ k = b8) = f3 := ⟨_, rfl⟩
          rw [hf3] at HRP
          have FL3 := Lib.hid (show ∀ k, f3 k → w0.heap.size ≤ k by intro k hk; rw [← hf3] at hk; rcases hk with hk | rfl; exact (FL.out k hk).1; exact B80.out)
          have FT := Lib.hid (show Fr (fun k => w0.heap.size ≤ k) w0 wr from (F2.out.mono (fun _ _ h => h.elim)).trans (HF.out.mono (fun k _ hk => (FL.out k hk).1)) (fun _ _ h => h))
          obtain ⟨S1, hS1⟩ : ∃ S1, DS.laidUpto image m m = S1 := ⟨_, rfl⟩
          have HS1 := Lib.hid hS1
          rw [hS1] at HRP
          have SF := Lib.hid (hS1 ▸ laidUpto_fields image m m)
          clear hS1 hf3 row8 live8 hlt hm HV HD HF FL F2 V2 D2 R8
          go_wp2
          go_loopw [11] (fun i wt => ∃ (j : Nat) (fj : Nat → Prop), j ≤ k ∧ i = .int .i64 j ∧ RRep wt fj b8 gd gt (S1.tearAll (torn.take j)) ∧ Moves f3 fj wr wt) (fun i _ => k - (intOf i).toNat)
          case atStart => exact ⟨0, f3, Nat.zero_le _, rfl, HRP.out, Moves.refl _ _⟩
          case round =>
            obtain ⟨j, fj, hj, rfl, hrep, hmv⟩ := hrel
            have HR2 := Lib.hid hrep
            have HMV := Lib.hid hmv
            have GT := Lib.hid (FT.out.trans (hmv.fr.mono (fun k _ hk => FL3.out k hk)) (fun _ _ h => h))
            clear hrep hmv
            by_cases hjt : j < k
            · obtain ⟨gx, ox, hax, hc0⟩ := HIT.out.cell HQ.out hjt
              subst hax
              have hgx : gx < w.heap.size := rowOf_lt (by have := (Array.getElem?_eq_some_iff.1 hc0).1; omega)
              have s0 := B0.out.2.2
              have rgx : rowOf wr gx = rowOf w gx := by rw [GT.out.row (by omega) (by omega), F0.out.row hgx (fun h => h)]
              rw [← rgx] at hc0
              have hji : (j : Int) < (k : Int) := by omega
              have hjl : j < torn.length := by have := HQ.out; omega
              obtain ⟨hx0, hx1⟩ := HK.out _ (List.getElem_mem hjl)
              obtain ⟨tn, htn⟩ : ∃ tn : Nat, torn[j] = tn := ⟨torn[j].toNat, by omega⟩
              have TS := Lib.hid (tearAll_tearN S1 torn j hjl tn htn)
              rw [htn] at hc0 hx0 hx1
              have htm : tn < (S1.tearAll (torn.take j)).data.length := by rw [(tearAll_fields _ _).1, SF.out.1]; omega
              clear htn rgx
              go_wp2_with fail
              refine (rtear_any wr fj b8 gd gt _ HR2.out tn htm).mono ?_
              rintro e w3 ⟨rfl, f4, h4, m4⟩
              have H4 := Lib.hid h4
              have M4 := Lib.hid (HMV.out.trans m4)
              clear h4 m4 hc0
              go_wp2
              go_roundw
              case rel => exact ⟨j + 1, f4, by omega, by go_num, by rw [TS.out]; exact H4.out, M4.out⟩
              case measure => simp [intOf]; omega
            · obtain rfl : j = k := by omega
              have ET : S1.tearAll (torn.take j) = DS.load image torn := by
                have e3 : image.length / 64 = m := by rw [HN.out]; simp
                unfold DS.load
                rw [e3, HS1.out, List.take_of_length_le (by have := HQ.out; omega)]
              have TF := tearAll_fields (torn.take j) S1
              rw [ET] at HR2 TF
              obtain ⟨t1, t2, t3, t4, t5, t6, t7, t8⟩ := TF
              obtain ⟨q1, q2, q3, q4, q5, q6, q7, q8⟩ := SF.out
              obtain ⟨⟨cd2, ct2, row8⟩, hv⟩ := HR2.out.val (t3.trans q3) (t4.trans q4) (t5.trans q5) (t7.trans q7) (t8.trans q8)
              have hdl : (DS.load image torn).data.length = m := by rw [t1, q1]
              rw [hdl] at row8 hv
              have HVV := Lib.hid hv
              have l4 := B0.out.2.1
              have ll4 := live_lt l4
              have s0 := B0.out.2.2
              have row4 := (GT.out.row ll4 (by omega)).trans B0.out.1
              have live4 := (GT.out.liv ll4 (by omega)).trans l4
              clear hv t1 t2 t3 t4 t5 t6 t7 t8 q1 q2 q3 q4 q5 q6 q7 q8 ET hdl
              go_wp2
              have nf : ∀ i, fj i → w0.heap.size ≤ i := fun i hi => (HMV.out.new i hi).elim (FL3.out i) (fun e => by have := FT.out.size; omega)
              have FX : ∀ c, Fr (fun i => i = w.heap.size) wr (wr.setRow w.heap.size c) := fun c => (Fr.refl (fun i => i = w.heap.size) wr).setRow _ _ (fun _ => rfl)
              refine bodyPost_ret (results43 rfl rfl (rowOf_setRow_same _ _ _ live4)) rfl ⟨gd, gt, cd2, ct2, fj, rfl, HVV.out.keep (FX _) (fun i hi e => by have := nf i hi; omega), ?_, fun i hi => by have := nf i hi; omega⟩
              exact (F0.out.trans GT.out (fun i hi e => by omega)).trans (FX _) (fun i hi e => by omega)

end Go.Proofs.Ytflnlpbcmcfblaa
