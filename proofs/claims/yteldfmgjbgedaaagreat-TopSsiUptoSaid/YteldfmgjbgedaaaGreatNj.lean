/-
  Package ssi: Commit.
-/
import Derived.Test.YteldfmgjbgedaaaGreatNil
namespace Go.Proofs.YteldfmgjbgedaaaGreat
open Go.RowKit Go.Maps

section
variable {w : World} {cls : Nat → Nat} {P : MP} {q : Nat} {S : MS}

theorem one_of {S : MS} {xs : List Nat} {t : Nat} {rt : Nat × TR} (h : ∀ i, i ∈ xs ↔ ∃ p, S.T i = some p ∧ p.2.act = true) (ht : S.T t = some rt) (ha : rt.2.act = true) : 0 < xs.length :=
  List.length_pos_of_mem ((h t).mpr ⟨rt, ht, ha⟩)

theorem alone {S : MS} {xs : List Nat} {t : Nat} {rt : Nat × TR} (h1 : ¬ 1 < xs.length) (h : ∀ i, i ∈ xs ↔ ∃ p, S.T i = some p ∧ p.2.act = true) (ht : S.T t = some rt) (ha : rt.2.act = true) :
    ∀ o p, o ≠ t → S.T o = some p → p.2.act = false := by
  intro o p ho hp
  cases e : p.2.act with
  | false => rfl
  | true =>
    have m1 := (h t).mpr ⟨rt, ht, ha⟩
    have m2 := (h o).mpr ⟨p, hp, e⟩
    match xs, h1, m1, m2 with
    | [x], _, m1, m2 => exact absurd ((List.mem_singleton.mp m2).trans (List.mem_singleton.mp m1).symm) ho
    | x :: y :: r, h1, _, _ => exact absurd (by simp) h1

set_option maxRecDepth 20000 in
set_option maxHeartbeats 4000000 in
theorem Mgr.commit19 (H53 : Sorts53) (H68 : Sorts68) (H72 : Sorts72) (h : Mgr w cls P q S) {t : Nat} {rt : Nat × TR} (ht : S.T t = some rt) (ha : rt.2.act = true) (hclock : S.clock + 1 < 2 ^ 41) (hnow : S.now + 1 < 2 ^ 41) :
    Calls Tryz.prog 19 #[.pointer (some ⟨P.m, 0, none⟩), .int .i64 (t : Nat)] w fun e w' =>
      (∃ c : Int, c ≠ 0 ∧ e = .returned (.tuple #[.int .i64 0, .int .i64 c]) ∧ GoneRes w cls P q S t w') ∨
      (∃ l : List Key, e = .returned (.tuple #[.int .i64 ((if l = [] then S.now else S.now + 1 : Nat) : Int), .int .i64 0]) ∧ CommitRes w cls P q S t rt l w') := by
  have HA := Lib.hid (h.active29 ht ha)
  have HG := Lib.hid (h.gone' H53 H68 ht)
  have HAC := Lib.hid (h.active26 H53)
  obtain ⟨n1, g1, hn1, htx⟩ := h.tx
  obtain ⟨-, hla, hra, ht40⟩ := htx.at_ t rt ht
  obtain ⟨hc4, hnum, ht1⟩ := h.ct t rt ht
  have hlm := h.lm
  have hrow := h.row
  have H := Lib.hid h
  have HT := Lib.hid ht
  have HNE := Lib.hid (show P.m ≠ rt.1 from fun e => by have := h.cm; rw [e, hc4] at this; omega)
  unfold mgRow at hrow
  unfold TR.row txRow at hra
  rw [hnum, ha] at hra
  clear h htx ht
  by_cases hff : rt.2.fi = true ∧ rt.2.fo = true
  · rw [hff.1, hff.2] at hra
    clear hff
    go_enter Tryz.func19, Tryz.ntmps19
    go_wp2_with (first | (go_at_call 29; refine HA.out.mono ?_; rintro e w' ⟨rfl, rfl⟩) | (go_at_call 33; refine HG.out.mono ?_; rintro e w' ⟨rfl, hg⟩))
    go_ret2
    exact .inl ⟨100, by omega, rfl, hg.out⟩
  · have HFF := Lib.hid hff
    obtain ⟨b1, hb1⟩ : ∃ b, b = rt.2.fi := ⟨_, rfl⟩
    obtain ⟨b2, hb2⟩ : ∃ b, b = rt.2.fo := ⟨_, rfl⟩
    have hbb : b1 = false ∨ (b1 = true ∧ b2 = false) := by
      rw [hb1, hb2]
      cases e1 : rt.2.fi with
      | false => exact .inl rfl
      | true => cases e2 : rt.2.fo with
        | false => exact .inr ⟨rfl, rfl⟩
        | true => exact absurd ⟨e1, e2⟩ hff
    rw [← hb1, ← hb2] at hra
    have HB1 := Lib.hid hb1
    have HB2 := Lib.hid hb2
    clear hff hb1 hb2
    rcases hbb with rfl | ⟨rfl, rfl⟩
    all_goals
      go_enter Tryz.func19, Tryz.ntmps19
      go_wp2_with (first
        | (go_at_call 29; refine HA.out.mono ?_; rintro e w' ⟨rfl, rfl⟩)
        | (go_at_call 26; refine HAC.out.mono ?_; rintro e w1 ⟨a1, c1, xs, rfl, HX, HF1, hx40⟩; have hrow1 := (HF1.out.row (live_lt hlm) (fun e => e)).trans hrow; have lm1 := (HF1.out.liv (live_lt hlm) (fun e => e)).trans hlm; have HLD := Lib.hid ((H.out.fr0 HF1.out).held41 H68 t))
        | (go_at_call 41; refine HLD.out.mono ?_; rintro e w2 ⟨a2, c2, l, rfl, HOL, HL, HF2, hl40⟩; have hrow2 := (HF2.out.row (live_lt lm1) (fun e => e)).trans hrow1; have lm2 := (HF2.out.liv (live_lt lm1) (fun e => e)).trans lm1; have HOF := Lib.hid (((H.out.fr0 HF1.out).fr0 HF2.out).of42' H72 t))
        | (go_at_call 42; refine HOF.out.mono ?_; rintro e w3 ⟨a3, c3, rfl, HF3⟩; have hrow3 := (HF3.out.row (live_lt lm2) (fun e => e)).trans hrow2; have lm3 := (HF3.out.liv (live_lt lm2) (fun e => e)).trans lm2))
      -- CASES
      · have hl0 : l = [] := by assumption
        by_cases hN : 0 < lenO (S.N t)
        case' neg => (have hdn : decide (0 < lenO (S.N t)) = false := decide_eq_false hN)
        case' pos => (have hdn : decide (0 < lenO (S.N t)) = true := decide_eq_true hN)
        case neg =>
          have HFW := Lib.hid ((HF1.out.trans HF2.out (fun _ _ h => h)).trans HF3.out (fun _ _ h => h))
          have HMW := Lib.hid (H.out.fr0 HFW.out)
          have hl00 : lenO (S.N t) = 0 := by omega
          by_cases hx1 : 1 < xs.length
          · have hdx : decide ((1 : Int) < (xs.length : Int)) = true := decide_eq_true (by omega)
            have hd1 : ((xs.length : Int) == 1) = false := by simp; omega
            go_region
            all_goals
              have hraW := (HFW.out.row (live_lt hla) (fun e => e)).trans hra
              have hlaW := (HFW.out.liv (live_lt hla) (fun e => e)).trans hla
              have hltW := live_lt lm3
              have hltX := live_lt hlaW
              have hne : P.m ≠ rt.1 := HNE.out
              have hne' : rt.1 ≠ P.m := fun e => hne e.symm
              have hwc : IntKind.i64.wrap ((S.clock : Int) + 1) = (S.clock : Int) + 1 := by rw [IntKind.wrap_i64]; omega
              have hwn : IntKind.i64.wrap ((S.now : Int) + 1) = (S.now : Int) + 1 := by rw [IntKind.wrap_i64]; omega
              go_upto_region 17 with fail
              obtain ⟨R1, hR1⟩ : ∃ R : Array Value, R = #[.int .i64 P.ca, .int .i64 P.ck, .int .i64 P.cr, .int .i64 P.cl, .int .i64 (S.now : Nat), .int .i64 (S.last : Nat), .int .i64 ((S.clock : Int) + 1), .map (some P.bm), .pointer (some ⟨P.bl, 0, none⟩), .pointer (some ⟨P.br, 0, none⟩)] := ⟨_, rfl⟩
              first | (obtain ⟨R2, hR2⟩ : ∃ R : Array Value, R = #[.int .i64 (t : Nat), .int .i64 (rt.2.snap : Nat), .bool false, .int .i64 (rt.2.b : Nat), .int .i64 ((S.clock : Int) + 1), .bool false, .bool b2, (.slice a2 0 c2)] := ⟨_, rfl⟩; rw [← hR2]) | (obtain ⟨R2, hR2⟩ : ∃ R : Array Value, R = #[.int .i64 (t : Nat), .int .i64 (rt.2.snap : Nat), .bool false, .int .i64 (rt.2.b : Nat), .int .i64 ((S.clock : Int) + 1), .bool true, .bool false, (.slice a2 0 c2)] := ⟨_, rfl⟩; rw [← hR2])
              rw [← hR1]
              have e1 : R1 = mgRow P.ca P.ck P.cr P.cl ((if l = [] then S.now else S.now + 1 : Nat) : Int) S.last ((S.clock + 1 : Nat) : Int) P.bm P.bl P.br := by rw [hR1]; unfold mgRow; rw [if_pos hl0]; rfl
              have e2 : R2 = (TR.mk rt.2.n rt.2.snap false rt.2.b (S.clock + 1) rt.2.fi rt.2.fo (.slice a2 0 c2)).row := by rw [hR2]; unfold TR.row txRow; rw [hnum, ← HB1.out, ← HB2.out]; rfl
              obtain ⟨cls', hcc, hfm, hM0⟩ := H.out.commitRow HFW.out HT.out (v := (.slice a2 0 c2)) (l := l) (lo := w1.heap.size) (by have := (HOL.out.keep HF3.out (fun _ _ h => h)); first | exact this | (rw [hl0] at this ⊢; exact this)) HF1.out.size (if l = [] then S.now else S.now + 1) R1 R2 e1 e2
              have hM1 := hM0.fr0 ((Fr.refl (fun _ => False) _).drew)
              have hfm1 := hfm.drew
              have hrz := hM1.row.trans e1.symm
              generalize hwz : ((w3.setRow P.m R1).setRow rt.1 R2).drew = wz at hM1 hfm1 hrz ⊢
              rw [hR1] at hrz
              have HR := Lib.hid (hM1.release H68 t)
              have HFM := Lib.hid hfm1
              clear hM0 hfm hM1 hfm1 hwz e1 e2 hR1 hR2 hraW hlaW
              go_wp2_with (first | (go_at_call 43; refine HR.out.mono ?_; rintro e w5 ⟨v5, rfl, hM5, hf5⟩; have HF5 := Lib.hid hf5; have hrow5 : rowOf w5 P.m = mgRow P.ca P.ck P.cr P.cl ((if l = [] then S.now else S.now + 1 : Nat) : Int) S.last ((S.clock + 1 : Nat) : Int) P.bm P.bl P.br := hM5.row; unfold mgRow at hrow5; have HD := Lib.hid (hM5.dropN ht1); clear hM5 hf5) | (go_at_call 44; refine HD.out.mono ?_; rintro e w6 ⟨rfl, hM6, hf6⟩; have HF6 := Lib.hid hf6; have hrow6 : rowOf w6 P.m = mgRow P.ca P.ck P.cr P.cl ((if l = [] then S.now else S.now + 1 : Nat) : Int) S.last ((S.clock + 1 : Nat) : Int) P.bm P.bl P.br := hM6.row; unfold mgRow at hrow6; obtain ⟨n4, g4, hn4, htx4⟩ := hM6.tx; obtain ⟨w7, hst, hm7, hf7⟩ := htx4.map.drop law2 Tryz.underlying55 (.int .i64 (t : Nat)) (key2 (wf_nat ht40)) 0; have HF7 := Lib.hid hf7; have HFG := Lib.hid (((hM6.delT htx4 hn4 hm7 hf7).1).forget H53); clear hM6 hf6 htx4 hm7 hf7) | (go_at_call 45; refine HFG.out.mono ?_; rintro e w9 ⟨rfl, F, hM9, hF, hf9⟩; have HF9 := Lib.hid hf9; have hrow9 : rowOf w9 P.m = mgRow P.ca P.ck P.cr P.cl ((if l = [] then S.now else S.now + 1 : Nat) : Int) S.last ((S.clock + 1 : Nat) : Int) P.bm P.bl P.br := hM9.row; unfold mgRow at hrow9; have HM9 := Lib.hid hM9; have HFF9 := Lib.hid hF; clear hM9 hF hf9))
              go_ret2
              have hbr : Mine cls P P.br := .inl (by rw [H.out.cr_]; omega)
              have f5 : Fr (Mine cls P) w w5 := HFM.out.trans HF5.out (fun _ _ e => .inr (.inr (.inl e)))
              have f6 : Fr (Mine cls P) w w6 := f5.trans HF6.out (fun _ _ e => e.elim (fun e => by rw [e]; exact hbr) (fun e => .inr (.inr (.inr e))))
              have f7 : Fr (Mine cls P) w w7 := f6.trans HF7.out (fun _ _ e => .inr (.inl e))
              have f9 : Fr (Mine cls P) w w9 := f7.trans HF9.out (fun _ _ e => e.elim (fun e => .inr (.inl e)) (fun e => e.elim (fun e => by rw [e]; exact hbr) (fun e => .inr (.inr (.inr e)))))
              exact .inr ⟨l, (by first | rfl | (rw [if_neg hl0]; rfl) | (rw [if_pos hl0]; rfl)), (.slice a2 0 c2), cls', true, F, HFF.out, HL.out, (fun _ => .inr ⟨hl0, hl00⟩), hcc, f9, HM9.out, HFF9.out⟩
          · have hdx : decide ((1 : Int) < (xs.length : Int)) = false := decide_eq_false (by omega)
            have hd1 : ((xs.length : Int) == 1) = true := by have := one_of HX.out HT.out ha; simp; omega
            go_region
            all_goals
              have hraW := (HFW.out.row (live_lt hla) (fun e => e)).trans hra
              have hlaW := (HFW.out.liv (live_lt hla) (fun e => e)).trans hla
              have hltW := live_lt lm3
              have hltX := live_lt hlaW
              have hne : P.m ≠ rt.1 := HNE.out
              have hne' : rt.1 ≠ P.m := fun e => hne e.symm
              have hwc : IntKind.i64.wrap ((S.clock : Int) + 1) = (S.clock : Int) + 1 := by rw [IntKind.wrap_i64]; omega
              have hwn : IntKind.i64.wrap ((S.now : Int) + 1) = (S.now : Int) + 1 := by rw [IntKind.wrap_i64]; omega
              go_upto_region 17 with fail
              obtain ⟨R1, hR1⟩ : ∃ R : Array Value, R = #[.int .i64 P.ca, .int .i64 P.ck, .int .i64 P.cr, .int .i64 P.cl, .int .i64 (S.now : Nat), .int .i64 (S.last : Nat), .int .i64 ((S.clock : Int) + 1), .map (some P.bm), .pointer (some ⟨P.bl, 0, none⟩), .pointer (some ⟨P.br, 0, none⟩)] := ⟨_, rfl⟩
              first | (obtain ⟨R2, hR2⟩ : ∃ R : Array Value, R = #[.int .i64 (t : Nat), .int .i64 (rt.2.snap : Nat), .bool false, .int .i64 (rt.2.b : Nat), .int .i64 ((S.clock : Int) + 1), .bool false, .bool b2, (.slice a2 0 c2)] := ⟨_, rfl⟩; rw [← hR2]) | (obtain ⟨R2, hR2⟩ : ∃ R : Array Value, R = #[.int .i64 (t : Nat), .int .i64 (rt.2.snap : Nat), .bool false, .int .i64 (rt.2.b : Nat), .int .i64 ((S.clock : Int) + 1), .bool true, .bool false, (.slice a2 0 c2)] := ⟨_, rfl⟩; rw [← hR2])
              rw [← hR1]
              have e1 : R1 = mgRow P.ca P.ck P.cr P.cl ((if l = [] then S.now else S.now + 1 : Nat) : Int) S.last ((S.clock + 1 : Nat) : Int) P.bm P.bl P.br := by rw [hR1]; unfold mgRow; rw [if_pos hl0]; rfl
              have e2 : R2 = (TR.mk rt.2.n rt.2.snap false rt.2.b (S.clock + 1) rt.2.fi rt.2.fo (.slice a2 0 c2)).row := by rw [hR2]; unfold TR.row txRow; rw [hnum, ← HB1.out, ← HB2.out]; rfl
              obtain ⟨cls', hcc, hfm, hM0⟩ := H.out.commitRow HFW.out HT.out (v := (.slice a2 0 c2)) (l := l) (lo := w1.heap.size) (by have := (HOL.out.keep HF3.out (fun _ _ h => h)); first | exact this | (rw [hl0] at this ⊢; exact this)) HF1.out.size (if l = [] then S.now else S.now + 1) R1 R2 e1 e2
              have hM1 := hM0.fr0 ((Fr.refl (fun _ => False) _).drew)
              have hfm1 := hfm.drew
              have hrz := hM1.row.trans e1.symm
              generalize hwz : ((w3.setRow P.m R1).setRow rt.1 R2).drew = wz at hM1 hfm1 hrz ⊢
              rw [hR1] at hrz
              have HR := Lib.hid (hM1.release H68 t)
              have HFM := Lib.hid hfm1
              clear hM0 hfm hM1 hfm1 hwz e1 e2 hR1 hR2 hraW hlaW
              go_wp2_with (first | (go_at_call 43; refine HR.out.mono ?_; rintro e w5 ⟨v5, rfl, hM5, hf5⟩; have HF5 := Lib.hid hf5; have hrow5 : rowOf w5 P.m = mgRow P.ca P.ck P.cr P.cl ((if l = [] then S.now else S.now + 1 : Nat) : Int) S.last ((S.clock + 1 : Nat) : Int) P.bm P.bl P.br := hM5.row; unfold mgRow at hrow5; have HD := Lib.hid (hM5.dropN ht1); clear hM5 hf5) | (go_at_call 44; refine HD.out.mono ?_; rintro e w6 ⟨rfl, hM6, hf6⟩; have HF6 := Lib.hid hf6; have hrow6 : rowOf w6 P.m = mgRow P.ca P.ck P.cr P.cl ((if l = [] then S.now else S.now + 1 : Nat) : Int) S.last ((S.clock + 1 : Nat) : Int) P.bm P.bl P.br := hM6.row; unfold mgRow at hrow6; obtain ⟨n4, g4, hn4, htx4⟩ := hM6.tx; obtain ⟨w7, hst, hm7, hf7⟩ := htx4.map.drop law2 Tryz.underlying55 (.int .i64 (t : Nat)) (key2 (wf_nat ht40)) 0; have HF7 := Lib.hid hf7; have HFG := Lib.hid (((hM6.delT htx4 hn4 hm7 hf7).1).forget H53); clear hM6 hf6 htx4 hm7 hf7) | (go_at_call 45; refine HFG.out.mono ?_; rintro e w9 ⟨rfl, F, hM9, hF, hf9⟩; have HF9 := Lib.hid hf9; have hrow9 : rowOf w9 P.m = mgRow P.ca P.ck P.cr P.cl ((if l = [] then S.now else S.now + 1 : Nat) : Int) S.last ((S.clock + 1 : Nat) : Int) P.bm P.bl P.br := hM9.row; unfold mgRow at hrow9; have HM9 := Lib.hid hM9; have HFF9 := Lib.hid hF; clear hM9 hF hf9))
              go_ret2
              have hbr : Mine cls P P.br := .inl (by rw [H.out.cr_]; omega)
              have f5 : Fr (Mine cls P) w w5 := HFM.out.trans HF5.out (fun _ _ e => .inr (.inr (.inl e)))
              have f6 : Fr (Mine cls P) w w6 := f5.trans HF6.out (fun _ _ e => e.elim (fun e => by rw [e]; exact hbr) (fun e => .inr (.inr (.inr e))))
              have f7 : Fr (Mine cls P) w w7 := f6.trans HF7.out (fun _ _ e => .inr (.inl e))
              have f9 : Fr (Mine cls P) w w9 := f7.trans HF9.out (fun _ _ e => e.elim (fun e => .inr (.inl e)) (fun e => e.elim (fun e => by rw [e]; exact hbr) (fun e => .inr (.inr (.inr e)))))
              exact .inr ⟨l, (by first | rfl | (rw [if_neg hl0]; rfl) | (rw [if_pos hl0]; rfl)), (.slice a2 0 c2), cls', true, F, HFF.out, HL.out, (fun _ => .inr ⟨hl0, hl00⟩), hcc, f9, HM9.out, HFF9.out⟩
        have HFW := Lib.hid ((HF1.out.trans HF2.out (fun _ _ h => h)).trans HF3.out (fun _ _ h => h))
        have HMW := Lib.hid (H.out.fr0 HFW.out)
        have HGW := Lib.hid ((HMW.out.fr0 ((Fr.refl _ w3).drew)).gone' H53 H68 HT.out)
        obtain ⟨n5, g5, hn5, htx5⟩ := HMW.out.tx
        obtain ⟨mm, hmm, -, hlen⟩ := (htx5.map.fr ((Fr.refl (fun _ => False) w3).drew) (fun e => e)).len law2 Tryz.underlying55
        have hq40 := HMW.out.qb
        have hwrap : IntKind.i64.wrap ((mm : Int) - (xs.length : Int)) = (mm : Int) - (xs.length : Int) := by rw [IntKind.wrap_i64]; omega
        clear htx5
        by_cases hx1 : 1 < xs.length
        · have hdx : decide ((1 : Int) < (xs.length : Int)) = true := decide_eq_true (by omega)
          have hd1 : ((xs.length : Int) == 1) = false := by simp; omega
          by_cases hk : P.ck ≤ (mm : Int) - (xs.length : Int)
          · have hdk : decide (P.ck ≤ (mm : Int) - (xs.length : Int)) = true := decide_eq_true hk
            go_region
            all_goals
              go_wp2_with (go_at_call 33; refine HGW.out.mono ?_; rintro e w' ⟨rfl, HGR⟩)
              go_ret2
              obtain ⟨F, k1, k2, k3⟩ := HGR.out
              exact .inl ⟨4, by omega, rfl, F, k1, k2, ((Fr.mono HFW.out (fun _ _ h => h.elim)).drew).trans k3 (fun _ _ h => h)⟩
          · have hdk : decide (P.ck ≤ (mm : Int) - (xs.length : Int)) = false := decide_eq_false hk
            go_region
            all_goals
              have hraW := (HFW.out.row (live_lt hla) (fun e => e)).trans hra
              have hlaW := (HFW.out.liv (live_lt hla) (fun e => e)).trans hla
              have hltW := live_lt lm3
              have hltX := live_lt hlaW
              have hne : P.m ≠ rt.1 := HNE.out
              have hne' : rt.1 ≠ P.m := fun e => hne e.symm
              have hwc : IntKind.i64.wrap ((S.clock : Int) + 1) = (S.clock : Int) + 1 := by rw [IntKind.wrap_i64]; omega
              have hwn : IntKind.i64.wrap ((S.now : Int) + 1) = (S.now : Int) + 1 := by rw [IntKind.wrap_i64]; omega
              go_upto_region 17 with fail
              obtain ⟨R1, hR1⟩ : ∃ R : Array Value, R = #[.int .i64 P.ca, .int .i64 P.ck, .int .i64 P.cr, .int .i64 P.cl, .int .i64 (S.now : Nat), .int .i64 (S.last : Nat), .int .i64 ((S.clock : Int) + 1), .map (some P.bm), .pointer (some ⟨P.bl, 0, none⟩), .pointer (some ⟨P.br, 0, none⟩)] := ⟨_, rfl⟩
              first | (obtain ⟨R2, hR2⟩ : ∃ R : Array Value, R = #[.int .i64 (t : Nat), .int .i64 (rt.2.snap : Nat), .bool false, .int .i64 (rt.2.b : Nat), .int .i64 ((S.clock : Int) + 1), .bool false, .bool b2, (.slice a2 0 c2)] := ⟨_, rfl⟩; rw [← hR2]) | (obtain ⟨R2, hR2⟩ : ∃ R : Array Value, R = #[.int .i64 (t : Nat), .int .i64 (rt.2.snap : Nat), .bool false, .int .i64 (rt.2.b : Nat), .int .i64 ((S.clock : Int) + 1), .bool true, .bool false, (.slice a2 0 c2)] := ⟨_, rfl⟩; rw [← hR2])
              rw [← hR1]
              have e1 : R1 = mgRow P.ca P.ck P.cr P.cl ((if l = [] then S.now else S.now + 1 : Nat) : Int) S.last ((S.clock + 1 : Nat) : Int) P.bm P.bl P.br := by rw [hR1]; unfold mgRow; rw [if_pos hl0]; rfl
              have e2 : R2 = (TR.mk rt.2.n rt.2.snap false rt.2.b (S.clock + 1) rt.2.fi rt.2.fo (.slice a2 0 c2)).row := by rw [hR2]; unfold TR.row txRow; rw [hnum, ← HB1.out, ← HB2.out]; rfl
              obtain ⟨cls', hcc, hfm, hM0⟩ := H.out.commitRow HFW.out HT.out (v := (.slice a2 0 c2)) (l := l) (lo := w1.heap.size) (by have := (HOL.out.keep HF3.out (fun _ _ h => h)); first | exact this | (rw [hl0] at this ⊢; exact this)) HF1.out.size (if l = [] then S.now else S.now + 1) R1 R2 e1 e2
              have hM1 := hM0.fr0 ((Fr.refl (fun _ => False) _).drew)
              have hfm1 := hfm.drew
              have hrz := hM1.row.trans e1.symm
              generalize hwz : ((w3.setRow P.m R1).setRow rt.1 R2).drew = wz at hM1 hfm1 hrz ⊢
              rw [hR1] at hrz
              have HR := Lib.hid (hM1.release H68 t)
              have HFM := Lib.hid hfm1
              clear hM0 hfm hM1 hfm1 hwz e1 e2 hR1 hR2 hraW hlaW
              go_wp2_with (first | (go_at_call 43; refine HR.out.mono ?_; rintro e w5 ⟨v5, rfl, hM5, hf5⟩; have HF5 := Lib.hid hf5; have hrow5 : rowOf w5 P.m = mgRow P.ca P.ck P.cr P.cl ((if l = [] then S.now else S.now + 1 : Nat) : Int) S.last ((S.clock + 1 : Nat) : Int) P.bm P.bl P.br := hM5.row; unfold mgRow at hrow5; have HFG := Lib.hid (hM5.forget H53); clear hM5 hf5) | (go_at_call 45; refine HFG.out.mono ?_; rintro e w9 ⟨rfl, F, hM9, hF, hf9⟩; have HF9 := Lib.hid hf9; have hrow9 : rowOf w9 P.m = mgRow P.ca P.ck P.cr P.cl ((if l = [] then S.now else S.now + 1 : Nat) : Int) S.last ((S.clock + 1 : Nat) : Int) P.bm P.bl P.br := hM9.row; unfold mgRow at hrow9; have HM9 := Lib.hid hM9; have HFF9 := Lib.hid hF; clear hM9 hF hf9))
              go_ret2
              have hbr : Mine cls P P.br := .inl (by rw [H.out.cr_]; omega)
              have f5 : Fr (Mine cls P) w w5 := HFM.out.trans HF5.out (fun _ _ e => .inr (.inr (.inl e)))
              have f7 := f5
              have f9 : Fr (Mine cls P) w w9 := f7.trans HF9.out (fun _ _ e => e.elim (fun e => .inr (.inl e)) (fun e => e.elim (fun e => by rw [e]; exact hbr) (fun e => .inr (.inr (.inr e)))))
              exact .inr ⟨l, (by first | rfl | (rw [if_neg hl0]; rfl) | (rw [if_pos hl0]; rfl)), (.slice a2 0 c2), cls', false, F, HFF.out, HL.out, (fun h => nomatch h), hcc, f9, HM9.out, HFF9.out⟩
        · have hdx : decide ((1 : Int) < (xs.length : Int)) = false := decide_eq_false (by omega)
          have hd1 : ((xs.length : Int) == 1) = true := by have := one_of HX.out HT.out ha; simp; omega
          go_region
          all_goals
            have hraW := (HFW.out.row (live_lt hla) (fun e => e)).trans hra
            have hlaW := (HFW.out.liv (live_lt hla) (fun e => e)).trans hla
            have hltW := live_lt lm3
            have hltX := live_lt hlaW
            have hne : P.m ≠ rt.1 := HNE.out
            have hne' : rt.1 ≠ P.m := fun e => hne e.symm
            have hwc : IntKind.i64.wrap ((S.clock : Int) + 1) = (S.clock : Int) + 1 := by rw [IntKind.wrap_i64]; omega
            have hwn : IntKind.i64.wrap ((S.now : Int) + 1) = (S.now : Int) + 1 := by rw [IntKind.wrap_i64]; omega
            go_upto_region 17 with fail
            obtain ⟨R1, hR1⟩ : ∃ R : Array Value, R = #[.int .i64 P.ca, .int .i64 P.ck, .int .i64 P.cr, .int .i64 P.cl, .int .i64 (S.now : Nat), .int .i64 (S.last : Nat), .int .i64 ((S.clock : Int) + 1), .map (some P.bm), .pointer (some ⟨P.bl, 0, none⟩), .pointer (some ⟨P.br, 0, none⟩)] := ⟨_, rfl⟩
            first | (obtain ⟨R2, hR2⟩ : ∃ R : Array Value, R = #[.int .i64 (t : Nat), .int .i64 (rt.2.snap : Nat), .bool false, .int .i64 (rt.2.b : Nat), .int .i64 ((S.clock : Int) + 1), .bool false, .bool b2, (.slice a2 0 c2)] := ⟨_, rfl⟩; rw [← hR2]) | (obtain ⟨R2, hR2⟩ : ∃ R : Array Value, R = #[.int .i64 (t : Nat), .int .i64 (rt.2.snap : Nat), .bool false, .int .i64 (rt.2.b : Nat), .int .i64 ((S.clock : Int) + 1), .bool true, .bool false, (.slice a2 0 c2)] := ⟨_, rfl⟩; rw [← hR2])
            rw [← hR1]
            have e1 : R1 = mgRow P.ca P.ck P.cr P.cl ((if l = [] then S.now else S.now + 1 : Nat) : Int) S.last ((S.clock + 1 : Nat) : Int) P.bm P.bl P.br := by rw [hR1]; unfold mgRow; rw [if_pos hl0]; rfl
            have e2 : R2 = (TR.mk rt.2.n rt.2.snap false rt.2.b (S.clock + 1) rt.2.fi rt.2.fo (.slice a2 0 c2)).row := by rw [hR2]; unfold TR.row txRow; rw [hnum, ← HB1.out, ← HB2.out]; rfl
            obtain ⟨cls', hcc, hfm, hM0⟩ := H.out.commitRow HFW.out HT.out (v := (.slice a2 0 c2)) (l := l) (lo := w1.heap.size) (by have := (HOL.out.keep HF3.out (fun _ _ h => h)); first | exact this | (rw [hl0] at this ⊢; exact this)) HF1.out.size (if l = [] then S.now else S.now + 1) R1 R2 e1 e2
            have hM1 := hM0.fr0 ((Fr.refl (fun _ => False) _).drew)
            have hfm1 := hfm.drew
            have hrz := hM1.row.trans e1.symm
            generalize hwz : ((w3.setRow P.m R1).setRow rt.1 R2).drew = wz at hM1 hfm1 hrz ⊢
            rw [hR1] at hrz
            have HR := Lib.hid (hM1.release H68 t)
            have HFM := Lib.hid hfm1
            clear hM0 hfm hM1 hfm1 hwz e1 e2 hR1 hR2 hraW hlaW
            go_wp2_with (first | (go_at_call 43; refine HR.out.mono ?_; rintro e w5 ⟨v5, rfl, hM5, hf5⟩; have HF5 := Lib.hid hf5; have hrow5 : rowOf w5 P.m = mgRow P.ca P.ck P.cr P.cl ((if l = [] then S.now else S.now + 1 : Nat) : Int) S.last ((S.clock + 1 : Nat) : Int) P.bm P.bl P.br := hM5.row; unfold mgRow at hrow5; have HD := Lib.hid (hM5.dropN ht1); clear hM5 hf5) | (go_at_call 44; refine HD.out.mono ?_; rintro e w6 ⟨rfl, hM6, hf6⟩; have HF6 := Lib.hid hf6; have hrow6 : rowOf w6 P.m = mgRow P.ca P.ck P.cr P.cl ((if l = [] then S.now else S.now + 1 : Nat) : Int) S.last ((S.clock + 1 : Nat) : Int) P.bm P.bl P.br := hM6.row; unfold mgRow at hrow6; obtain ⟨n4, g4, hn4, htx4⟩ := hM6.tx; obtain ⟨w7, hst, hm7, hf7⟩ := htx4.map.drop law2 Tryz.underlying55 (.int .i64 (t : Nat)) (key2 (wf_nat ht40)) 0; have HF7 := Lib.hid hf7; have HFG := Lib.hid (((hM6.delT htx4 hn4 hm7 hf7).1).forget H53); clear hM6 hf6 htx4 hm7 hf7) | (go_at_call 45; refine HFG.out.mono ?_; rintro e w9 ⟨rfl, F, hM9, hF, hf9⟩; have HF9 := Lib.hid hf9; have hrow9 : rowOf w9 P.m = mgRow P.ca P.ck P.cr P.cl ((if l = [] then S.now else S.now + 1 : Nat) : Int) S.last ((S.clock + 1 : Nat) : Int) P.bm P.bl P.br := hM9.row; unfold mgRow at hrow9; have HM9 := Lib.hid hM9; have HFF9 := Lib.hid hF; clear hM9 hF hf9))
            go_ret2
            have hbr : Mine cls P P.br := .inl (by rw [H.out.cr_]; omega)
            have f5 : Fr (Mine cls P) w w5 := HFM.out.trans HF5.out (fun _ _ e => .inr (.inr (.inl e)))
            have f6 : Fr (Mine cls P) w w6 := f5.trans HF6.out (fun _ _ e => e.elim (fun e => by rw [e]; exact hbr) (fun e => .inr (.inr (.inr e))))
            have f7 : Fr (Mine cls P) w w7 := f6.trans HF7.out (fun _ _ e => .inr (.inl e))
            have f9 : Fr (Mine cls P) w w9 := f7.trans HF9.out (fun _ _ e => e.elim (fun e => .inr (.inl e)) (fun e => e.elim (fun e => by rw [e]; exact hbr) (fun e => .inr (.inr (.inr e)))))
            exact .inr ⟨l, (by first | rfl | (rw [if_neg hl0]; rfl) | (rw [if_pos hl0]; rfl)), (.slice a2 0 c2), cls', true, F, HFF.out, HL.out, (fun _ => .inl (alone hx1 HX.out HT.out ha)), hcc, f9, HM9.out, HFF9.out⟩
      · have hl0 : ¬ l = [] := by assumption
        have HFW := Lib.hid (HF1.out.trans HF2.out (fun _ _ h => h))
        have HMW := Lib.hid (H.out.fr0 HFW.out)
        have HGW := Lib.hid ((HMW.out.fr0 ((Fr.refl _ w2).drew)).gone' H53 H68 HT.out)
        obtain ⟨n5, g5, hn5, htx5⟩ := HMW.out.tx
        obtain ⟨mm, hmm, -, hlen⟩ := (htx5.map.fr ((Fr.refl (fun _ => False) w2).drew) (fun e => e)).len law2 Tryz.underlying55
        have hq40 := HMW.out.qb
        have hwrap : IntKind.i64.wrap ((mm : Int) - (xs.length : Int)) = (mm : Int) - (xs.length : Int) := by rw [IntKind.wrap_i64]; omega
        clear htx5
        by_cases hx1 : 1 < xs.length
        · have hdx : decide ((1 : Int) < (xs.length : Int)) = true := decide_eq_true (by omega)
          have hd1 : ((xs.length : Int) == 1) = false := by simp; omega
          by_cases hk : P.ck ≤ (mm : Int) - (xs.length : Int)
          · have hdk : decide (P.ck ≤ (mm : Int) - (xs.length : Int)) = true := decide_eq_true hk
            go_region
            all_goals
              go_wp2_with (go_at_call 33; refine HGW.out.mono ?_; rintro e w' ⟨rfl, HGR⟩)
              go_ret2
              obtain ⟨F, k1, k2, k3⟩ := HGR.out
              exact .inl ⟨4, by omega, rfl, F, k1, k2, ((Fr.mono HFW.out (fun _ _ h => h.elim)).drew).trans k3 (fun _ _ h => h)⟩
          · have hdk : decide (P.ck ≤ (mm : Int) - (xs.length : Int)) = false := decide_eq_false hk
            go_region
            all_goals
              have hraW := (HFW.out.row (live_lt hla) (fun e => e)).trans hra
              have hlaW := (HFW.out.liv (live_lt hla) (fun e => e)).trans hla
              have hltW := live_lt lm2
              have hltX := live_lt hlaW
              have hne : P.m ≠ rt.1 := HNE.out
              have hne' : rt.1 ≠ P.m := fun e => hne e.symm
              have hwc : IntKind.i64.wrap ((S.clock : Int) + 1) = (S.clock : Int) + 1 := by rw [IntKind.wrap_i64]; omega
              have hwn : IntKind.i64.wrap ((S.now : Int) + 1) = (S.now : Int) + 1 := by rw [IntKind.wrap_i64]; omega
              go_upto_region 17 with fail
              obtain ⟨R1, hR1⟩ : ∃ R : Array Value, R = #[.int .i64 P.ca, .int .i64 P.ck, .int .i64 P.cr, .int .i64 P.cl, .int .i64 ((S.now : Int) + 1), .int .i64 (S.last : Nat), .int .i64 ((S.clock : Int) + 1), .map (some P.bm), .pointer (some ⟨P.bl, 0, none⟩), .pointer (some ⟨P.br, 0, none⟩)] := ⟨_, rfl⟩
              first | (obtain ⟨R2, hR2⟩ : ∃ R : Array Value, R = #[.int .i64 (t : Nat), .int .i64 (rt.2.snap : Nat), .bool false, .int .i64 (rt.2.b : Nat), .int .i64 ((S.clock : Int) + 1), .bool false, .bool b2, (.slice a2 l.length c2)] := ⟨_, rfl⟩; rw [← hR2]) | (obtain ⟨R2, hR2⟩ : ∃ R : Array Value, R = #[.int .i64 (t : Nat), .int .i64 (rt.2.snap : Nat), .bool false, .int .i64 (rt.2.b : Nat), .int .i64 ((S.clock : Int) + 1), .bool true, .bool false, (.slice a2 l.length c2)] := ⟨_, rfl⟩; rw [← hR2])
              rw [← hR1]
              have e1 : R1 = mgRow P.ca P.ck P.cr P.cl ((if l = [] then S.now else S.now + 1 : Nat) : Int) S.last ((S.clock + 1 : Nat) : Int) P.bm P.bl P.br := by rw [hR1]; unfold mgRow; rw [if_neg hl0]; rfl
              have e2 : R2 = (TR.mk rt.2.n rt.2.snap false rt.2.b (S.clock + 1) rt.2.fi rt.2.fo (.slice a2 l.length c2)).row := by rw [hR2]; unfold TR.row txRow; rw [hnum, ← HB1.out, ← HB2.out]; rfl
              obtain ⟨cls', hcc, hfm, hM0⟩ := H.out.commitRow HFW.out HT.out (v := (.slice a2 l.length c2)) (l := l) (lo := w1.heap.size) (by have := HOL.out; first | exact this | (rw [hl0] at this ⊢; exact this)) HF1.out.size (if l = [] then S.now else S.now + 1) R1 R2 e1 e2
              have hM1 := hM0.fr0 ((Fr.refl (fun _ => False) _).drew)
              have hfm1 := hfm.drew
              have hrz := hM1.row.trans e1.symm
              generalize hwz : ((w2.setRow P.m R1).setRow rt.1 R2).drew = wz at hM1 hfm1 hrz ⊢
              rw [hR1] at hrz
              have HR := Lib.hid (hM1.release H68 t)
              have HFM := Lib.hid hfm1
              clear hM0 hfm hM1 hfm1 hwz e1 e2 hR1 hR2 hraW hlaW
              go_wp2_with (first | (go_at_call 43; refine HR.out.mono ?_; rintro e w5 ⟨v5, rfl, hM5, hf5⟩; have HF5 := Lib.hid hf5; have hrow5 : rowOf w5 P.m = mgRow P.ca P.ck P.cr P.cl ((if l = [] then S.now else S.now + 1 : Nat) : Int) S.last ((S.clock + 1 : Nat) : Int) P.bm P.bl P.br := hM5.row; unfold mgRow at hrow5; have HFG := Lib.hid (hM5.forget H53); clear hM5 hf5) | (go_at_call 45; refine HFG.out.mono ?_; rintro e w9 ⟨rfl, F, hM9, hF, hf9⟩; have HF9 := Lib.hid hf9; have hrow9 : rowOf w9 P.m = mgRow P.ca P.ck P.cr P.cl ((if l = [] then S.now else S.now + 1 : Nat) : Int) S.last ((S.clock + 1 : Nat) : Int) P.bm P.bl P.br := hM9.row; unfold mgRow at hrow9; have HM9 := Lib.hid hM9; have HFF9 := Lib.hid hF; clear hM9 hF hf9))
              go_ret2
              have hbr : Mine cls P P.br := .inl (by rw [H.out.cr_]; omega)
              have f5 : Fr (Mine cls P) w w5 := HFM.out.trans HF5.out (fun _ _ e => .inr (.inr (.inl e)))
              have f7 := f5
              have f9 : Fr (Mine cls P) w w9 := f7.trans HF9.out (fun _ _ e => e.elim (fun e => .inr (.inl e)) (fun e => e.elim (fun e => by rw [e]; exact hbr) (fun e => .inr (.inr (.inr e)))))
              exact .inr ⟨l, (by first | rfl | (rw [if_neg hl0]; rfl) | (rw [if_pos hl0]; rfl)), (.slice a2 l.length c2), cls', false, F, HFF.out, HL.out, (fun h => nomatch h), hcc, f9, HM9.out, HFF9.out⟩
        · have hdx : decide ((1 : Int) < (xs.length : Int)) = false := decide_eq_false (by omega)
          have hd1 : ((xs.length : Int) == 1) = true := by have := one_of HX.out HT.out ha; simp; omega
          go_region
          all_goals
            have hraW := (HFW.out.row (live_lt hla) (fun e => e)).trans hra
            have hlaW := (HFW.out.liv (live_lt hla) (fun e => e)).trans hla
            have hltW := live_lt lm2
            have hltX := live_lt hlaW
            have hne : P.m ≠ rt.1 := HNE.out
            have hne' : rt.1 ≠ P.m := fun e => hne e.symm
            have hwc : IntKind.i64.wrap ((S.clock : Int) + 1) = (S.clock : Int) + 1 := by rw [IntKind.wrap_i64]; omega
            have hwn : IntKind.i64.wrap ((S.now : Int) + 1) = (S.now : Int) + 1 := by rw [IntKind.wrap_i64]; omega
            go_upto_region 17 with fail
            obtain ⟨R1, hR1⟩ : ∃ R : Array Value, R = #[.int .i64 P.ca, .int .i64 P.ck, .int .i64 P.cr, .int .i64 P.cl, .int .i64 ((S.now : Int) + 1), .int .i64 (S.last : Nat), .int .i64 ((S.clock : Int) + 1), .map (some P.bm), .pointer (some ⟨P.bl, 0, none⟩), .pointer (some ⟨P.br, 0, none⟩)] := ⟨_, rfl⟩
            first | (obtain ⟨R2, hR2⟩ : ∃ R : Array Value, R = #[.int .i64 (t : Nat), .int .i64 (rt.2.snap : Nat), .bool false, .int .i64 (rt.2.b : Nat), .int .i64 ((S.clock : Int) + 1), .bool false, .bool b2, (.slice a2 l.length c2)] := ⟨_, rfl⟩; rw [← hR2]) | (obtain ⟨R2, hR2⟩ : ∃ R : Array Value, R = #[.int .i64 (t : Nat), .int .i64 (rt.2.snap : Nat), .bool false, .int .i64 (rt.2.b : Nat), .int .i64 ((S.clock : Int) + 1), .bool true, .bool false, (.slice a2 l.length c2)] := ⟨_, rfl⟩; rw [← hR2])
            rw [← hR1]
            have e1 : R1 = mgRow P.ca P.ck P.cr P.cl ((if l = [] then S.now else S.now + 1 : Nat) : Int) S.last ((S.clock + 1 : Nat) : Int) P.bm P.bl P.br := by rw [hR1]; unfold mgRow; rw [if_neg hl0]; rfl
            have e2 : R2 = (TR.mk rt.2.n rt.2.snap false rt.2.b (S.clock + 1) rt.2.fi rt.2.fo (.slice a2 l.length c2)).row := by rw [hR2]; unfold TR.row txRow; rw [hnum, ← HB1.out, ← HB2.out]; rfl
            obtain ⟨cls', hcc, hfm, hM0⟩ := H.out.commitRow HFW.out HT.out (v := (.slice a2 l.length c2)) (l := l) (lo := w1.heap.size) (by have := HOL.out; first | exact this | (rw [hl0] at this ⊢; exact this)) HF1.out.size (if l = [] then S.now else S.now + 1) R1 R2 e1 e2
            have hM1 := hM0.fr0 ((Fr.refl (fun _ => False) _).drew)
            have hfm1 := hfm.drew
            have hrz := hM1.row.trans e1.symm
            generalize hwz : ((w2.setRow P.m R1).setRow rt.1 R2).drew = wz at hM1 hfm1 hrz ⊢
            rw [hR1] at hrz
            have HR := Lib.hid (hM1.release H68 t)
            have HFM := Lib.hid hfm1
            clear hM0 hfm hM1 hfm1 hwz e1 e2 hR1 hR2 hraW hlaW
            go_wp2_with (first | (go_at_call 43; refine HR.out.mono ?_; rintro e w5 ⟨v5, rfl, hM5, hf5⟩; have HF5 := Lib.hid hf5; have hrow5 : rowOf w5 P.m = mgRow P.ca P.ck P.cr P.cl ((if l = [] then S.now else S.now + 1 : Nat) : Int) S.last ((S.clock + 1 : Nat) : Int) P.bm P.bl P.br := hM5.row; unfold mgRow at hrow5; have HD := Lib.hid (hM5.dropN ht1); clear hM5 hf5) | (go_at_call 44; refine HD.out.mono ?_; rintro e w6 ⟨rfl, hM6, hf6⟩; have HF6 := Lib.hid hf6; have hrow6 : rowOf w6 P.m = mgRow P.ca P.ck P.cr P.cl ((if l = [] then S.now else S.now + 1 : Nat) : Int) S.last ((S.clock + 1 : Nat) : Int) P.bm P.bl P.br := hM6.row; unfold mgRow at hrow6; obtain ⟨n4, g4, hn4, htx4⟩ := hM6.tx; obtain ⟨w7, hst, hm7, hf7⟩ := htx4.map.drop law2 Tryz.underlying55 (.int .i64 (t : Nat)) (key2 (wf_nat ht40)) 0; have HF7 := Lib.hid hf7; have HFG := Lib.hid (((hM6.delT htx4 hn4 hm7 hf7).1).forget H53); clear hM6 hf6 htx4 hm7 hf7) | (go_at_call 45; refine HFG.out.mono ?_; rintro e w9 ⟨rfl, F, hM9, hF, hf9⟩; have HF9 := Lib.hid hf9; have hrow9 : rowOf w9 P.m = mgRow P.ca P.ck P.cr P.cl ((if l = [] then S.now else S.now + 1 : Nat) : Int) S.last ((S.clock + 1 : Nat) : Int) P.bm P.bl P.br := hM9.row; unfold mgRow at hrow9; have HM9 := Lib.hid hM9; have HFF9 := Lib.hid hF; clear hM9 hF hf9))
            go_ret2
            have hbr : Mine cls P P.br := .inl (by rw [H.out.cr_]; omega)
            have f5 : Fr (Mine cls P) w w5 := HFM.out.trans HF5.out (fun _ _ e => .inr (.inr (.inl e)))
            have f6 : Fr (Mine cls P) w w6 := f5.trans HF6.out (fun _ _ e => e.elim (fun e => by rw [e]; exact hbr) (fun e => .inr (.inr (.inr e))))
            have f7 : Fr (Mine cls P) w w7 := f6.trans HF7.out (fun _ _ e => .inr (.inl e))
            have f9 : Fr (Mine cls P) w w9 := f7.trans HF9.out (fun _ _ e => e.elim (fun e => .inr (.inl e)) (fun e => e.elim (fun e => by rw [e]; exact hbr) (fun e => .inr (.inr (.inr e)))))
            exact .inr ⟨l, (by first | rfl | (rw [if_neg hl0]; rfl) | (rw [if_pos hl0]; rfl)), (.slice a2 l.length c2), cls', true, F, HFF.out, HL.out, (fun _ => .inl (alone hx1 HX.out HT.out ha)), hcc, f9, HM9.out, HFF9.out⟩
      · have h0 : ¬ l = [] := by assumption
        have h1 := List.length_pos_iff.mpr h0
        exfalso; first | omega | contradiction
end
end Go.Proofs.YteldfmgjbgedaaaGreat
