/-
  Package ssi: Write.
-/
import Derived.Test.YteldfmgjbgedaaaGreatNg
namespace Go.Proofs.YteldfmgjbgedaaaGreat
open Go.RowKit Go.Maps

section
variable {w : World} {cls : Nat → Nat} {P : MP} {q : Nat} {S : MS}

/-- What a write leaves. -/
def WriteRes (w : World) (cls : Nat → Nat) (P : MP) (q : Nat) (S : MS) (t : Nat) (rt : Nat × TR) (s : Key) (la : Nat) (c : Int) (w' : World) : Prop :=
  ∃ cls', (∀ k, k < w.heap.size → cls' k = cls k) ∧ Fr (Mine cls P) w w' ∧
    ((∃ F, c ≠ 0 ∧ Mgr w' cls' P (q + 1) ((S.drop t).forget F) ∧ ∀ i, F i = true ↔ (S.drop t).old i) ∨
     (∃ os, c = 0 ∧ S.G s = none ∧ la ≤ rt.2.snap ∧ (∀ o p, S.with_ t o → S.T o = some p → p.2.act = false → s ∉ S.W o) ∧ (∀ o, o ∈ os ↔ S.with_ t o ∧ HN S.N o s) ∧ S.badAll rt.2 false os = false ∧
       Mgr w' cls' P (q + 1) (((S.lock s t).flags (oneIf t os) true).flags os false)))

theorem lock_drop {s : Key} {t : Nat} (hg : S.G s = none) : (S.lock s t).drop t = S.drop t := by
  unfold MS.lock MS.drop
  simp only [MS.mk.injEq, true_and, and_true]
  funext u
  by_cases e : u = s
  · subst e; simp [hg]
  · simp [e]

set_option maxRecDepth 20000 in
set_option maxHeartbeats 8000000 in
theorem Mgr.write17 (H53 : Sorts53) (H68 : Sorts68) (h : Mgr w cls P q S) (hq : q + 1 < 2 ^ 40) {t : Nat} {rt : Nat × TR} (ht : S.T t = some rt) (ha : rt.2.act = true) (s : Key) (hs : s.length < 2 ^ 40) (la : Nat) :
    Calls Tryz.prog 17 #[.pointer (some ⟨P.m, 0, none⟩), .int .i64 (t : Nat), .agg #[.string ⟨#[116]⟩, .string ⟨s.toArray⟩], .int .i64 (la : Nat)] w fun e w' =>
      (S.G s = some t ∧ e = .returned (.int .i64 0) ∧ Fr (fun _ => False) w w') ∨ (S.G s ≠ some t ∧ ∃ c, e = .returned (.int .i64 c) ∧ WriteRes w cls P q S t rt s la c w') := by
  have F0 : Fr (fun _ => False) w (w.alloc (.cells #[.string ⟨#[116]⟩, .string ⟨s.toArray⟩] 66)) := (Fr.refl _ w).alloc _
  have h1 : Mgr (w.alloc (.cells #[.string ⟨#[116]⟩, .string ⟨s.toArray⟩] 66)) (cls0 w cls) P q S := h.fr F0 (Off.none _ _ _) (fun k hk => cls0_lt hk)
  have HA := Lib.hid (h1.active29 ht ha)
  have hM2 := h1.fr0 ((Fr.refl _ _).drew)
  have HH := Lib.hid (hM2.holder30 s hs)
  obtain ⟨n1, g1, hn1, htx⟩ := h.tx
  obtain ⟨-, hla, hra, ht40⟩ := htx.at_ t rt ht
  obtain ⟨hc4, hnum, ht1⟩ := h.ct t rt ht
  have hlm := live_lt h.lm
  have H := Lib.hid h
  have HF0 := Lib.hid F0
  have HT := Lib.hid ht
  have HM2 := Lib.hid hM2
  have hrow1 := h1.row
  have hl1 : decide ((la : Int) < 0) = false := decide_eq_false (by omega)
  unfold mgRow at hrow1
  clear h h1 F0 hM2 htx
  go_enter Tryz.func17, Tryz.ntmps17
  go_wp2_with (go_at_call 29; refine HA.out.mono ?_; rintro e w' ⟨rfl, rfl⟩)
  have hbm : P.m < w.heap.size + 1 := by omega
  have rm0 := (HF0.out.row hlm (fun e => e)).trans H.out.row
  have rbox : rowOf (w.alloc (.cells #[.string ⟨#[116]⟩, .string ⟨s.toArray⟩] 66)) w.heap.size = #[.string ⟨#[116]⟩, .string ⟨s.toArray⟩] := by simp [go_sem]
  have lbox : live (w.alloc (.cells #[.string ⟨#[116]⟩, .string ⟨s.toArray⟩] 66)) w.heap.size = true := by simp [go_sem]
  unfold mgRow at rm0
  generalize (w.alloc (.cells #[.string ⟨#[116]⟩, .string ⟨s.toArray⟩] 66)) = WB at HF0 HH HM2 hrow1 rm0 rbox lbox ⊢
  go_region_held3 (fun w' => rowOf w' P.m = #[.int .i64 P.ca, .int .i64 P.ck, .int .i64 P.cr, .int .i64 P.cl, .int .i64 (S.now : Nat), .int .i64 (S.last : Nat), .int .i64 (S.clock : Nat), .map (some P.bm), .pointer (some ⟨P.bl, 0, none⟩), .pointer (some ⟨P.br, 0, none⟩)] ∧ rowOf w' w.heap.size = #[.string ⟨#[116]⟩, .string ⟨s.toArray⟩])
    (first | assumption | exact ⟨by rw [rowOf_drew]; assumption, by rw [rowOf_drew]; assumption⟩)
    (first | (go_simp; go_at_call 30; refine HH.out.mono ?_; rintro e w1 ⟨o, b, rfl, hob, hf⟩; have HOB := Lib.hid hob; have HF1 := Lib.hid hf; have K1 := And.intro ((hf.row (show P.m < WB.drew.heap.size from Nat.lt_of_lt_of_le hlm HF0.out.size) (fun e => e)).trans rm0) ((hf.row (show w.heap.size < WB.drew.heap.size from live_lt lbox) (fun e => e)).trans rbox); clear hob hf))
  have FW := Lib.hid (HF0.out.drew.trans HF1.out (fun _ _ h => h))
  have hM3 := HM2.out.fr0 HF1.out
  have hra3 := (FW.out.row (live_lt hla) (fun e => e)).trans hra
  obtain ⟨rm1, rb1⟩ := K1
  have lb1 : live w1 w.heap.size = true := (HF1.out.liv (show w.heap.size < WB.drew.heap.size from live_lt lbox) (fun e => e)).trans lbox
  have lm1 : live w1 P.m = true := hM3.lm
  have lt1 : live w1 rt.1 = true := (FW.out.liv (live_lt hla) (fun e => e)).trans hla
  unfold TR.row txRow at hra3
  rw [hnum] at hra3
  by_cases hG : S.G s = some t
  · have hob : b = true ∧ o = t := by
      rcases HOB.out with ⟨h, h'⟩ | ⟨h, h'⟩
      · rw [hG] at h'; exact ⟨h, (Option.some.inj h').symm⟩
      · rw [hG] at h'; cases h'
    obtain ⟨rfl, rfl⟩ := hob
    have HG := Lib.hid hG
    have hd : ((o : Int) == (o : Int)) = true := by simp
    clear hG hM3
    go_wp2
    go_ret
    exact .inl ⟨HG.out, rfl, FW.out⟩
  · have HNE := Lib.hid hG
    have HTK := Lib.hid ((hM3.fr0 ((Fr.refl _ w1).drew)).take32 hq ht1 ht40 (sn := rt.2.snap) (la := la) s hs hG)
    have hcase : (b = true ∧ o ≠ t) ∨ b = false := by
      rcases HOB.out with ⟨h, h'⟩ | ⟨h, _⟩
      · exact .inl ⟨h, fun e => hG (by rw [h', e])⟩
      · exact .inr h
    obtain ⟨z1, z2, z3, z4, z5, z6⟩ := H.out.lts
    have HMAPS := Lib.hid (fun g (hg : live w1 g = true) => hM3.maps hg)
    have hmine : ∀ k, k < w.heap.size → Mine (cls0 w cls) P k → Mine cls P k := fun k hk hh => hh.imp (fun h => by rw [cls0_lt hk] at h; exact h) id
    have HMI := Lib.hid hmine
    clear hG hM3 hrow1 rm0 rbox lbox hra hmine
    rcases hcase with ⟨rfl, hot⟩ | rfl
    · have hd : ((o : Int) == (t : Int)) = false := by rw [beq_eq_false_iff_ne]; omega
      have hd2 : decide ((o : Int) = (t : Int)) = false := decide_eq_false (by omega)
      go_wp2_with fail
      go_region_held3 (fun w' => rowOf w' P.m = #[.int .i64 P.ca, .int .i64 P.ck, .int .i64 P.cr, .int .i64 P.cl, .int .i64 (S.now : Nat), .int .i64 (S.last : Nat), .int .i64 (S.clock : Nat), .map (some P.bm), .pointer (some ⟨P.bl, 0, none⟩), .pointer (some ⟨P.br, 0, none⟩)] ∧ rowOf w' w.heap.size = #[.string ⟨#[116]⟩, .string ⟨s.toArray⟩] ∧ rowOf w' rt.1 = #[.int .i64 (t : Nat), .int .i64 (rt.2.snap : Nat), .bool rt.2.act, .int .i64 (rt.2.b : Nat), .int .i64 (rt.2.e : Nat), .bool rt.2.fi, .bool rt.2.fo, rt.2.wr])
        (first | assumption | exact ⟨by rw [rowOf_drew]; assumption, by rw [rowOf_drew]; assumption, by rw [rowOf_drew]; assumption⟩)
        (first | (go_simp; go_at_call 32; refine HTK.out.mono ?_; rintro e w2 ⟨c, rfl, hf2, HC⟩; have K2 := And.intro ((hf2.row (show P.m < w1.drew.heap.size from live_lt lm1) (HMAPS.out _ lm1).2.1).trans rm1) (And.intro ((hf2.row (show w.heap.size < w1.drew.heap.size from live_lt lb1) (HMAPS.out _ lb1).2.1).trans rb1) ((hf2.row (show rt.1 < w1.drew.heap.size from live_lt lt1) (HMAPS.out _ lt1).2.1).trans hra3)); have lb2 := (hf2.liv (show w.heap.size < w1.drew.heap.size from live_lt lb1) (HMAPS.out _ lb1).2.1).trans lb1; have HF2 := Lib.hid hf2; clear hf2))
      obtain ⟨rm2, rb2, rt2⟩ := K2
      have HFW2 : Hid (Fr (Mine cls P) w w2) := (FW.out.mine_none.drew).trans HF2.out (fun k _ e => .inr (.inr (.inl e)))
      have hblt2 := live_lt lb2
      by_cases hc0 : c = 0
      · subst hc0
        obtain ⟨hgn, hls, hML⟩ : S.G s = none ∧ la ≤ rt.2.snap ∧ Mgr w2 (cls0 w cls) P (q + 1) (S.lock s t) := by
          rcases HC.out with ⟨h, _⟩ | ⟨_, h⟩
          · exact absurd rfl h
          · exact h
        have HGN := Lib.hid hgn
        have HLS := Lib.hid hls
        have HML := Lib.hid hML
        have HLATE := Lib.hid (hML.write_late (t := t) (rt := rt) HT.out s rb2 hblt2)
        clear hgn hls hML rm1 rb1 hra3
        go_wp2_with (go_at_call 34; refine HLATE.out.mono ?_; rintro e w3 ⟨a3, n3, c3, rfl, hlate, hf3⟩; have HL3 := Lib.hid hlate; have HF3 := Lib.hid hf3; have HG3 := Lib.hid ((HML.out.fr0 hf3).gone' H53 H68 (t := t) (p := rt) HT.out); have rm3 := (hf3.row (live_lt HML.out.lm) (fun e => e)).trans rm2; have rb3 := (hf3.row hblt2 (fun e => e)).trans rb2; have lb3 := (hf3.liv hblt2 (fun e => e)).trans lb2; clear hlate hf3)
        · refine HG3.out.mono ?_
          rintro e w4 ⟨rfl, HGR⟩
          go_wp2
          go_ret
          obtain ⟨F, h1, h2, h3⟩ := HGR.out
          rw [lock_drop HGN.out] at h1 h2
          exact .inr ⟨HNE.out, 81, rfl, cls0 w cls, fun k hk => cls0_lt hk, (HFW2.out.trans HF3.out (fun _ _ h => h.elim)).trans h3 (fun k hk h => HMI.out k hk h), .inl ⟨F, by omega, h1, h2⟩⟩
        · have hn3 : n3 = 0 := by omega
          have HM3' := HML.out.fr0 HF3.out
          have hltm3 := live_lt HM3'.lm
          have hltb3 := live_lt lb3
          have hRDA : Calls Tryz.prog 37 #[.pointer (some ⟨P.br, 0, none⟩), .string ⟨#[116]⟩, .string ⟨s.toArray⟩] w3.drew fun e w4 => ∃ va vc xs, e = .returned (.slice va (natRows xs).length vc) ∧ Hid (OwnRows w4 (.slice va (natRows xs).length vc) 1 (natRows xs) w3.heap.size) ∧ Hid (∀ i, i ∈ xs ↔ HN S.N i s) ∧ Hid (Fr (fun _ => False) w3.drew w4) := by
            refine ((HM3'.fr0 ((Fr.refl _ w3).drew)).readers37 H53 s).mono ?_
            rintro e w4 ⟨v, xs, rfl, hov, hxs, hf4⟩
            obtain ⟨va, vc, rfl⟩ := hov.len
            exact ⟨va, vc, xs, rfl, Lib.hid hov, Lib.hid hxs, Lib.hid hf4⟩
          have HRDA := Lib.hid hRDA
          clear hRDA
          have HM4' := (HM3'.fr0 (((Fr.refl _ w3).alloc (.cells #[.slice none 0 0] 83)).drew))
          have hRD : Calls Tryz.prog 37 #[.pointer (some ⟨P.br, 0, none⟩), .string ⟨#[116]⟩, .string ⟨s.toArray⟩] (w3.alloc (.cells #[.slice none 0 0] 83)).drew fun e w4 => ∃ va vc xs, e = .returned (.slice va (natRows xs).length vc) ∧ Hid (OwnRows w4 (.slice va (natRows xs).length vc) 1 (natRows xs) (w3.heap.size + 1)) ∧ Hid (∀ i, i ∈ xs ↔ HN S.N i s) ∧ Hid (Fr (fun _ => False) (w3.alloc (.cells #[.slice none 0 0] 83)).drew w4) ∧ rowOf w4 w3.heap.size = #[.slice none 0 0] ∧ live w4 w3.heap.size = true := by
            refine (HM4'.readers37 H53 s).mono ?_
            rintro e w4 ⟨v, xs, rfl, hov, hxs, hf4⟩
            obtain ⟨va, vc, rfl⟩ := hov.len
            have hsz : w3.heap.size < (w3.alloc (.cells #[.slice none 0 0] 83)).drew.heap.size := by simp
            have hsz2 : (w3.alloc (.cells #[.slice none 0 0] 83)).drew.heap.size = w3.heap.size + 1 := by simp
            rw [hsz2] at hov
            refine ⟨va, vc, xs, rfl, Lib.hid hov, Lib.hid hxs, Lib.hid hf4, ?_, ?_⟩
            · refine (hf4.row hsz (fun e => e)).trans ?_
              simp [go_sem]
            · refine (hf4.liv hsz (fun e => e)).trans ?_
              simp [go_sem]
          have HRD := Lib.hid hRD
          clear hRD
          have HM3 := Lib.hid HM3'
          clear HM3' HM4' rm2 rb2
          go_region_law (first | (go_simp; go_at_call 37; with_reducible refine HRD.out.mono ?_; rintro e w4 ⟨va, vc, xs, rfl, HOV, HXS, HF4, rX4, lX4⟩; have hBB : True := trivial) | (go_simp; go_at_call 37; with_reducible refine HRDA.out.mono ?_; rintro e w4 ⟨va, vc, xs, rfl, HOV, HXS, HF4⟩))
          all_goals first
            | (have FX : Fr (fun k => k = w3.heap.size) w4 (w4.setRow w3.heap.size #[.slice va (natRows xs).length vc]) := (Fr.refl _ w4).setRow _ _ (fun _ => rfl)
               have hX : w3.heap.size < w4.heap.size := live_lt lX4
               have rX : rowOf (w4.setRow w3.heap.size #[.slice va (natRows xs).length vc]) w3.heap.size = #[.slice va (natRows xs).length vc] := by simp [go_sem, lX4]
               have F3X := Lib.hid ((((Fr.refl (fun _ => False) w3).alloc (.cells #[.slice none 0 0] 83)).drew.trans HF4.out (fun _ _ h => h)).setNew (Nat.le_refl _) #[.slice va (natRows xs).length vc])
               have HWP := Lib.hid ((HM3.out.fr0 F3X.out).write_put H53 H68 (t := t) (rt := rt) HT.out (HOV.out.keep FX (fun k hk e => by have := (HOV.out.lt hk).1; omega)) rX (by rw [setRow_size]; exact hX))
               clear FX rX
               go_wp2_with (first
                 | (go_at_call 34; refine HWP.out.mono ?_; rintro e w5 ⟨v2, os, rfl, HOS, HF5, HPUT⟩)
                 | (go_at_call 38; refine HPUT.out.mono ?_; rintro e w6 ⟨c6, rfl, HR6⟩))
               go_ret
               obtain ⟨hres, hf6⟩ := HR6.out
               have hs2 := HFW2.out.size
               have hs3 := HF3.out.size
               have hsx := F3X.out.size
               have hck : ∀ k, k < w.heap.size → cls0 (w4.setRow w3.heap.size #[.slice va (natRows xs).length vc]) (cls0 w cls) k = cls k := fun k hk => by rw [cls0_lt (by omega), cls0_lt hk]
               have FF := ((HFW2.out.trans HF3.out (fun _ _ h => h.elim)).trans F3X.out (fun _ _ h => h.elim)).trans HF5.out (fun _ _ h => h.elim) |>.trans hf6 (fun k hk h => HMI.out k hk (h.imp (fun h => by rw [hck k hk] at h; rw [cls0_lt hk]; exact h) id))
               refine .inr ⟨HNE.out, c6, rfl, _, hck, FF, ?_⟩
               rcases hres with ⟨h1, rfl, F, h2, h3⟩ | ⟨h1, rfl, h2⟩
               · rw [lock_drop HGN.out] at h2 h3
                 exact .inl ⟨F, by omega, h2, h3⟩
               · exact .inr ⟨os, rfl, HGN.out, HLS.out, fun o p a1 a2 a3 => HL3.out hn3 o p a1 a2 a3, fun o => by rw [HOS.out o, HXS.out o]; rfl, h1, h2⟩)
            | (have FX : Fr (fun _ => False) w4 ((w4.alloc (.cells #[.slice none 0 0] 83)).setRow w4.heap.size #[.slice va (natRows xs).length vc]) := ((Fr.refl (fun _ => False) w4).alloc _).setNew (Nat.le_refl _) _
               have rX : rowOf ((w4.alloc (.cells #[.slice none 0 0] 83)).setRow w4.heap.size #[.slice va (natRows xs).length vc]) w4.heap.size = #[.slice va (natRows xs).length vc] := by simp [go_sem]
               have F3X := Lib.hid (((Fr.refl (fun _ => False) w3).drew.trans HF4.out (fun _ _ h => h)).trans FX (fun _ _ h => h))
               have HWP := Lib.hid ((HM3.out.fr0 F3X.out).write_put H53 H68 (t := t) (rt := rt) HT.out (HOV.out.keep FX (fun _ _ e => e)) rX (by simp))
               clear FX rX
               go_wp2_with (first
                 | (go_at_call 34; refine HWP.out.mono ?_; rintro e w5 ⟨v2, os, rfl, HOS, HF5, HPUT⟩)
                 | (go_at_call 38; refine HPUT.out.mono ?_; rintro e w6 ⟨c6, rfl, HR6⟩))
               go_ret
               obtain ⟨hres, hf6⟩ := HR6.out
               have hs2 := HFW2.out.size
               have hs3 := HF3.out.size
               have hsx := F3X.out.size
               have hck : ∀ k, k < w.heap.size → cls0 ((w4.alloc (.cells #[.slice none 0 0] 83)).setRow w4.heap.size #[.slice va (natRows xs).length vc]) (cls0 w cls) k = cls k := fun k hk => by rw [cls0_lt (by omega), cls0_lt hk]
               have FF := ((HFW2.out.trans HF3.out (fun _ _ h => h.elim)).trans F3X.out (fun _ _ h => h.elim)).trans HF5.out (fun _ _ h => h.elim) |>.trans hf6 (fun k hk h => HMI.out k hk (h.imp (fun h => by rw [hck k hk] at h; rw [cls0_lt hk]; exact h) id))
               refine .inr ⟨HNE.out, c6, rfl, _, hck, FF, ?_⟩
               rcases hres with ⟨h1, rfl, F, h2, h3⟩ | ⟨h1, rfl, h2⟩
               · rw [lock_drop HGN.out] at h2 h3
                 exact .inl ⟨F, by omega, h2, h3⟩
               · exact .inr ⟨os, rfl, HGN.out, HLS.out, fun o p a1 a2 a3 => HL3.out hn3 o p a1 a2 a3, fun o => by rw [HOS.out o, HXS.out o]; rfl, h1, h2⟩)
      · have hML : Mgr w2 (cls0 w cls) P (q + 1) S := by
          rcases HC.out with ⟨_, h⟩ | ⟨h, _⟩
          · exact h
          · exact absurd h hc0
        have HG2 := Lib.hid (hML.gone' H53 H68 HT.out)
        have hcn : (c != 0) = true := by simp [hc0]
        clear hML
        go_wp2_with (go_at_call 33; refine HG2.out.mono ?_; rintro e w3 ⟨rfl, HGR⟩)
        go_ret
        obtain ⟨F, h1, h2, h3⟩ := HGR.out
        exact .inr ⟨HNE.out, c, rfl, cls0 w cls, fun k hk => cls0_lt hk, HFW2.out.trans h3 (fun k hk h => HMI.out k hk h), .inl ⟨F, hc0, h1, h2⟩⟩
    · go_wp2_with fail
      go_region_held3 (fun w' => rowOf w' P.m = #[.int .i64 P.ca, .int .i64 P.ck, .int .i64 P.cr, .int .i64 P.cl, .int .i64 (S.now : Nat), .int .i64 (S.last : Nat), .int .i64 (S.clock : Nat), .map (some P.bm), .pointer (some ⟨P.bl, 0, none⟩), .pointer (some ⟨P.br, 0, none⟩)] ∧ rowOf w' w.heap.size = #[.string ⟨#[116]⟩, .string ⟨s.toArray⟩] ∧ rowOf w' rt.1 = #[.int .i64 (t : Nat), .int .i64 (rt.2.snap : Nat), .bool rt.2.act, .int .i64 (rt.2.b : Nat), .int .i64 (rt.2.e : Nat), .bool rt.2.fi, .bool rt.2.fo, rt.2.wr])
        (first | assumption | exact ⟨by rw [rowOf_drew]; assumption, by rw [rowOf_drew]; assumption, by rw [rowOf_drew]; assumption⟩)
        (first | (go_simp; go_at_call 32; refine HTK.out.mono ?_; rintro e w2 ⟨c, rfl, hf2, HC⟩; have K2 := And.intro ((hf2.row (show P.m < w1.drew.heap.size from live_lt lm1) (HMAPS.out _ lm1).2.1).trans rm1) (And.intro ((hf2.row (show w.heap.size < w1.drew.heap.size from live_lt lb1) (HMAPS.out _ lb1).2.1).trans rb1) ((hf2.row (show rt.1 < w1.drew.heap.size from live_lt lt1) (HMAPS.out _ lt1).2.1).trans hra3)); have lb2 := (hf2.liv (show w.heap.size < w1.drew.heap.size from live_lt lb1) (HMAPS.out _ lb1).2.1).trans lb1; have HF2 := Lib.hid hf2; clear hf2))
      obtain ⟨rm2, rb2, rt2⟩ := K2
      have HFW2 : Hid (Fr (Mine cls P) w w2) := (FW.out.mine_none.drew).trans HF2.out (fun k _ e => .inr (.inr (.inl e)))
      have hblt2 := live_lt lb2
      by_cases hc0 : c = 0
      · subst hc0
        obtain ⟨hgn, hls, hML⟩ : S.G s = none ∧ la ≤ rt.2.snap ∧ Mgr w2 (cls0 w cls) P (q + 1) (S.lock s t) := by
          rcases HC.out with ⟨h, _⟩ | ⟨_, h⟩
          · exact absurd rfl h
          · exact h
        have HGN := Lib.hid hgn
        have HLS := Lib.hid hls
        have HML := Lib.hid hML
        have HLATE := Lib.hid (hML.write_late (t := t) (rt := rt) HT.out s rb2 hblt2)
        clear hgn hls hML rm1 rb1 hra3
        go_wp2_with (go_at_call 34; refine HLATE.out.mono ?_; rintro e w3 ⟨a3, n3, c3, rfl, hlate, hf3⟩; have HL3 := Lib.hid hlate; have HF3 := Lib.hid hf3; have HG3 := Lib.hid ((HML.out.fr0 hf3).gone' H53 H68 (t := t) (p := rt) HT.out); have rm3 := (hf3.row (live_lt HML.out.lm) (fun e => e)).trans rm2; have rb3 := (hf3.row hblt2 (fun e => e)).trans rb2; have lb3 := (hf3.liv hblt2 (fun e => e)).trans lb2; clear hlate hf3)
        · refine HG3.out.mono ?_
          rintro e w4 ⟨rfl, HGR⟩
          go_wp2
          go_ret
          obtain ⟨F, h1, h2, h3⟩ := HGR.out
          rw [lock_drop HGN.out] at h1 h2
          exact .inr ⟨HNE.out, 81, rfl, cls0 w cls, fun k hk => cls0_lt hk, (HFW2.out.trans HF3.out (fun _ _ h => h.elim)).trans h3 (fun k hk h => HMI.out k hk h), .inl ⟨F, by omega, h1, h2⟩⟩
        · have hn3 : n3 = 0 := by omega
          have HM3' := HML.out.fr0 HF3.out
          have hltm3 := live_lt HM3'.lm
          have hltb3 := live_lt lb3
          have hRDA : Calls Tryz.prog 37 #[.pointer (some ⟨P.br, 0, none⟩), .string ⟨#[116]⟩, .string ⟨s.toArray⟩] w3.drew fun e w4 => ∃ va vc xs, e = .returned (.slice va (natRows xs).length vc) ∧ Hid (OwnRows w4 (.slice va (natRows xs).length vc) 1 (natRows xs) w3.heap.size) ∧ Hid (∀ i, i ∈ xs ↔ HN S.N i s) ∧ Hid (Fr (fun _ => False) w3.drew w4) := by
            refine ((HM3'.fr0 ((Fr.refl _ w3).drew)).readers37 H53 s).mono ?_
            rintro e w4 ⟨v, xs, rfl, hov, hxs, hf4⟩
            obtain ⟨va, vc, rfl⟩ := hov.len
            exact ⟨va, vc, xs, rfl, Lib.hid hov, Lib.hid hxs, Lib.hid hf4⟩
          have HRDA := Lib.hid hRDA
          clear hRDA
          have HM4' := (HM3'.fr0 (((Fr.refl _ w3).alloc (.cells #[.slice none 0 0] 83)).drew))
          have hRD : Calls Tryz.prog 37 #[.pointer (some ⟨P.br, 0, none⟩), .string ⟨#[116]⟩, .string ⟨s.toArray⟩] (w3.alloc (.cells #[.slice none 0 0] 83)).drew fun e w4 => ∃ va vc xs, e = .returned (.slice va (natRows xs).length vc) ∧ Hid (OwnRows w4 (.slice va (natRows xs).length vc) 1 (natRows xs) (w3.heap.size + 1)) ∧ Hid (∀ i, i ∈ xs ↔ HN S.N i s) ∧ Hid (Fr (fun _ => False) (w3.alloc (.cells #[.slice none 0 0] 83)).drew w4) ∧ rowOf w4 w3.heap.size = #[.slice none 0 0] ∧ live w4 w3.heap.size = true := by
            refine (HM4'.readers37 H53 s).mono ?_
            rintro e w4 ⟨v, xs, rfl, hov, hxs, hf4⟩
            obtain ⟨va, vc, rfl⟩ := hov.len
            have hsz : w3.heap.size < (w3.alloc (.cells #[.slice none 0 0] 83)).drew.heap.size := by simp
            have hsz2 : (w3.alloc (.cells #[.slice none 0 0] 83)).drew.heap.size = w3.heap.size + 1 := by simp
            rw [hsz2] at hov
            refine ⟨va, vc, xs, rfl, Lib.hid hov, Lib.hid hxs, Lib.hid hf4, ?_, ?_⟩
            · refine (hf4.row hsz (fun e => e)).trans ?_
              simp [go_sem]
            · refine (hf4.liv hsz (fun e => e)).trans ?_
              simp [go_sem]
          have HRD := Lib.hid hRD
          clear hRD
          have HM3 := Lib.hid HM3'
          clear HM3' HM4' rm2 rb2
          go_region_law (first | (go_simp; go_at_call 37; with_reducible refine HRD.out.mono ?_; rintro e w4 ⟨va, vc, xs, rfl, HOV, HXS, HF4, rX4, lX4⟩; have hBB : True := trivial) | (go_simp; go_at_call 37; with_reducible refine HRDA.out.mono ?_; rintro e w4 ⟨va, vc, xs, rfl, HOV, HXS, HF4⟩))
          all_goals first
            | (have FX : Fr (fun k => k = w3.heap.size) w4 (w4.setRow w3.heap.size #[.slice va (natRows xs).length vc]) := (Fr.refl _ w4).setRow _ _ (fun _ => rfl)
               have hX : w3.heap.size < w4.heap.size := live_lt lX4
               have rX : rowOf (w4.setRow w3.heap.size #[.slice va (natRows xs).length vc]) w3.heap.size = #[.slice va (natRows xs).length vc] := by simp [go_sem, lX4]
               have F3X := Lib.hid ((((Fr.refl (fun _ => False) w3).alloc (.cells #[.slice none 0 0] 83)).drew.trans HF4.out (fun _ _ h => h)).setNew (Nat.le_refl _) #[.slice va (natRows xs).length vc])
               have HWP := Lib.hid ((HM3.out.fr0 F3X.out).write_put H53 H68 (t := t) (rt := rt) HT.out (HOV.out.keep FX (fun k hk e => by have := (HOV.out.lt hk).1; omega)) rX (by rw [setRow_size]; exact hX))
               clear FX rX
               go_wp2_with (first
                 | (go_at_call 34; refine HWP.out.mono ?_; rintro e w5 ⟨v2, os, rfl, HOS, HF5, HPUT⟩)
                 | (go_at_call 38; refine HPUT.out.mono ?_; rintro e w6 ⟨c6, rfl, HR6⟩))
               go_ret
               obtain ⟨hres, hf6⟩ := HR6.out
               have hs2 := HFW2.out.size
               have hs3 := HF3.out.size
               have hsx := F3X.out.size
               have hck : ∀ k, k < w.heap.size → cls0 (w4.setRow w3.heap.size #[.slice va (natRows xs).length vc]) (cls0 w cls) k = cls k := fun k hk => by rw [cls0_lt (by omega), cls0_lt hk]
               have FF := ((HFW2.out.trans HF3.out (fun _ _ h => h.elim)).trans F3X.out (fun _ _ h => h.elim)).trans HF5.out (fun _ _ h => h.elim) |>.trans hf6 (fun k hk h => HMI.out k hk (h.imp (fun h => by rw [hck k hk] at h; rw [cls0_lt hk]; exact h) id))
               refine .inr ⟨HNE.out, c6, rfl, _, hck, FF, ?_⟩
               rcases hres with ⟨h1, rfl, F, h2, h3⟩ | ⟨h1, rfl, h2⟩
               · rw [lock_drop HGN.out] at h2 h3
                 exact .inl ⟨F, by omega, h2, h3⟩
               · exact .inr ⟨os, rfl, HGN.out, HLS.out, fun o p a1 a2 a3 => HL3.out hn3 o p a1 a2 a3, fun o => by rw [HOS.out o, HXS.out o]; rfl, h1, h2⟩)
            | (have FX : Fr (fun _ => False) w4 ((w4.alloc (.cells #[.slice none 0 0] 83)).setRow w4.heap.size #[.slice va (natRows xs).length vc]) := ((Fr.refl (fun _ => False) w4).alloc _).setNew (Nat.le_refl _) _
               have rX : rowOf ((w4.alloc (.cells #[.slice none 0 0] 83)).setRow w4.heap.size #[.slice va (natRows xs).length vc]) w4.heap.size = #[.slice va (natRows xs).length vc] := by simp [go_sem]
               have F3X := Lib.hid (((Fr.refl (fun _ => False) w3).drew.trans HF4.out (fun _ _ h => h)).trans FX (fun _ _ h => h))
               have HWP := Lib.hid ((HM3.out.fr0 F3X.out).write_put H53 H68 (t := t) (rt := rt) HT.out (HOV.out.keep FX (fun _ _ e => e)) rX (by simp))
               clear FX rX
               go_wp2_with (first
                 | (go_at_call 34; refine HWP.out.mono ?_; rintro e w5 ⟨v2, os, rfl, HOS, HF5, HPUT⟩)
                 | (go_at_call 38; refine HPUT.out.mono ?_; rintro e w6 ⟨c6, rfl, HR6⟩))
               go_ret
               obtain ⟨hres, hf6⟩ := HR6.out
               have hs2 := HFW2.out.size
               have hs3 := HF3.out.size
               have hsx := F3X.out.size
               have hck : ∀ k, k < w.heap.size → cls0 ((w4.alloc (.cells #[.slice none 0 0] 83)).setRow w4.heap.size #[.slice va (natRows xs).length vc]) (cls0 w cls) k = cls k := fun k hk => by rw [cls0_lt (by omega), cls0_lt hk]
               have FF := ((HFW2.out.trans HF3.out (fun _ _ h => h.elim)).trans F3X.out (fun _ _ h => h.elim)).trans HF5.out (fun _ _ h => h.elim) |>.trans hf6 (fun k hk h => HMI.out k hk (h.imp (fun h => by rw [hck k hk] at h; rw [cls0_lt hk]; exact h) id))
               refine .inr ⟨HNE.out, c6, rfl, _, hck, FF, ?_⟩
               rcases hres with ⟨h1, rfl, F, h2, h3⟩ | ⟨h1, rfl, h2⟩
               · rw [lock_drop HGN.out] at h2 h3
                 exact .inl ⟨F, by omega, h2, h3⟩
               · exact .inr ⟨os, rfl, HGN.out, HLS.out, fun o p a1 a2 a3 => HL3.out hn3 o p a1 a2 a3, fun o => by rw [HOS.out o, HXS.out o]; rfl, h1, h2⟩)
      · have hML : Mgr w2 (cls0 w cls) P (q + 1) S := by
          rcases HC.out with ⟨_, h⟩ | ⟨h, _⟩
          · exact h
          · exact absurd h hc0
        have HG2 := Lib.hid (hML.gone' H53 H68 HT.out)
        have hcn : (c != 0) = true := by simp [hc0]
        clear hML
        go_wp2_with (go_at_call 33; refine HG2.out.mono ?_; rintro e w3 ⟨rfl, HGR⟩)
        go_ret
        obtain ⟨F, h1, h2, h3⟩ := HGR.out
        exact .inr ⟨HNE.out, c, rfl, cls0 w cls, fun k hk => cls0_lt hk, HFW2.out.trans h3 (fun k hk h => HMI.out k hk h), .inl ⟨F, hc0, h1, h2⟩⟩
end
end Go.Proofs.YteldfmgjbgedaaaGreat
