/-
  Package keystonetop: does, a write.
-/
import Derived.Test.YteldfmgjbgedaaaGreatOho
namespace Go.Proofs.YteldfmgjbgedaaaGreat
open Go.RowKit Go.Maps

section
variable {w : World} {cls : Nat → Nat} {P : MP} {q : Nat} {M : MS} {pp : Nat} {S : PS}

/-- A write. -/
def Wrote (M : MS) (S : PS) (n : Nat) (p : PT) (rt : Nat × TR) (x : Key) (M' : MS) (S' : PS) : Prop := ∃ (c : Int), M.WriteStep p.tx rt x (lastL S.vs x) c M' ∧
  (((c ≠ 0 ∨ x ∈ p.wr) ∧ S' = { S with l := S.l.set n { p with over := decide (c ≠ 0) } }) ∨ (c = 0 ∧ x ∉ p.wr ∧ ∃ vw', S' = { S with l := S.l.set n { p with wr := p.wr ++ [x], vw := vw' } }))

theorem set_same' {α : Type} {l : List α} {n : Nat} {a : α} (h : l[n]? = some a) : l.set n a = l := by
  obtain ⟨hn, rfl⟩ := List.getElem?_eq_some_iff.1 h
  exact List.set_getElem_self hn

set_option maxRecDepth 20000 in
set_option maxHeartbeats 4000000 in
theorem Play.does_write (H53 : Sorts53) (H68 : Sorts68) (hM : Mgr w cls P q M) (hq : q + 1 < 2 ^ 40) (h : Play w cls pp P.m S) {n : Nat} {p : PT} (hp : S.l[n]? = some p) (hov : p.over = false) {rt : Nat × TR} (hrt : M.T p.tx = some rt) (hact : rt.2.act = true)
    (x y : Key) (hx : x.length < 2 ^ 32) (hlen : p.wr.length < 2 ^ 32) :
    Calls Tryz.prog 6 #[.pointer (some ⟨pp, 0, none⟩), actV 3 (n : Nat) x y] w fun e w' => e = .returned (.bool true) ∧ Acted w cls P q pp w' (Wrote M S n p rt x) := by
  obtain ⟨g, c, hvl, hlg, hg8, hn, hsz, c0, c1, c2, c3, c4, c5⟩ := h.cells hp
  have hrow := h.row
  have hlp := h.lp
  rw [hvl] at hrow
  rw [hov] at c2
  have FB : Fr (fun _ => False) w (w.alloc (.cells (actC 3 (n : Nat) x y) 37)) := (Fr.refl _ w).alloc _
  have hbox : rowOf (w.alloc (.cells (actC 3 (n : Nat) x y) 37)) w.heap.size = actC 3 (n : Nat) x y := rowOf_alloc_at _ _ _ _ _ rfl
  have hlb : live (w.alloc (.cells (actC 3 (n : Nat) x y) 37)) w.heap.size = true := live_alloc_at _ _ _ _ rfl
  have HX := Lib.hid (fun W (f : Fr (fun _ => False) w W) => (hM.boxed f).write H53 H68 hq hrt hact x (by omega) (lastL S.vs x))
  have HL := Lib.hid ((h.fr0 (FB.drew.drew.drew)).last18 x)
  have HAF := Lib.hid (fun w1 cls1 bn1 M1 => fun W (f : Fr (fun _ => False) (w.alloc (.cells (actC 3 (n : Nat) x y) 37)) W) (hD : Did W (cls0 w cls) P q w1 cls1 bn1 M1) => Play.after (w1 := w1) (cls1 := cls1) (bn1 := bn1) (M1 := M1) h hM (FB.trans f (fun _ _ e => e)) ((f.liv (by simp) (fun e => e)).trans hlb) hD)
  have HBX := Lib.hid (hbox)
  have H := Lib.hid h
  have HM := Lib.hid hM
  have HFB := Lib.hid FB
  have hd : decide ((n : Int) < 0) = false := decide_eq_false (by omega)
  have hd1 : decide ((S.l.length : Int) ≤ (n : Int)) = false := decide_eq_false (by omega)
  have hd2 : decide (S.l.length ≤ n) = false := decide_eq_false (by omega)
  have hni : (n : Int) < (S.l.length : Int) := by omega
  have hr1 := (FB.row (live_lt hlp) (fun e => e)).trans hrow
  have hg1 := FB.row (live_lt hlg) (fun e => e)
  rw [← hg1] at c0 c2
  unfold actC at hbox hr1 c0 c2
  unfold actV
  have HBS := Lib.hid (fun W (f : Fr (fun _ => False) (w.alloc (.cells (actC 3 (n : Nat) x y) 37)) W) => f.row (g := w.heap.size) (by simp) (fun e => e))
  clear h hM FB hrow c1 c3 c4 c5 hg1 hlb
  go_enter Tryz.func6, Tryz.ntmps6
  go_wp2_with fail
  go_region
  all_goals
    go_wp2_with fail
    go_region
    all_goals
      go_wp2_with fail
      go_region_held3 (fun w' => rowOf w' pp = #[.pointer (some ⟨P.m, 0, none⟩), .slice (some ⟨g, 0, none⟩) S.l.length c, S.vv, S.vo, S.vk] ∧ rowOf w' w.heap.size = #[.int .i64 3, .int .i64 (n : Nat), .string ⟨x.toArray⟩, .string ⟨y.toArray⟩] ∧ (rowOf w' g)[n * 6]? = some (.int .i64 (p.tx : Nat)))
        (first | assumption | exact ⟨by first | assumption | (rw [rowOf_drew]; assumption), by first | assumption | (rw [rowOf_drew]; assumption), by first | assumption | (rw [rowOf_drew]; assumption)⟩)
        (first | (go_simp; go_at_call 18; refine HL.out.mono ?_; rintro e w3 ⟨rfl, hf3⟩; have FW3 : Hid (Fr (fun _ => False) (w.alloc (.cells (actC 3 (n : Nat) x y) 37)) w3) := Lib.hid ((((Fr.refl (fun _ => False) _).drew.drew.drew)).trans hf3 (fun _ _ e => e)); have K3 := And.intro ((hf3.row (show pp < _ from Nat.lt_of_lt_of_le (live_lt hlp) HFB.out.size) (fun e => e)).trans hr1) (And.intro ((hf3.row (g := w.heap.size) (by simp) (fun e => e)).trans hbox) ((congrArg (fun r : Array Value => r[n * 6]?) (hf3.row (show g < _ from Nat.lt_of_lt_of_le (live_lt hlg) HFB.out.size) (fun e => e))).trans c0)); clear hf3) | (go_simp; go_at_call 17; refine (HX.out w3 (HFB.out.trans FW3.out (fun _ _ e => e))).mono ?_; rintro e w1 ⟨cc, cls1, bn1, M1, rfl, HS, HD⟩; obtain ⟨h2, b2, lb2, ag2, cb2, f2⟩ := HAF.out w1 cls1 bn1 M1 w3 FW3.out HD.out; have H2 := Lib.hid h2; obtain ⟨g2, c2', hvl2, hlg2, -, -, hsz2, d0, d1, d2, d3, d4, d5⟩ := h2.cells hp; obtain ⟨e1, -, -⟩ := slice_inj (hvl2.symm.trans hvl); subst e1; have hr2 := h2.row; rw [hvl] at hr2; rw [HBS.out w3 FW3.out, HBX.out] at b2; unfold actC at b2; have HAG := Lib.hid ag2; have HF2 := Lib.hid f2; have ltb := live_lt lb2; have ltg := live_lt hlg2; clear h2 hr1 c0 c2 hbox ag2 f2))
      all_goals
        obtain ⟨a5, c5, hvw⟩ := (H2.out.hw n p hp).1.len
        rw [strRows_length] at hvw
        rw [hvw] at d5
        have HVW := Lib.hid hvw
        have HC := Lib.hid (contains5 w1.drew ((hvw ▸ (H2.out.hw n p hp).1).keep ((Fr.refl (fun _ => False) w1).drew) (fun _ _ e => e)) x)
        have hbn : bn1 = P.bn ∨ w.heap.size ≤ bn1 := HD.out.bn.elim .inl (fun e => .inr (Nat.le_trans (Nat.le_trans HFB.out.size FW3.out.size) e))
        have hcl8 : cls1 g2 = 8 := by rw [HAG.out _ (live_lt hlg), hg8]
        clear hvw
        by_cases hcc : cc = 0
        · subst hcc
          go_wp2_with fail
          go_region_held3 (fun w' => rowOf w' w.heap.size = #[.int .i64 3, .int .i64 (n : Nat), .string ⟨x.toArray⟩, .string ⟨y.toArray⟩] ∧ (rowOf w' g2)[n * 6 + 5]? = some (.slice a5 p.wr.length c5))
            (first | assumption | exact ⟨by first | assumption | (rw [rowOf_drew]; assumption), by first | assumption | (rw [rowOf_drew]; assumption)⟩)
            (first | (go_simp; go_at_call 5; refine HC.out.mono ?_; rintro e w2 ⟨rb, rfl, hrb, hf2⟩; have HRB := Lib.hid hrb; have HFC := Lib.hid hf2; have K5 := And.intro ((hf2.row (g := w.heap.size) ltb (fun e => e)).trans ((rowOf_drew _ _).trans b2)) ((congrArg (fun r : Array Value => r[n * 6 + 5]?) ((hf2.row (g := g2) ltg (fun e => e)).trans (rowOf_drew _ _))).trans d5); clear hrb hf2))
          all_goals
            have FC := (Fr.refl (fun _ => False) w1).drew.trans HFC.out (fun _ _ e => e)
            have H3 := Lib.hid (H2.out.fr0 FC)
            have HFW : Hid (Fr (Ours cls P) w w2) := Lib.hid (HF2.out.trans FC (fun _ _ e => e.elim))
            have rb2 := (FC.row ltb (fun e => e)).trans b2
            have lb3 := (FC.liv ltb (fun e => e)).trans lb2
            have ge := FC.row ltg (fun e => e)
            rw [← ge] at d2 d5
            have lg3 := (FC.liv ltg (fun e => e)).trans hlg2
            have hm3 := Lib.hid (HD.out.mgr.fr0 FC)
            have ltb3 := live_lt lb3
            have ltg3 := live_lt lg3
            clear FC ge d0 d1 d3 d4 b2
            cases rb with
            | true =>
              have hxw : x ∈ p.wr := HRB.out.mp rfl
              go_wp2
              go_ret
              refine ⟨rfl, cls1, bn1, M1, S, HAG.out, hbn, HFW.out, hm3.out, H3.out, 0, HS.out, .inl ⟨.inr hxw, ?_⟩⟩
              have e : ({ p with over := decide ((0 : Int) ≠ 0) } : PT) = p := by rw [show decide ((0 : Int) ≠ 0) = p.over by rw [hov]; rfl]
              rw [e, set_same' hp]
            | false =>
              have hxw : ¬ x ∈ p.wr := fun e => by have := HRB.out.mpr e; cases this
              go_wp2_with fail
              go_region_law (refine step_append_one (o := ⟨some 185, _, _, _, _, _⟩) rfl (.tmp 181) (.tmp 184) 33 rfl 9 _ 1 16 Tryz.underlying33 ti9 (.slice a5 p.wr.length c5) (strRows p.wr) 0 rfl ((HVW.out ▸ (H3.out.hw n p hp).1).keep (((Fr.refl (fun _ => False) w2).alloc _).drew) (fun _ _ h => h)) (Nat.zero_le _) w2.heap.size 1 rfl #[.string ⟨x.toArray⟩] (by simp [go_sem]) (by simp [go_sem]; rfl) (by intro z hz; simp at hz; rcases hz with rfl; rfl) (strRows_size _) (by rw [strRows_length]; simp only [maxLen]; omega) (fitsN (by rw [strRows_length]; omega) (by omega)) ?_; intro g' cap' w4 ho4 f4 hn4; rw [strRows_length] at ho4 ⊢; have HO4 := Lib.hid ho4; have N4 := Lib.hid hn4; have f24 : Fr (fun i => p.vw.ownBlock = some i) w2 w4 := ((((Fr.refl (fun _ => False) w2).alloc _).drew).mono (fun _ _ e => e.elim)).trans f4 (fun _ _ e => by rw [HVW.out]; exact e); have ng4 : ¬ p.vw.ownBlock = some g2 := (fun e => by have := (H3.out.hw n p hp).2 _ e; omega); have lg4 := (f24.liv ltg3 ng4).trans lg3; have rg4 := f24.row ltg3 ng4; have HF24 := Lib.hid f24; clear ho4 f4 hn4 f24)
              all_goals
                rw [← rg4]
                have n4 : p.vw.ownBlock = some g' ∨ w2.heap.size ≤ g' := N4.out.elim (fun e => .inl (by rw [HVW.out]; exact e)) (fun e => .inr (by simp at e; omega))
                have h4 := H3.out.grow_wr hp hvl x HO4.out HF24.out n4
                have f4 : Fr (fun i => p.vw.ownBlock = some i ∨ i = g2) w2 (w4.setRow g2 ((rowOf w4 g2).setIfInBounds (n * 6 + 5) (.slice (some ⟨g', 0, none⟩) (p.wr.length + 1) cap'))) := (HF24.out.mono (fun _ _ e => .inl e)).setRow _ _ (fun _ => .inr rfl)
                have ha4 : ∀ k, k < w2.heap.size → clsG cls1 g' (14 + 3 * n) k = cls1 k := fun k hk => clsG_old (H3.out.hw n p hp).2 n4 hk
                have hm4 : Mgr (w4.setRow g2 ((rowOf w4 g2).setIfInBounds (n * 6 + 5) (.slice (some ⟨g', 0, none⟩) (p.wr.length + 1) cap'))) (clsG cls1 g' (14 + 3 * n)) { P with bn := bn1 } (q + 1) M1 := hm3.out.aside f4 (fun k _ e => by
                  rcases e with e | e
                  · have := (H3.out.hw n p hp).2 k e; omega
                  · rw [e, hcl8]; omega) (fun k e => .inl (e.elim (fun e => (H3.out.hw n p hp).1.liv e) (fun e => e ▸ lg3))) ha4
                have hag : ∀ k, k < w.heap.size → clsG cls1 g' (14 + 3 * n) k = cls k := fun k hk => (ha4 k (Nat.lt_of_lt_of_le hk HFW.out.size)).trans (HAG.out k hk)
                have fin : Fr (Ours cls P) w (w4.setRow g2 ((rowOf w4 g2).setIfInBounds (n * 6 + 5) (.slice (some ⟨g', 0, none⟩) (p.wr.length + 1) cap'))) := HFW.out.trans f4 (fun k hk e => by
                  rcases e with e | e
                  · have := (H3.out.hw n p hp).2 k e; rw [HAG.out k hk] at this; exact .inl (by omega)
                  · exact .inl (by rw [e, hg8]; omega))
                have H4 := Lib.hid h4
                have HM4 := Lib.hid hm4
                have HFIN := Lib.hid fin
                have HAGG := Lib.hid hag
                clear h4 hm4 fin hag f4 ha4 rg4
                go_wp2
                go_ret
                exact ⟨rfl, _, bn1, M1, _, HAGG.out, hbn, HFIN.out, HM4.out, H4.out, 0, HS.out, .inr ⟨rfl, hxw, .slice (some ⟨g', 0, none⟩) (p.wr.length + 1) cap', rfl⟩⟩
        · have hb1 : (cc != 0) = true := by simp [hcc]
          have hb0 : (cc == 0) = false := by simp [hcc]
          have hb3 : decide (cc = 0) = false := by simp [hcc]
          have hb2 : decide (cc ≠ 0) = true := by simp [hcc]
          rw [hov] at d2
          go_wp2_with fail
          go_region
          all_goals
            go_wp2
            go_ret
            have h5 := H2.out.overed hp hvl
            refine ⟨rfl, cls1, bn1, M1, _, HAG.out, hbn, (HF2.out.setRow _ _ (fun _ => .inl (by rw [hg8]; omega))).drew, (HD.out.mgr.aside ((Fr.refl (fun k => k = g2) w1).setRow _ _ (fun _ => rfl)) (fun k _ e => by rw [e, hcl8]; omega) (fun k e => .inl (e ▸ hlg2)) (fun _ _ => rfl)).fr0 ((Fr.refl _ _).drew), h5.fr0 ((Fr.refl _ _).drew), cc, HS.out, .inl ⟨.inl hcc, ?_⟩⟩
            rw [hb2]
end
end Go.Proofs.YteldfmgjbgedaaaGreat
