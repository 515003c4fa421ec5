/-
  Package keystonetop: does, a scan.
  Package keystonetop: does, an act of no kind.
-/
import Derived.Test.YteldfmgjbgedaaaGreatOi
import Derived.Test.YteldfmgjbgedaaaGreatOg
namespace Go.Proofs.YteldfmgjbgedaaaGreat
open Go.RowKit Go.Maps

section
variable {w : World} {cls : Nat → Nat} {P : MP} {q : Nat} {M : MS} {pp : Nat} {S : PS}

/-- What a call of the manager's finds. -/
theorem Mgr.boxed {W : World} (hM : Mgr w cls P q M) (hW : Fr (fun _ => False) w W) : Mgr W (cls0 w cls) P q M := hM.fr hW (Off.none _ _ _) (fun _ hk => cls0_lt hk)

/-- The play behind a call of the manager's. -/
theorem Play.after {W w1 : World} {cls1 : Nat → Nat} {bn1 : Nat} {M1 : MS} (h : Play w cls pp P.m S) (hM : Mgr w cls P q M) (hW : Fr (fun _ => False) w W) (hl : live W w.heap.size = true) (hD : Did W (cls0 w cls) P q w1 cls1 bn1 M1) :
    Play w1 cls1 pp P.m S ∧ rowOf w1 w.heap.size = rowOf W w.heap.size ∧ live w1 w.heap.size = true ∧ (∀ k, k < w.heap.size → cls1 k = cls k) ∧ cls1 w.heap.size = 0 ∧ Fr (Ours cls P) w w1 := by
  have h1 : Play W (cls0 w cls) pp P.m S := h.fr hW (fun _ _ e => e.elim) (fun _ hk => cls0_lt hk)
  have h2 := h1.mine (hM.boxed hW) hD.fr hD.agree
  obtain ⟨-, -, -, m4, m5, m6⟩ := hM.lts
  have nb : ¬ Mine (cls0 w cls) P w.heap.size := fun e => by
    rcases e with ⟨e, -⟩ | e | e | e
    · rw [cls0_ge (Nat.le_refl _)] at e; omega
    · omega
    · omega
    · omega
  have hb := live_lt hl
  refine ⟨h2, hD.fr.row hb nb, (hD.fr.liv hb nb).trans hl, fun k hk => (hD.agree k (Nat.lt_of_lt_of_le hk hW.size)).trans (cls0_lt hk), (hD.agree _ hb).trans (cls0_ge (Nat.le_refl _)), (hW.mono (fun _ _ e => e.elim)).trans hD.fr (fun k hk e => ?_)⟩
  rcases e with ⟨e, -⟩ | e
  · rw [cls0_lt hk] at e; exact .inl e
  · exact .inr e

theorem rgRow_size (i : Nat) (l : List (Key × Key)) : ∀ y ∈ l.map (rgA i), y.size = 4 := by
  intro y hy
  obtain ⟨p, -, rfl⟩ := List.mem_map.1 hy
  rfl

/-- What an act of transaction n leaves behind. -/
def Acted (w : World) (cls : Nat → Nat) (P : MP) (q : Nat) (pp : Nat) (w' : World) (R : MS → PS → Prop) : Prop :=
  ∃ (cls' : Nat → Nat) (bn' : Nat) (M' : MS) (S' : PS), (∀ k, k < w.heap.size → cls' k = cls k) ∧ (bn' = P.bn ∨ w.heap.size ≤ bn') ∧ Fr (Ours cls P) w w' ∧ Mgr w' cls' { P with bn := bn' } (q + 1) M' ∧ Play w' cls' pp P.m S' ∧ R M' S'

/-- A scan. -/
def Scanned (M : MS) (S : PS) (n : Nat) (p : PT) (rt : Nat × TR) (x y : Key) (M' : MS) (S' : PS) : Prop := ∃ (c : Int) (vg' : Value), M.ScanStep p.tx rt x y c M' ∧ S' = { S with l := S.l.set n { p with rg := p.rg ++ [(x, y)], vg := vg', over := decide (c ≠ 0) } }

set_option maxRecDepth 20000 in
set_option maxHeartbeats 2000000 in
theorem Play.does_scan (H53 : Sorts53) (H68 : Sorts68) (H124 : Sorted124) (hM : Mgr w cls P q M) (hB : 2 ^ 40 ≤ P.B) (hq : q + 1 < 2 ^ 40) (h : Play w cls pp P.m S) {n : Nat} {p : PT} (hp : S.l[n]? = some p) (hov : p.over = false) {rt : Nat × TR} (hrt : M.T p.tx = some rt) (hact : rt.2.act = true)
    (x y : Key) (hx : x.length < 2 ^ 32) (hlen : p.rg.length < 2 ^ 32) :
    Calls Tryz.prog 6 #[.pointer (some ⟨pp, 0, none⟩), actV 2 (n : Nat) x y] w fun e w' => e = .returned (.bool true) ∧ Acted w cls P q pp w' (Scanned M S n p rt x y) := by
  obtain ⟨g, c, hvl, hlg, hg8, hn, hsz, c0, c1, c2, c3, c4, c5⟩ := h.cells hp
  have hrow := h.row
  have hlp := h.lp
  rw [hvl] at hrow
  rw [hov] at c2
  have FB : Fr (fun _ => False) w (w.alloc (.cells (actC 2 (n : Nat) x y) 37)) := (Fr.refl _ w).alloc _
  have hbox : rowOf (w.alloc (.cells (actC 2 (n : Nat) x y) 37)) w.heap.size = actC 2 (n : Nat) x y := rowOf_alloc_at _ _ _ _ _ rfl
  have hlb : live (w.alloc (.cells (actC 2 (n : Nat) x y) 37)) w.heap.size = true := live_alloc_at _ _ _ _ rfl
  have HX := Lib.hid ((hM.boxed (FB.drew.drew.drew)).scan H53 H68 H124 hB hq hrt hact x y (by omega))
  have HAF := Lib.hid (fun w1 cls1 bn1 M1 => Play.after (w1 := w1) (cls1 := cls1) (bn1 := bn1) (M1 := M1) h hM (FB.drew.drew.drew) (by rw [live_drew, live_drew, live_drew]; exact hlb))
  have HBX := Lib.hid (hbox)
  have H := Lib.hid h
  have HM := Lib.hid hM
  have HFB := Lib.hid FB
  have hd : decide ((n : Int) < 0) = false := decide_eq_false (by omega)
  have hd1 : decide ((S.l.length : Int) ≤ (n : Int)) = false := decide_eq_false (by omega)
  have hd2 : decide (S.l.length ≤ n) = false := decide_eq_false (by omega)
  have hni : (n : Int) < (S.l.length : Int) := by omega
  have hr1 := (FB.row (live_lt hlp) (fun e => e)).trans hrow
  have hg1 := FB.row (live_lt hlg) (fun e => e)
  rw [← hg1] at c0 c2
  unfold actC at hbox hr1 c0 c2
  unfold actV
  clear h hM FB hrow c1 c3 c4 c5 hg1 hlb
  go_enter Tryz.func6, Tryz.ntmps6
  go_wp2_with fail
  go_region
  all_goals
    go_wp2_with fail
    go_region
    all_goals
      go_wp2_with fail
      go_region_held3 (fun w' => rowOf w' pp = #[.pointer (some ⟨P.m, 0, none⟩), .slice (some ⟨g, 0, none⟩) S.l.length c, S.vv, S.vo, S.vk] ∧ rowOf w' w.heap.size = #[.int .i64 2, .int .i64 (n : Nat), .string ⟨x.toArray⟩, .string ⟨y.toArray⟩] ∧ (rowOf w' g)[n * 6]? = some (.int .i64 (p.tx : Nat)))
        (first | assumption | exact ⟨by first | assumption | (rw [rowOf_drew]; assumption), by first | assumption | (rw [rowOf_drew]; assumption), by first | assumption | (rw [rowOf_drew]; assumption)⟩)
        (first | (go_simp; go_at_call 16; refine HX.out.mono ?_; rintro e w1 ⟨cc, cls1, bn1, M1, rfl, HS, HD⟩; obtain ⟨h2, b2, lb2, ag2, cb2, f2⟩ := HAF.out w1 cls1 bn1 M1 HD.out; have H2 := Lib.hid h2; obtain ⟨g2, c2', hvl2, hlg2, -, -, hsz2, d0, d1, d2, d3, d4, d5⟩ := h2.cells hp; obtain ⟨e1, -, -⟩ := slice_inj (hvl2.symm.trans hvl); subst e1; obtain ⟨a4, c4, hvg⟩ := (h2.hg n p hp).1.len; rw [List.length_map] at hvg; rw [hvg] at d4; have HVG := Lib.hid hvg; have hr2 := h2.row; rw [hvl] at hr2; rw [rowOf_drew, rowOf_drew, rowOf_drew, HBX.out] at b2; unfold actC at b2; have HAG := Lib.hid ag2; have HF2 := Lib.hid f2; have ltb := live_lt lb2; have ltg := live_lt hlg2; clear h2 hr1 c0 c2 hbox hvg ag2 f2))
      all_goals
        go_wp2_with fail
        go_region_law (refine step_append_one (o := ⟨some 144, _, _, _, _, _⟩) rfl (.tmp 141) (.tmp 143) 24 rfl 37 _ 4 48 Tryz.underlying24 ti37 (.slice a4 p.rg.length c4) (p.rg.map (rgA n)) 0 rfl (((HVG.out ▸ (H2.out.hg n p hp).1).keep (((Fr.refl (fun _ => False) w1).alloc _).drew) (fun _ _ h => h))) (Nat.zero_le _) w1.heap.size 1 rfl (rgA n (x, y)) (by simp [go_sem]) (by simp [go_sem, rgA]; rfl) (by intro z hz; simp [rgA] at hz; rcases hz with rfl | rfl | rfl | rfl <;> rfl) (rgRow_size n _) (by rw [List.length_map]; simp only [maxLen]; omega) (fitsN (by rw [List.length_map]; omega) (by omega)) ?_; intro g' cap' w3 ho3 f3 hn3; rw [List.length_map] at ho3; have HO3 := Lib.hid ho3; have F3 := Lib.hid f3; have N3 := Lib.hid hn3; have ng3 : ¬ (Value.slice a4 p.rg.length c4).ownBlock = some g2 := (fun e => by have := (H2.out.hg n p hp).2 _ (HVG.out ▸ e); rw [HAG.out _ (live_lt hlg), hg8] at this; omega); have lg3 := (f3.liv (g := g2) (by simp; omega) ng3).trans ((live_drew _ _).trans ((live_alloc_lt w1 _ _ ltg).trans hlg2)); have rg3 := (f3.row (g := g2) (by simp; omega) ng3).trans ((rowOf_drew _ _).trans (rowOf_alloc_lt w1 _ _ ltg)); have e4 := d4; rw [← rg3] at e4; have e2' := d2; rw [← rg3] at e2'; clear ho3 f3 hn3)
        all_goals
          rw [← rg3]
          have f13 : Fr (fun i => p.vg.ownBlock = some i) w1 w3 := (((Fr.refl _ w1).alloc _).drew).trans F3.out (fun _ _ e => by rw [HVG.out]; exact e)
          have n3 : p.vg.ownBlock = some g' ∨ w1.heap.size ≤ g' := N3.out.elim (fun e => .inl (by rw [HVG.out]; exact e)) (fun e => .inr (by simp at e; omega))
          have h4 := H2.out.grow_rg hp hvl (x, y) HO3.out f13 n3
          have f4 : Fr (fun i => p.vg.ownBlock = some i ∨ i = g2) w1 (w3.setRow g2 ((rowOf w3 g2).setIfInBounds (n * 6 + 4) (.slice (some ⟨g', 0, none⟩) (p.rg.length + 1) cap'))) := (f13.mono (fun _ _ e => .inl e)).setRow _ _ (fun _ => .inr rfl)
          have hl4 : live (w3.setRow g2 ((rowOf w3 g2).setIfInBounds (n * 6 + 4) (.slice (some ⟨g', 0, none⟩) (p.rg.length + 1) cap'))) g2 = true := by rw [live_setRow]; exact lg3
          have ha4 : ∀ k, k < w1.heap.size → clsG cls1 g' (13 + 3 * n) k = cls1 k := fun k hk => clsG_old (H2.out.hg n p hp).2 n3 hk
          have hm4 : Mgr (w3.setRow g2 ((rowOf w3 g2).setIfInBounds (n * 6 + 4) (.slice (some ⟨g', 0, none⟩) (p.rg.length + 1) cap'))) (clsG cls1 g' (13 + 3 * n)) { P with bn := bn1 } (q + 1) M1 := HD.out.mgr.aside f4 (fun k _ e => by
            rcases e with e | e
            · have := (H2.out.hg n p hp).2 k e; omega
            · rw [e, HAG.out _ (live_lt hlg), hg8]; omega) (fun k e => .inl (e.elim (fun e => (H2.out.hg n p hp).1.liv e) (fun e => e ▸ hlg2))) ha4
          generalize w3.setRow g2 ((rowOf w3 g2).setIfInBounds (n * 6 + 4) (.slice (some ⟨g', 0, none⟩) (p.rg.length + 1) cap')) = w4 at h4 f4 hl4 hm4 ⊢
          have H4 := Lib.hid h4
          have F4 := Lib.hid f4
          have HA4 := Lib.hid ha4
          have HM4 := Lib.hid hm4
          obtain ⟨hn', -⟩ := List.getElem?_eq_some_iff.1 hp
          obtain ⟨g4, c4', hvl4, hlg4, hg48, hn4, hsz4, -, -, e2, -, -, -⟩ := h4.cells (n := n) (List.getElem?_set_self hn')
          have hvl4' : S.vl = .slice (some ⟨g4, 0, none⟩) (S.l.set n { p with rg := p.rg ++ [(x, y)], vg := .slice (some ⟨g', 0, none⟩) (p.rg.length + 1) cap' }).length c4' := hvl4
          obtain ⟨e1, -, -⟩ := slice_inj (hvl4'.symm.trans hvl)
          subst e1
          replace e2 : (rowOf w4 g4)[n * 6 + 2]? = some (.bool p.over) := e2
          rw [hov] at e2
          have hag : ∀ k, k < w.heap.size → clsG cls1 g' (13 + 3 * n) k = cls k := fun k hk => (ha4 k (Nat.lt_of_lt_of_le hk HF2.out.size)).trans (HAG.out k hk)
          have hbn : bn1 = P.bn ∨ w.heap.size ≤ bn1 := HD.out.bn.elim .inl (fun e => .inr (Nat.le_trans HFB.out.size e))
          have fin : Fr (Ours cls P) w w4 := HF2.out.trans F4.out (fun k hk e => by
            rcases e with e | e
            · have := (H2.out.hg n p hp).2 k e; rw [HAG.out k hk] at this; exact .inl (by omega)
            · exact .inl (by rw [e, hg8]; omega))
          have HFIN := Lib.hid fin
          have HAGG := Lib.hid hag
          clear h4 f4 ha4 hm4 hag fin d0 d1 d2 d3 d4 d5 e4 e2' rg3 b2 f13
          by_cases hcc : cc = 0
          · subst hcc
            go_wp2
            go_ret
            refine ⟨rfl, _, bn1, M1, _, HAGG.out, hbn, HFIN.out, HM4.out, H4.out, 0, .slice (some ⟨g', 0, none⟩) (p.rg.length + 1) cap', HS.out, ?_⟩
            rw [hov]; rfl
          · have hb1 : (cc != 0) = true := by simp [hcc]
            have hb2 : decide (cc ≠ 0) = true := by simp [hcc]
            go_wp2
            go_ret
            have h5 := H4.out.overed (List.getElem?_set_self hn') hvl4'
            refine ⟨rfl, _, bn1, M1, _, HAGG.out, hbn, HFIN.out.setRow _ _ (fun _ => .inl (by rw [hg8]; omega)), HM4.out.aside ((Fr.refl (fun k => k = g4) w4).setRow _ _ (fun _ => rfl)) (fun k _ e => by rw [e, hg48]; omega) (fun k e => .inl (e ▸ hlg4)) (fun _ _ => rfl), h5, cc, .slice (some ⟨g', 0, none⟩) (p.rg.length + 1) cap', HS.out, ?_⟩
            rw [hb2, List.set_set]
end
end Go.Proofs.YteldfmgjbgedaaaGreat

namespace Go.Proofs.YteldfmgjbgedaaaGreat
open Go.RowKit Go.Maps

section
variable {w : World} {cls : Nat → Nat} {pp m : Nat} {S : PS}

set_option maxRecDepth 20000 in
set_option maxHeartbeats 4000000 in
theorem Play.does_other (h : Play w cls pp m S) {n : Nat} {p : PT} (hp : S.l[n]? = some p) (hov : p.over = false) (k : Int) (hk : k < 0 ∨ 5 < k) (x y : Key) :
    Calls Tryz.prog 6 #[.pointer (some ⟨pp, 0, none⟩), actV k (n : Nat) x y] w fun e w' => e = .returned (.bool true) ∧ Fr (fun _ => False) w w' := by
  obtain ⟨g, c, hvl, hlg, hg8, hn, hsz, c0, c1, c2, c3, c4, c5⟩ := h.cells hp
  have hrow := h.row
  have hlp := h.lp
  rw [hvl] at hrow
  rw [hov] at c2
  have FB : Fr (fun _ => False) w (w.alloc (.cells (actC k (n : Nat) x y) 37)) := (Fr.refl _ w).alloc _
  have hbox : rowOf (w.alloc (.cells (actC k (n : Nat) x y) 37)) w.heap.size = actC k (n : Nat) x y := rowOf_alloc_at _ _ _ _ _ rfl
  have hk0 : (k == 0) = false := by simp; omega
  have hkd0 : decide (k = 0) = false := decide_eq_false (by omega)
  have hk1 : (k == 1) = false := by simp; omega
  have hkd1 : decide (k = 1) = false := decide_eq_false (by omega)
  have hk2 : (k == 2) = false := by simp; omega
  have hkd2 : decide (k = 2) = false := decide_eq_false (by omega)
  have hk3 : (k == 3) = false := by simp; omega
  have hkd3 : decide (k = 3) = false := decide_eq_false (by omega)
  have hk4 : (k == 4) = false := by simp; omega
  have hkd4 : decide (k = 4) = false := decide_eq_false (by omega)
  have hk5 : (k == 5) = false := by simp; omega
  have hkd5 : decide (k = 5) = false := decide_eq_false (by omega)
  have hd : decide ((n : Int) < 0) = false := decide_eq_false (by omega)
  have hd1 : decide ((S.l.length : Int) ≤ (n : Int)) = false := decide_eq_false (by omega)
  have hd2 : decide (S.l.length ≤ n) = false := decide_eq_false (by omega)
  have hni : (n : Int) < (S.l.length : Int) := by omega
  have hr1 := (FB.row (live_lt hlp) (fun e => e)).trans hrow
  have hg1 := FB.row (live_lt hlg) (fun e => e)
  rw [← hg1] at c2
  unfold actC at hbox hr1 c2
  unfold actV
  clear h FB hrow c0 c1 c3 c4 c5 hg1 hk
  go_enter Tryz.func6, Tryz.ntmps6
  go_wp2_with fail
  go_region
  all_goals
    go_wp2_with fail
    go_region
    all_goals
      go_wp2
      go_ret
      exact ⟨rfl, ((Fr.refl (fun _ => False) w).alloc _).drew.drew⟩
end
end Go.Proofs.YteldfmgjbgedaaaGreat
