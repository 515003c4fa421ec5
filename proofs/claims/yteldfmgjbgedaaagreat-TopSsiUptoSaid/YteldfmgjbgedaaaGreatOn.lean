/-
  Package keystonetop: does, a commit.
-/
import Derived.Test.YteldfmgjbgedaaaGreatOho
import Derived.Test.YteldfmgjbgedaaaGreatOm
namespace Go.Proofs.YteldfmgjbgedaaaGreat
open Go.RowKit Go.Maps

section
variable {w : World} {cls : Nat → Nat} {P : MP} {q : Nat} {M : MS} {pp : Nat} {S : PS}

/-- A commit. -/
def Committed (M : MS) (S : PS) (n : Nat) (p : PT) (rt : Nat × TR) (M' : MS) (S' : PS) : Prop := ∃ (num : Nat) (c : Int), M.CommitStep p.tx rt num c M' ∧
  ((c ≠ 0 ∧ S' = { S with l := S.l.set n { p with over := true } }) ∨ (c = 0 ∧ ∃ vo' vv', S' = { S with l := S.l.set n { p with over := true }, ord := S.ord ++ [p.tx], vs := S.vs ++ p.wr.map (fun x => (x, num, p.tx)), vo := vo', vv := vv' }))

set_option maxRecDepth 20000 in
set_option maxHeartbeats 4000000 in
theorem Play.does_commit (H53 : Sorts53) (H68 : Sorts68) (H72 : Sorts72) (hM : Mgr w cls P q M) (hq : q + 1 < 2 ^ 40) (h : Play w cls pp P.m S) {n : Nat} {p : PT} (hp : S.l[n]? = some p) (hov : p.over = false) {rt : Nat × TR} (hrt : M.T p.tx = some rt) (hact : rt.2.act = true)
    (hclock : M.clock + 1 < 2 ^ 41) (hnow : M.now + 1 < 2 ^ 41) (hlo : S.ord.length < 2 ^ 32) (hlv : S.vs.length + p.wr.length < 2 ^ 32) (x y : Key) :
    Calls Tryz.prog 6 #[.pointer (some ⟨pp, 0, none⟩), actV 4 (n : Nat) x y] w fun e w' => e = .returned (.bool true) ∧ Acted w cls P q pp w' (Committed M S n p rt) := by
  obtain ⟨g, c, hvl, hlg, hg8, hn, hsz, c0, c1, c2, c3, c4, c5⟩ := h.cells hp
  have hrow := h.row
  have hlp := h.lp
  rw [hvl] at hrow
  rw [hov] at c2
  have FB : Fr (fun _ => False) w (w.alloc (.cells (actC 4 (n : Nat) x y) 37)) := (Fr.refl _ w).alloc _
  have hbox : rowOf (w.alloc (.cells (actC 4 (n : Nat) x y) 37)) w.heap.size = actC 4 (n : Nat) x y := rowOf_alloc_at _ _ _ _ _ rfl
  have hlb : live (w.alloc (.cells (actC 4 (n : Nat) x y) 37)) w.heap.size = true := live_alloc_at _ _ _ _ rfl
  have HX := Lib.hid ((hM.boxed (FB.drew.drew.drew)).commit H53 H68 H72 hq hrt hact hclock hnow)
  have HAF := Lib.hid (fun w1 cls1 bn1 M1 => Play.after (w1 := w1) (cls1 := cls1) (bn1 := bn1) (M1 := M1) h hM (FB.drew.drew.drew) (by rw [live_drew, live_drew, live_drew]; exact hlb))
  have HBX := Lib.hid (hbox)
  have H := Lib.hid h
  have HM := Lib.hid hM
  have HFB := Lib.hid FB
  have hd : decide ((n : Int) < 0) = false := decide_eq_false (by omega)
  have hd1 : decide ((S.l.length : Int) ≤ (n : Int)) = false := decide_eq_false (by omega)
  have hd2 : decide (S.l.length ≤ n) = false := decide_eq_false (by omega)
  have hni : (n : Int) < (S.l.length : Int) := by omega
  have hr1 := (FB.row (live_lt hlp) (fun e => e)).trans hrow
  have hg1 := FB.row (live_lt hlg) (fun e => e)
  rw [← hg1] at c0 c2
  unfold actC at hbox hr1 c0 c2
  unfold actV
  clear h hM FB hrow c1 c3 c4 c5 hg1 hlb
  go_enter Tryz.func6, Tryz.ntmps6
  go_wp2_with fail
  go_region
  all_goals
    go_wp2_with fail
    go_region
    all_goals
      go_wp2_with fail
      go_region_held3 (fun w' => rowOf w' pp = #[.pointer (some ⟨P.m, 0, none⟩), .slice (some ⟨g, 0, none⟩) S.l.length c, S.vv, S.vo, S.vk] ∧ rowOf w' w.heap.size = #[.int .i64 4, .int .i64 (n : Nat), .string ⟨x.toArray⟩, .string ⟨y.toArray⟩] ∧ (rowOf w' g)[n * 6]? = some (.int .i64 (p.tx : Nat)))
        (first | assumption | exact ⟨by first | assumption | (rw [rowOf_drew]; assumption), by first | assumption | (rw [rowOf_drew]; assumption), by first | assumption | (rw [rowOf_drew]; assumption)⟩)
        (first | (go_simp; go_at_call 19; refine HX.out.mono ?_; rintro e w1 ⟨num, cc, cls1, bn1, M1, rfl, HS, HD⟩; obtain ⟨h2, b2, lb2, ag2, cb2, f2⟩ := HAF.out w1 cls1 bn1 M1 HD.out; have H2 := Lib.hid h2; obtain ⟨g2, c2', hvl2, hlg2, -, -, hsz2, d0, d1, d2, d3, d4, d5⟩ := h2.cells hp; obtain ⟨e1, -, -⟩ := slice_inj (hvl2.symm.trans hvl); subst e1; have hr2 := h2.row; rw [hvl] at hr2; rw [rowOf_drew, rowOf_drew, rowOf_drew, HBX.out] at b2; unfold actC at b2; have HAG := Lib.hid ag2; have HF2 := Lib.hid f2; have ltb := live_lt lb2; have ltg := live_lt hlg2; clear h2 hr1 c0 c2 hbox ag2 f2))
      all_goals
        have HC := Lib.hid (H2.out.commits20 hp hvl num hlo hlv)
        have hbn : bn1 = P.bn ∨ w.heap.size ≤ bn1 := HD.out.bn.elim .inl (fun e => .inr (Nat.le_trans HFB.out.size e))
        have hcl8 : cls1 g2 = 8 := by rw [HAG.out _ (live_lt hlg), hg8]
        clear d0 d1 d3 d4 d5
        by_cases hcc : cc = 0
        · subst hcc
          clear d2
          go_wp2_with (go_at_call 20; refine HC.out.mono ?_; rintro e w2 ⟨rfl, HE⟩)
          go_ret
          obtain ⟨cls2, vo', vv', k1, k2, k3⟩ := HE.out
          refine ⟨rfl, cls2, bn1, M1, _, fun k hk => (k1 k (Nat.lt_of_lt_of_le hk HF2.out.size)).trans (HAG.out k hk), hbn, HF2.out.trans k2 (fun k hk e => ?_), HD.out.mgr.aside k2 (fun k _ e => ?_) (fun k e => ?_) k1, k3, num, 0, HS.out, .inr ⟨rfl, vo', vv', rfl⟩⟩
          · refine .inl ?_
            rw [← HAG.out k hk]
            rcases e with e | e | e | e
            · rw [e, H2.out.cp]; omega
            · rw [e, hcl8]; omega
            · rw [H2.out.co _ e]; omega
            · rw [H2.out.cv _ e]; omega
          · rcases e with e | e | e | e
            · rw [e, H2.out.cp]; omega
            · rw [e, hcl8]; omega
            · rw [H2.out.co _ e]; omega
            · rw [H2.out.cv _ e]; omega
          · left
            rcases e with e | e | e | e
            · rw [e]; exact H2.out.lp
            · rw [e]; exact hlg2
            · exact H2.out.ho.liv e
            · exact H2.out.hv.liv e
        · have hb1 : (cc != 0) = true := by simp [hcc]
          have hb0 : (cc == 0) = false := by simp [hcc]
          have hb3 : decide (cc = 0) = false := by simp [hcc]
          rw [hov] at d2
          go_wp2
          go_ret
          have h5 := H2.out.overed hp hvl
          exact ⟨rfl, cls1, bn1, M1, _, HAG.out, hbn, HF2.out.setRow _ _ (fun _ => .inl (by rw [hg8]; omega)), HD.out.mgr.aside ((Fr.refl (fun k => k = g2) w1).setRow _ _ (fun _ => rfl)) (fun k _ e => by rw [e, hcl8]; omega) (fun k e => .inl (e ▸ hlg2)) (fun _ _ => rfl), h5, num, cc, HS.out, .inl ⟨hcc, rfl⟩⟩
end
end Go.Proofs.YteldfmgjbgedaaaGreat
