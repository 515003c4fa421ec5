/-
  Package keystonetop: does, a read.
-/
import Derived.Test.YteldfmgjbgedaaaGreatOho
namespace Go.Proofs.YteldfmgjbgedaaaGreat
open Go.RowKit Go.Maps

theorem rdRow_size (i : Nat) (l : List (Key × Nat)) : ∀ y ∈ l.map (rdA i), y.size = 4 := by
  intro y hy
  obtain ⟨p, -, rfl⟩ := List.mem_map.1 hy
  rfl

theorem set_same {α : Type} {l : List α} {n : Nat} {a : α} (h : l[n]? = some a) : l.set n a = l := by
  obtain ⟨hn, rfl⟩ := List.getElem?_eq_some_iff.1 h
  exact List.set_getElem_self hn

section
variable {w : World} {cls : Nat → Nat} {P : MP} {q : Nat} {M : MS} {pp : Nat} {S : PS}

theorem stored3 {w2 w4 : World} {b g2 n j : Nat} {R : Array Value} {a0 a1 : Value} {F : Nat → Prop} (h : rowOf w4 b = R ∧ (rowOf w4 g2)[n * 6]? = some a0 ∧ (rowOf w4 g2)[n * 6 + 1]? = some a1 ∧ Fr (fun i => F i ∨ i = g2) w2 w4) (rg : rowOf w4 g2 = rowOf w2 g2) (lg : live w4 g2 = true) (hj : 2 ≤ j) (hb : b ≠ g2) {v : Value} :
    rowOf (w4.setRow g2 ((rowOf w2 g2).setIfInBounds (n * 6 + j) v)) b = R ∧ (rowOf (w4.setRow g2 ((rowOf w2 g2).setIfInBounds (n * 6 + j) v)) g2)[n * 6]? = some a0 ∧ (rowOf (w4.setRow g2 ((rowOf w2 g2).setIfInBounds (n * 6 + j) v)) g2)[n * 6 + 1]? = some a1 ∧ Fr (fun i => F i ∨ i = g2) w2 (w4.setRow g2 ((rowOf w2 g2).setIfInBounds (n * 6 + j) v)) := by
  obtain ⟨h1, h2, h3, h4⟩ := h
  rw [rowOf_setRow_ne _ _ _ _ hb, rowOf_setRow_same _ _ _ lg, ← rg]
  refine ⟨h1, ?_, ?_, h4.setRow _ _ (fun _ => .inr rfl)⟩
  · rw [Array.getElem?_setIfInBounds, if_neg (by omega)]; exact h2
  · rw [Array.getElem?_setIfInBounds, if_neg (by omega)]; exact h3

/-- A read. -/
def Red (M : MS) (S : PS) (n : Nat) (p : PT) (rt : Nat × TR) (x : Key) (M' : MS) (S' : PS) : Prop := ∃ (c : Int), M.ReadStep p.tx rt x c M' ∧
  ((x ∈ p.wr ∧ S' = { S with l := S.l.set n { p with over := decide (c ≠ 0) } }) ∨ (x ∉ p.wr ∧ ∃ vr', S' = { S with l := S.l.set n { p with rd := p.rd ++ [(x, seenL S.vs x p.snap)], vr := vr', over := decide (c ≠ 0) } }))

set_option maxRecDepth 20000 in
set_option maxHeartbeats 4000000 in
theorem Play.does_read (H53 : Sorts53) (H68 : Sorts68) (H124 : Sorted124) (hM : Mgr w cls P q M) (hB : 2 ^ 40 ≤ P.B) (hq : q + 1 < 2 ^ 40) (h : Play w cls pp P.m S) {n : Nat} {p : PT} (hp : S.l[n]? = some p) (hov : p.over = false) {rt : Nat × TR} (hrt : M.T p.tx = some rt) (hact : rt.2.act = true)
    (x y : Key) (hx : x.length < 2 ^ 32) (hlen : p.rd.length < 2 ^ 32) :
    Calls Tryz.prog 6 #[.pointer (some ⟨pp, 0, none⟩), actV 1 (n : Nat) x y] w fun e w' => e = .returned (.bool true) ∧ Acted w cls P q pp w' (Red M S n p rt x) := by
  obtain ⟨g, c, hvl, hlg, hg8, hn, hsz, c0, c1, c2, c3, c4, c5⟩ := h.cells hp
  have hrow := h.row
  have hlp := h.lp
  rw [hvl] at hrow
  rw [hov] at c2
  have FB : Fr (fun _ => False) w (w.alloc (.cells (actC 1 (n : Nat) x y) 37)) := (Fr.refl _ w).alloc _
  have hbox : rowOf (w.alloc (.cells (actC 1 (n : Nat) x y) 37)) w.heap.size = actC 1 (n : Nat) x y := rowOf_alloc_at _ _ _ _ _ rfl
  have hlb : live (w.alloc (.cells (actC 1 (n : Nat) x y) 37)) w.heap.size = true := live_alloc_at _ _ _ _ rfl
  have HX := Lib.hid ((hM.boxed (FB.drew.drew.drew)).read H53 H68 H124 hB hq hrt hact x (by omega))
  have HAF := Lib.hid (fun w1 cls1 bn1 M1 => Play.after (w1 := w1) (cls1 := cls1) (bn1 := bn1) (M1 := M1) h hM (FB.drew.drew.drew) (by rw [live_drew, live_drew, live_drew]; exact hlb))
  have HBX := Lib.hid (hbox)
  have H := Lib.hid h
  have HM := Lib.hid hM
  have HFB := Lib.hid FB
  have hd : decide ((n : Int) < 0) = false := decide_eq_false (by omega)
  have hd1 : decide ((S.l.length : Int) ≤ (n : Int)) = false := decide_eq_false (by omega)
  have hd2 : decide (S.l.length ≤ n) = false := decide_eq_false (by omega)
  have hni : (n : Int) < (S.l.length : Int) := by omega
  have hr1 := (FB.row (live_lt hlp) (fun e => e)).trans hrow
  have hg1 := FB.row (live_lt hlg) (fun e => e)
  rw [← hg1] at c0 c2
  unfold actC at hbox hr1 c0 c2
  unfold actV
  clear h hM FB hrow c1 c3 c4 c5 hg1 hlb
  go_enter Tryz.func6, Tryz.ntmps6
  go_wp2_with fail
  go_region
  all_goals
    go_wp2_with fail
    go_region
    all_goals
      go_wp2_with fail
      go_region_held3 (fun w' => rowOf w' pp = #[.pointer (some ⟨P.m, 0, none⟩), .slice (some ⟨g, 0, none⟩) S.l.length c, S.vv, S.vo, S.vk] ∧ rowOf w' w.heap.size = #[.int .i64 1, .int .i64 (n : Nat), .string ⟨x.toArray⟩, .string ⟨y.toArray⟩] ∧ (rowOf w' g)[n * 6]? = some (.int .i64 (p.tx : Nat)))
        (first | assumption | exact ⟨by first | assumption | (rw [rowOf_drew]; assumption), by first | assumption | (rw [rowOf_drew]; assumption), by first | assumption | (rw [rowOf_drew]; assumption)⟩)
        (first | (go_simp; go_at_call 14; refine HX.out.mono ?_; rintro e w1 ⟨cc, cls1, bn1, M1, rfl, HS, HD⟩; obtain ⟨h2, b2, lb2, ag2, cb2, f2⟩ := HAF.out w1 cls1 bn1 M1 HD.out; have H2 := Lib.hid h2; obtain ⟨g2, c2', hvl2, hlg2, -, -, hsz2, d0, d1, d2, d3, d4, d5⟩ := h2.cells hp; obtain ⟨e1, -, -⟩ := slice_inj (hvl2.symm.trans hvl); subst e1; have hr2 := h2.row; rw [hvl] at hr2; rw [rowOf_drew, rowOf_drew, rowOf_drew, HBX.out] at b2; unfold actC at b2; have HAG := Lib.hid ag2; have HF2 := Lib.hid f2; have ltb := live_lt lb2; have ltg := live_lt hlg2; clear h2 hr1 c0 c2 hbox ag2 f2))
      all_goals
        obtain ⟨a3, c3, hvr⟩ := (H2.out.hr n p hp).1.len
        rw [List.length_map] at hvr
        rw [hvr] at d3
        obtain ⟨a5, c5, hvw⟩ := (H2.out.hw n p hp).1.len
        rw [strRows_length] at hvw
        rw [hvw] at d5
        have HVR := Lib.hid hvr
        have HVW := Lib.hid hvw
        have HC := Lib.hid (contains5 w1.drew ((hvw ▸ (H2.out.hw n p hp).1).keep ((Fr.refl (fun _ => False) w1).drew) (fun _ _ e => e)) x)
        clear hvr hvw
        go_wp2_with fail
        go_region_held3 (fun w' => rowOf w' w.heap.size = #[.int .i64 1, .int .i64 (n : Nat), .string ⟨x.toArray⟩, .string ⟨y.toArray⟩] ∧ (rowOf w' g2)[n * 6 + 5]? = some (.slice a5 p.wr.length c5))
          (first | assumption | exact ⟨by first | assumption | (rw [rowOf_drew]; assumption), by first | assumption | (rw [rowOf_drew]; assumption)⟩)
          (first | (go_simp; go_at_call 5; refine HC.out.mono ?_; rintro e w2 ⟨rb, rfl, hrb, hf2⟩; have HRB := Lib.hid hrb; have HFC := Lib.hid hf2; have K5 := And.intro ((hf2.row (g := w.heap.size) ltb (fun e => e)).trans ((rowOf_drew _ _).trans b2)) ((congrArg (fun r : Array Value => r[n * 6 + 5]?) ((hf2.row (g := g2) ltg (fun e => e)).trans (rowOf_drew _ _))).trans d5); clear hrb hf2))
        all_goals
          have FC := (Fr.refl (fun _ => False) w1).drew.trans HFC.out (fun _ _ e => e)
          have H3 := Lib.hid (H2.out.fr0 FC)
          have HFC' := Lib.hid FC
          have HFW : Hid (Fr (Ours cls P) w w2) := Lib.hid (HF2.out.trans FC (fun _ _ e => e.elim))
          have rb2 := (FC.row ltb (fun e => e)).trans b2
          have lb3 := (FC.liv ltb (fun e => e)).trans lb2
          have ge := FC.row ltg (fun e => e)
          rw [← ge] at d0 d1 d2 d3 d5
          have lg3 := (FC.liv ltg (fun e => e)).trans hlg2
          have hm3 := Lib.hid (HD.out.mgr.fr0 FC)
          have hbn : bn1 = P.bn ∨ w.heap.size ≤ bn1 := HD.out.bn.elim .inl (fun e => .inr (Nat.le_trans HFB.out.size e))
          have ltb3 := live_lt lb3
          have ltg3 := live_lt lg3
          have hcl8 : cls1 g2 = 8 := by rw [HAG.out _ (live_lt hlg), hg8]
          have HEQ := Lib.hid ge
          clear FC ge d4 b2
          cases rb with
          | true =>
            have hxw : x ∈ p.wr := HRB.out.mp rfl
            by_cases hcc : cc = 0
            · subst hcc
              go_wp2
              go_ret
              refine ⟨rfl, cls1, bn1, M1, S, HAG.out, hbn, HFW.out, hm3.out, H3.out, 0, HS.out, .inl ⟨hxw, ?_⟩⟩
              have e : ({ p with over := decide ((0 : Int) ≠ 0) } : PT) = p := by rw [show decide ((0 : Int) ≠ 0) = p.over by rw [hov]; rfl]
              rw [e, set_same hp]
            · have hb1 : (cc != 0) = true := by simp [hcc]
              have hb2 : decide (cc ≠ 0) = true := by simp [hcc]
              rw [hov] at d2
              go_wp2
              go_ret
              have h5 := H3.out.overed hp hvl
              refine ⟨rfl, cls1, bn1, M1, _, HAG.out, hbn, HFW.out.setRow _ _ (fun _ => .inl (by rw [hg8]; omega)), hm3.out.aside ((Fr.refl (fun k => k = g2) w2).setRow _ _ (fun _ => rfl)) (fun k _ e => by rw [e, hcl8]; omega) (fun k e => .inl (e ▸ lg3)) (fun _ _ => rfl), h5, cc, HS.out, .inl ⟨hxw, ?_⟩⟩
              rw [hb2]
          | false =>
            have hgb : w.heap.size ≠ g2 := fun e => by rw [e] at cb2; omega
            have hxw : ¬ x ∈ p.wr := fun e => by have := HRB.out.mpr e; cases this
            have HSEEN := Lib.hid ((H3.out.fr0 ((Fr.refl _ w2).drew)).seen15 x p.snap)
            have HSTEP : Hid (∀ W W' : World, (rowOf W w.heap.size = #[.int .i64 1, .int .i64 (n : Nat), .string ⟨x.toArray⟩, .string ⟨y.toArray⟩] ∧ (rowOf W g2)[n * 6]? = some (.int .i64 (p.tx : Nat)) ∧ (rowOf W g2)[n * 6 + 1]? = some (.int .i64 (p.snap : Nat)) ∧ Fr (fun i => p.vr.ownBlock = some i ∨ i = g2) w2 W) → Fr (fun _ => False) W W' → (rowOf W' w.heap.size = #[.int .i64 1, .int .i64 (n : Nat), .string ⟨x.toArray⟩, .string ⟨y.toArray⟩] ∧ (rowOf W' g2)[n * 6]? = some (.int .i64 (p.tx : Nat)) ∧ (rowOf W' g2)[n * 6 + 1]? = some (.int .i64 (p.snap : Nat)) ∧ Fr (fun i => p.vr.ownBlock = some i ∨ i = g2) w2 W')) := Lib.hid (fun W W' hS f => by
              obtain ⟨s1, s2, s3, s5⟩ := hS
              have eg := f.row (Nat.lt_of_lt_of_le ltg3 s5.size) (fun e => e)
              exact ⟨(f.row (Nat.lt_of_lt_of_le ltb3 s5.size) (fun e => e)).trans s1, by rw [eg]; exact s2, by rw [eg]; exact s3, s5.trans f (fun _ _ e => e.elim)⟩)
            go_wp2_with fail
            refine wp_region_noPanic ?_
            refine wp_region_held_drew (S := (fun w' => rowOf w' w.heap.size = #[.int .i64 1, .int .i64 (n : Nat), .string ⟨x.toArray⟩, .string ⟨y.toArray⟩] ∧ (rowOf w' g2)[n * 6]? = some (.int .i64 (p.tx : Nat)) ∧ (rowOf w' g2)[n * 6 + 1]? = some (.int .i64 (p.snap : Nat)) ∧ Fr (fun i => p.vr.ownBlock = some i ∨ i = g2) w2 w')) (by kernel_rfl) ?_ (fun hHeld => ?_)
            · (try dsimp only)
              (first | assumption | exact HSTEP.out w2 _ ⟨rb2, d0, d1, Fr.refl _ _⟩ ((Fr.refl _ w2).drew) | exact HSTO.out _ | exact HSTEP.out _ _ (by assumption) ((Fr.refl _ _).drew) | exact HSTEP.out _ _ (by assumption) ((Fr.refl _ _).alloc _))
            refine wpAnyH_take (i := 0) (oi := _) (v := ?_) rfl (by kernel_rfl) (by kernel_rfl) (by kernel_rfl) (fun _ _ _ h => h) (Or.inl ⟨by rfl, ?_⟩) (by assumption) ?_
            rotate_left
            · intro W hSw
              (try dsimp only at hSw)
              go_simp
              try with_reducible rfl
            try simp only [Act.put, List.setIfInBounds_toArray]
            refine wpAnyH_take (i := 1) (oi := _) (v := ?_) rfl (by kernel_rfl) (by kernel_rfl) (by kernel_rfl) (fun _ _ _ h => h) (Or.inl ⟨by rfl, ?_⟩) (by assumption) ?_
            rotate_left
            · intro W hSw
              (try dsimp only at hSw)
              go_simp
              try with_reducible rfl
            try simp only [Act.put]
            refine wpAnyH_take (i := 2) (oi := _) (v := ?_) rfl (by kernel_rfl) (by kernel_rfl) (by kernel_rfl) (fun _ _ _ h => h) (Or.inl ⟨by rfl, ?_⟩) (by assumption) ?_
            rotate_left
            · intro W hSw
              (try dsimp only at hSw)
              go_simp
              try with_reducible rfl
            try simp only [Act.put]
            refine wpAnyH_take (i := 3) (oi := _) (v := ?_) rfl (by kernel_rfl) (by kernel_rfl) (by kernel_rfl) (fun _ _ _ h => h) (Or.inl ⟨by rfl, ?_⟩) (by assumption) ?_
            rotate_left
            · intro W hSw
              (try dsimp only at hSw)
              go_simp
              try with_reducible rfl
            try simp only [Act.put]
            refine wpAnyH_take (i := 5) (oi := _) (v := ?_) rfl (by kernel_rfl) (by kernel_rfl) (by kernel_rfl) (fun _ _ _ h => h) (Or.inl ⟨by rfl, ?_⟩) (by assumption) ?_
            rotate_left
            · intro W hSw
              (try dsimp only at hSw)
              go_simp
              try with_reducible rfl
            try simp only [Act.put]
            refine wpAnyH_take (i := 6) (oi := _) (v := ?_) rfl (by kernel_rfl) (by kernel_rfl) (by kernel_rfl) (fun _ _ _ h => h) (Or.inl ⟨by rfl, ?_⟩) (by assumption) ?_
            rotate_left
            · intro W hSw
              (try dsimp only at hSw)
              go_simp
              try with_reducible rfl
            try simp only [Act.put]
            refine wpAnyH_take (i := 7) (oi := _) (v := ?_) rfl (by kernel_rfl) (by kernel_rfl) (by kernel_rfl) (fun _ _ _ h => h) (Or.inl ⟨by rfl, ?_⟩) (by assumption) ?_
            rotate_left
            · intro W hSw
              (try dsimp only at hSw)
              go_simp
              try with_reducible rfl
            try simp only [Act.put]
            refine wpAnyH_take (i := 8) (oi := _) (v := ?_) rfl (by kernel_rfl) (by kernel_rfl) (by kernel_rfl) (fun _ _ _ h => h) (Or.inl ⟨by rfl, ?_⟩) (by assumption) ?_
            rotate_left
            · intro W hSw
              (try dsimp only at hSw)
              go_simp
              try with_reducible rfl
            try simp only [Act.put]
            refine wpAnyH_take (i := 9) (oi := _) (v := ?_) rfl (by kernel_rfl) (by kernel_rfl) (by kernel_rfl) (fun _ _ _ h => h) (Or.inl ⟨by rfl, ?_⟩) (by assumption) ?_
            rotate_left
            · intro W hSw
              (try dsimp only at hSw)
              go_simp
              try with_reducible rfl
            try simp only [Act.put]
            refine wpAnyH_take (i := 10) (oi := _) (v := ?_) rfl (by kernel_rfl) (by kernel_rfl) (by kernel_rfl) (fun _ _ _ h => h) (Or.inl ⟨by rfl, ?_⟩) (by assumption) ?_
            rotate_left
            · intro W hSw
              (try dsimp only at hSw)
              go_simp
              try with_reducible rfl
            try simp only [Act.put]
            refine wpAnyH_take (i := 11) (oi := _) (v := ?_) rfl (by kernel_rfl) (by kernel_rfl) (by kernel_rfl) (fun _ _ _ h => h) (Or.inl ⟨by rfl, ?_⟩) (by assumption) ?_
            rotate_left
            · intro W hSw
              (try dsimp only at hSw)
              go_simp
              try with_reducible rfl
            try simp only [Act.put]
            refine wpAnyH_take (i := 12) (oi := _) (v := ?_) rfl (by kernel_rfl) (by kernel_rfl) (by kernel_rfl) (fun _ _ _ h => h) (Or.inl ⟨by rfl, ?_⟩) (by assumption) ?_
            rotate_left
            · intro W hSw
              (try dsimp only at hSw)
              go_simp
              try with_reducible rfl
            try simp only [Act.put]
            refine wpAnyH_take (i := 13) (oi := _) (v := ?_) rfl (by kernel_rfl) (by kernel_rfl) (by kernel_rfl) (fun _ _ _ h => h) (Or.inl ⟨by rfl, ?_⟩) (by assumption) ?_
            rotate_left
            · intro W hSw
              (try dsimp only at hSw)
              go_simp
              try with_reducible rfl
            try simp only [Act.put]
            refine wpAnyH_take (i := 14) (oi := _) (v := ?_) rfl (by kernel_rfl) (by kernel_rfl) (by kernel_rfl) (fun _ _ _ h => h) (Or.inl ⟨by rfl, ?_⟩) (by assumption) ?_
            rotate_left
            · intro W hSw
              (try dsimp only at hSw)
              go_simp
              try with_reducible rfl
            try simp only [Act.put]
            refine wpAnyH_take (i := 15) (oi := _) (v := ?_) rfl (by kernel_rfl) (by kernel_rfl) (by kernel_rfl) (fun _ _ _ h => h) (Or.inl ⟨by rfl, ?_⟩) (by assumption) ?_
            rotate_left
            · intro W hSw
              (try dsimp only at hSw)
              go_simp
              try with_reducible rfl
            try simp only [Act.put]
            refine wpAnyH_take (i := 16) (oi := _) (v := ?_) rfl (by kernel_rfl) (by kernel_rfl) (by kernel_rfl) (fun _ _ _ h => h) (Or.inl ⟨by rfl, ?_⟩) (by assumption) ?_
            rotate_left
            · intro W hSw
              (try dsimp only at hSw)
              go_simp
              try with_reducible rfl
            try simp only [Act.put]
            refine wpAnyH_take (i := 17) (oi := _) (v := ?_) rfl (by kernel_rfl) (by kernel_rfl) (by kernel_rfl) (fun _ _ _ h => h) (Or.inl ⟨by rfl, ?_⟩) (by assumption) ?_
            rotate_left
            · intro W hSw
              (try dsimp only at hSw)
              go_simp
              try with_reducible rfl
            try simp only [Act.put]
            refine wpAnyH_ready (rs := [4, 18]) (by kernel_rfl) (by simp) ?_
            refine AllReadyH.cons rfl (fun K hK => ?_) ?_
            · skip
              go_simp
              refine hK.out _ _ ?_ (fun hHeld => ?_)
              · (try dsimp only)
                (first | assumption | exact HSTEP.out w2 _ ⟨rb2, d0, d1, Fr.refl _ _⟩ ((Fr.refl _ w2).drew) | exact HSTO.out _ | exact HSTEP.out _ _ (by assumption) ((Fr.refl _ _).drew) | exact HSTEP.out _ _ (by assumption) ((Fr.refl _ _).alloc _))
              clear hK K
              refine wpAnyH_ready (rs := [18]) (by kernel_rfl) (by simp) ?_
              refine AllReadyH.cons rfl (fun K hK => ?_) ?_
              · skip
                go_simp; go_at_call 15; refine HSEEN.out.mono ?_; rintro e w3 ⟨rfl, hf3⟩; have K3 := HSTEP.out _ _ (HSTEP.out w2 _ ⟨rb2, d0, d1, Fr.refl _ _⟩ ((Fr.refl _ w2).drew)) hf3; have HF3 := Lib.hid hf3; have d33 := (congrArg (fun r : Array Value => r[n * 6 + 3]?) ((hf3.row (g := g2) ltg3 (fun e => e)).trans (rowOf_drew _ _))).trans d3; have ltg33 := Nat.lt_of_lt_of_le ltg3 hf3.size; clear hf3
                go_wp2_with fail
                refine hK.out _ _ ?_ (fun hHeld => ?_)
                · (try dsimp only)
                  (first | assumption | exact HSTEP.out w2 _ ⟨rb2, d0, d1, Fr.refl _ _⟩ ((Fr.refl _ w2).drew) | exact HSTO.out _ | exact HSTEP.out _ _ (by assumption) ((Fr.refl _ _).drew) | exact HSTEP.out _ _ (by assumption) ((Fr.refl _ _).alloc _))
                clear hK K
                refine wpAnyH_take (i := 19) (oi := _) (v := ?_) rfl (by kernel_rfl) (by kernel_rfl) (by kernel_rfl) (fun _ _ _ h => h) (Or.inl ⟨by rfl, ?_⟩) (by assumption) ?_
                rotate_left
                · intro W hSw
                  (try dsimp only at hSw)
                  go_simp
                  try with_reducible rfl
                try simp only [Act.put, List.setIfInBounds_toArray]
                refine wpAnyH_ready (rs := [20]) (by kernel_rfl) (by simp) ?_
                refine AllReadyH.cons rfl (fun K hK => ?_) ?_
                · skip
                  go_simp
                  refine hK.out _ _ ?_ (fun hHeld => ?_)
                  · (try dsimp only)
                    (first | assumption | exact HSTEP.out w2 _ ⟨rb2, d0, d1, Fr.refl _ _⟩ ((Fr.refl _ w2).drew) | exact HSTO.out _ | exact HSTEP.out _ _ (by assumption) ((Fr.refl _ _).drew) | exact HSTEP.out _ _ (by assumption) ((Fr.refl _ _).alloc _))
                  clear hK K
                  refine wpAnyH_ready (rs := [21]) (by kernel_rfl) (by simp) ?_
                  refine AllReadyH.cons rfl (fun K hK => ?_) ?_
                  · skip
                    refine step_append_one (o := ⟨some 119, _, _, _, _, _⟩) rfl (.tmp 102) (.tmp 118) 40 rfl 69 _ 4 40 Tryz.underlying40 ti69 (.slice a3 p.rd.length c3) (p.rd.map (rdA p.tx)) 0 rfl ((HVR.out ▸ (H3.out.hr n p hp).1).keep ((((Fr.refl (fun _ => False) w2).drew).trans HF3.out (fun _ _ h => h)).alloc _) (fun _ _ h => h)) (Nat.zero_le _) w3.heap.size 1 rfl (rdA p.tx (x, seenL S.vs x p.snap)) (by simp [go_sem]) (by simp [go_sem, rdA]; rfl) (by intro z hz; simp [rdA] at hz; rcases hz with rfl | rfl | rfl | rfl <;> rfl) (rdRow_size p.tx _) (by rw [List.length_map]; simp only [maxLen]; omega) (fitsN (by rw [List.length_map]; omega) (by omega)) ?_; intro g' cap' w4 ho4 f4 hn4; rw [List.length_map] at ho4; have HO4 := Lib.hid ho4; have N4 := Lib.hid hn4; have f24 : Fr (fun i => p.vr.ownBlock = some i) w2 w4 := (((((Fr.refl (fun _ => False) w2).drew).trans HF3.out (fun _ _ h => h)).alloc _).mono (fun _ _ e => e.elim)).trans f4 (fun _ _ e => by rw [HVR.out]; exact e); have ng4 : ¬ p.vr.ownBlock = some g2 := (fun e => by have := (H3.out.hr n p hp).2 _ e; omega); have nb4 : ¬ p.vr.ownBlock = some w.heap.size := (fun e => by have := (H3.out.hr n p hp).2 _ e; omega); have lg4 := (f24.liv ltg3 ng4).trans lg3; have rg4 := f24.row ltg3 ng4; have K4 := And.intro ((f24.row ltb3 nb4).trans rb2) (And.intro ((congrArg (fun r : Array Value => r[n * 6]?) rg4).trans d0) (And.intro ((congrArg (fun r : Array Value => r[n * 6 + 1]?) rg4).trans d1) (f24.mono (G := fun i => p.vr.ownBlock = some i ∨ i = g2) (fun _ _ e => .inl e)))); have HSTO := Lib.hid (fun v => stored3 (n := n) (j := 3) (v := v) K4 rg4 lg4 (by omega) hgb); have HF24 := Lib.hid f24; clear ho4 f4 hn4 f24
                    refine hK.out _ _ ?_ (fun hHeld => ?_)
                    · (try dsimp only)
                      (first | assumption | exact HSTEP.out w2 _ ⟨rb2, d0, d1, Fr.refl _ _⟩ ((Fr.refl _ w2).drew) | exact HSTO.out _ | exact HSTEP.out _ _ (by assumption) ((Fr.refl _ _).drew) | exact HSTEP.out _ _ (by assumption) ((Fr.refl _ _).alloc _))
                    clear hK K
                    refine wpAnyH_take (i := 22) (oi := _) (v := ?_) rfl (by kernel_rfl) (by kernel_rfl) (by kernel_rfl) (fun _ _ _ h => h) (Or.inl ⟨by rfl, ?_⟩) (by assumption) ?_
                    rotate_left
                    · intro W hSw
                      (try dsimp only at hSw)
                      go_simp
                      try with_reducible rfl
                    try simp only [Act.put, List.setIfInBounds_toArray, List.set_cons_zero, List.set_cons_succ]
                    refine wpAnyH_take (i := 23) (oi := _) (v := ?_) rfl (by kernel_rfl) (by kernel_rfl) (by kernel_rfl) (fun _ _ _ h => h) (Or.inl ⟨by rfl, ?_⟩) (by assumption) ?_
                    rotate_left
                    · intro W hSw
                      (try dsimp only at hSw)
                      go_simp
                      try with_reducible rfl
                    try simp only [Act.put]
                    refine wpAnyH_ready (rs := [24]) (by kernel_rfl) (by simp) ?_
                    refine AllReadyH.cons rfl (fun K hK => ?_) ?_
                    · skip
                      go_simp
                      refine hK.out _ _ ?_ (fun hHeld => ?_)
                      · (try dsimp only)
                        (first | assumption | exact HSTEP.out w2 _ ⟨rb2, d0, d1, Fr.refl _ _⟩ ((Fr.refl _ w2).drew) | exact HSTO.out _ | exact HSTEP.out _ _ (by assumption) ((Fr.refl _ _).drew) | exact HSTEP.out _ _ (by assumption) ((Fr.refl _ _).alloc _))
                      clear hK K
                      refine wpAnyH_done (by kernel_rfl) ?_ _
                      refine NoPanic.normal ?_
                      rw [← rg4]
                      have n4 : p.vr.ownBlock = some g' ∨ w2.heap.size ≤ g' := N4.out.elim (fun e => .inl (by rw [HVR.out]; exact e)) (fun e => .inr (by have := HF3.out.size; simp at e this; omega))
                      have h4 := H3.out.grow_rd hp hvl (x, seenL S.vs x p.snap) HO4.out HF24.out n4
                      have f4 : Fr (fun i => p.vr.ownBlock = some i ∨ i = g2) w2 (w4.setRow g2 ((rowOf w4 g2).setIfInBounds (n * 6 + 3) (.slice (some ⟨g', 0, none⟩) (p.rd.length + 1) cap'))) := (HF24.out.mono (fun _ _ e => .inl e)).setRow _ _ (fun _ => .inr rfl)
                      have hl4 : live (w4.setRow g2 ((rowOf w4 g2).setIfInBounds (n * 6 + 3) (.slice (some ⟨g', 0, none⟩) (p.rd.length + 1) cap'))) g2 = true := by rw [live_setRow]; exact lg4
                      have ha4 : ∀ k, k < w2.heap.size → clsG cls1 g' (12 + 3 * n) k = cls1 k := fun k hk => clsG_old (H3.out.hr n p hp).2 n4 hk
                      have hm4 : Mgr (w4.setRow g2 ((rowOf w4 g2).setIfInBounds (n * 6 + 3) (.slice (some ⟨g', 0, none⟩) (p.rd.length + 1) cap'))) (clsG cls1 g' (12 + 3 * n)) { P with bn := bn1 } (q + 1) M1 := hm3.out.aside f4 (fun k _ e => by
                        rcases e with e | e
                        · have := (H3.out.hr n p hp).2 k e; omega
                        · rw [e, hcl8]; omega) (fun k e => .inl (e.elim (fun e => (H3.out.hr n p hp).1.liv e) (fun e => e ▸ lg3))) ha4
                      generalize w4.setRow g2 ((rowOf w4 g2).setIfInBounds (n * 6 + 3) (.slice (some ⟨g', 0, none⟩) (p.rd.length + 1) cap')) = w5 at h4 f4 hl4 hm4 ⊢
                      have H4 := Lib.hid h4
                      have HM4 := Lib.hid hm4
                      obtain ⟨hn', -⟩ := List.getElem?_eq_some_iff.1 hp
                      obtain ⟨g4, c4', hvl4, hlg4, hg48, hn4, hsz4, -, -, e2, -, -, -⟩ := h4.cells (n := n) (List.getElem?_set_self hn')
                      have hvl4' : S.vl = .slice (some ⟨g4, 0, none⟩) (S.l.set n { p with rd := p.rd ++ [(x, seenL S.vs x p.snap)], vr := .slice (some ⟨g', 0, none⟩) (p.rd.length + 1) cap' }).length c4' := hvl4
                      obtain ⟨e1, -, -⟩ := slice_inj (hvl4'.symm.trans hvl)
                      subst e1
                      replace e2 : (rowOf w5 g4)[n * 6 + 2]? = some (.bool p.over) := e2
                      rw [hov] at e2
                      have hag : ∀ k, k < w.heap.size → clsG cls1 g' (12 + 3 * n) k = cls k := fun k hk => (ha4 k (Nat.lt_of_lt_of_le hk HFW.out.size)).trans (HAG.out k hk)
                      have fin : Fr (Ours cls P) w w5 := HFW.out.trans f4 (fun k hk e => by
                        rcases e with e | e
                        · have := (H3.out.hr n p hp).2 k e; rw [HAG.out k hk] at this; exact .inl (by omega)
                        · exact .inl (by rw [e, hg8]; omega))
                      have HFIN := Lib.hid fin
                      have HAGG := Lib.hid hag
                      clear h4 f4 ha4 hm4 hag fin d0 d1 d2 d3 d5 rg4
                      by_cases hcc : cc = 0
                      · subst hcc
                        go_wp2
                        go_ret
                        refine ⟨rfl, _, bn1, M1, _, HAGG.out, hbn, HFIN.out, HM4.out, H4.out, 0, HS.out, .inr ⟨hxw, .slice (some ⟨g', 0, none⟩) (p.rd.length + 1) cap', ?_⟩⟩
                        rw [hov]; rfl
                      · have hb1 : (cc != 0) = true := by simp [hcc]
                        have hb2 : decide (cc ≠ 0) = true := by simp [hcc]
                        go_wp2
                        go_ret
                        have h5 := H4.out.overed (List.getElem?_set_self hn') hvl4'
                        refine ⟨rfl, _, bn1, M1, _, HAGG.out, hbn, HFIN.out.setRow _ _ (fun _ => .inl (by rw [hg8]; omega)), HM4.out.aside ((Fr.refl (fun k => k = g4) w5).setRow _ _ (fun _ => rfl)) (fun k _ e => by rw [e, hg48]; omega) (fun k e => .inl (e ▸ hlg4)) (fun _ _ => rfl), h5, cc, HS.out, .inr ⟨hxw, .slice (some ⟨g', 0, none⟩) (p.rd.length + 1) cap', ?_⟩⟩
                        rw [hb2, List.set_set]
                    exact AllReadyH.nil
                  exact AllReadyH.nil
                exact AllReadyH.nil
              exact AllReadyH.nil
            refine AllReadyH.cons rfl (fun K hK => ?_) ?_
            · skip
              go_simp; go_at_call 15; refine HSEEN.out.mono ?_; rintro e w3 ⟨rfl, hf3⟩; have K3 := HSTEP.out _ _ (HSTEP.out w2 _ ⟨rb2, d0, d1, Fr.refl _ _⟩ ((Fr.refl _ w2).drew)) hf3; have HF3 := Lib.hid hf3; have d33 := (congrArg (fun r : Array Value => r[n * 6 + 3]?) ((hf3.row (g := g2) ltg3 (fun e => e)).trans (rowOf_drew _ _))).trans d3; have ltg33 := Nat.lt_of_lt_of_le ltg3 hf3.size; clear hf3
              go_wp2_with fail
              refine hK.out _ _ ?_ (fun hHeld => ?_)
              · (try dsimp only)
                (first | assumption | exact HSTEP.out w2 _ ⟨rb2, d0, d1, Fr.refl _ _⟩ ((Fr.refl _ w2).drew) | exact HSTO.out _ | exact HSTEP.out _ _ (by assumption) ((Fr.refl _ _).drew) | exact HSTEP.out _ _ (by assumption) ((Fr.refl _ _).alloc _))
              clear hK K
              refine wpAnyH_take (i := 19) (oi := _) (v := ?_) rfl (by kernel_rfl) (by kernel_rfl) (by kernel_rfl) (fun _ _ _ h => h) (Or.inl ⟨by rfl, ?_⟩) (by assumption) ?_
              rotate_left
              · intro W hSw
                (try dsimp only at hSw)
                go_simp
                try with_reducible rfl
              try simp only [Act.put, List.setIfInBounds_toArray]
              refine wpAnyH_ready (rs := [4, 20]) (by kernel_rfl) (by simp) ?_
              refine AllReadyH.cons rfl (fun K hK => ?_) ?_
              · skip
                go_simp
                refine hK.out _ _ ?_ (fun hHeld => ?_)
                · (try dsimp only)
                  (first | assumption | exact HSTEP.out w2 _ ⟨rb2, d0, d1, Fr.refl _ _⟩ ((Fr.refl _ w2).drew) | exact HSTO.out _ | exact HSTEP.out _ _ (by assumption) ((Fr.refl _ _).drew) | exact HSTEP.out _ _ (by assumption) ((Fr.refl _ _).alloc _))
                clear hK K
                refine wpAnyH_ready (rs := [20]) (by kernel_rfl) (by simp) ?_
                refine AllReadyH.cons rfl (fun K hK => ?_) ?_
                · skip
                  go_simp
                  refine hK.out _ _ ?_ (fun hHeld => ?_)
                  · (try dsimp only)
                    (first | assumption | exact HSTEP.out w2 _ ⟨rb2, d0, d1, Fr.refl _ _⟩ ((Fr.refl _ w2).drew) | exact HSTO.out _ | exact HSTEP.out _ _ (by assumption) ((Fr.refl _ _).drew) | exact HSTEP.out _ _ (by assumption) ((Fr.refl _ _).alloc _))
                  clear hK K
                  refine wpAnyH_ready (rs := [21]) (by kernel_rfl) (by simp) ?_
                  refine AllReadyH.cons rfl (fun K hK => ?_) ?_
                  · skip
                    refine step_append_one (o := ⟨some 119, _, _, _, _, _⟩) rfl (.tmp 102) (.tmp 118) 40 rfl 69 _ 4 40 Tryz.underlying40 ti69 (.slice a3 p.rd.length c3) (p.rd.map (rdA p.tx)) 0 rfl ((HVR.out ▸ (H3.out.hr n p hp).1).keep ((((Fr.refl (fun _ => False) w2).drew).trans HF3.out (fun _ _ h => h)).alloc _) (fun _ _ h => h)) (Nat.zero_le _) w3.heap.size 1 rfl (rdA p.tx (x, seenL S.vs x p.snap)) (by simp [go_sem]) (by simp [go_sem, rdA]; rfl) (by intro z hz; simp [rdA] at hz; rcases hz with rfl | rfl | rfl | rfl <;> rfl) (rdRow_size p.tx _) (by rw [List.length_map]; simp only [maxLen]; omega) (fitsN (by rw [List.length_map]; omega) (by omega)) ?_; intro g' cap' w4 ho4 f4 hn4; rw [List.length_map] at ho4; have HO4 := Lib.hid ho4; have N4 := Lib.hid hn4; have f24 : Fr (fun i => p.vr.ownBlock = some i) w2 w4 := (((((Fr.refl (fun _ => False) w2).drew).trans HF3.out (fun _ _ h => h)).alloc _).mono (fun _ _ e => e.elim)).trans f4 (fun _ _ e => by rw [HVR.out]; exact e); have ng4 : ¬ p.vr.ownBlock = some g2 := (fun e => by have := (H3.out.hr n p hp).2 _ e; omega); have nb4 : ¬ p.vr.ownBlock = some w.heap.size := (fun e => by have := (H3.out.hr n p hp).2 _ e; omega); have lg4 := (f24.liv ltg3 ng4).trans lg3; have rg4 := f24.row ltg3 ng4; have K4 := And.intro ((f24.row ltb3 nb4).trans rb2) (And.intro ((congrArg (fun r : Array Value => r[n * 6]?) rg4).trans d0) (And.intro ((congrArg (fun r : Array Value => r[n * 6 + 1]?) rg4).trans d1) (f24.mono (G := fun i => p.vr.ownBlock = some i ∨ i = g2) (fun _ _ e => .inl e)))); have HSTO := Lib.hid (fun v => stored3 (n := n) (j := 3) (v := v) K4 rg4 lg4 (by omega) hgb); have HF24 := Lib.hid f24; clear ho4 f4 hn4 f24
                    refine hK.out _ _ ?_ (fun hHeld => ?_)
                    · (try dsimp only)
                      (first | assumption | exact HSTEP.out w2 _ ⟨rb2, d0, d1, Fr.refl _ _⟩ ((Fr.refl _ w2).drew) | exact HSTO.out _ | exact HSTEP.out _ _ (by assumption) ((Fr.refl _ _).drew) | exact HSTEP.out _ _ (by assumption) ((Fr.refl _ _).alloc _))
                    clear hK K
                    refine wpAnyH_take (i := 22) (oi := _) (v := ?_) rfl (by kernel_rfl) (by kernel_rfl) (by kernel_rfl) (fun _ _ _ h => h) (Or.inl ⟨by rfl, ?_⟩) (by assumption) ?_
                    rotate_left
                    · intro W hSw
                      (try dsimp only at hSw)
                      go_simp
                      try with_reducible rfl
                    try simp only [Act.put, List.setIfInBounds_toArray, List.set_cons_zero, List.set_cons_succ]
                    refine wpAnyH_take (i := 23) (oi := _) (v := ?_) rfl (by kernel_rfl) (by kernel_rfl) (by kernel_rfl) (fun _ _ _ h => h) (Or.inl ⟨by rfl, ?_⟩) (by assumption) ?_
                    rotate_left
                    · intro W hSw
                      (try dsimp only at hSw)
                      go_simp
                      try with_reducible rfl
                    try simp only [Act.put]
                    refine wpAnyH_ready (rs := [24]) (by kernel_rfl) (by simp) ?_
                    refine AllReadyH.cons rfl (fun K hK => ?_) ?_
                    · skip
                      go_simp
                      refine hK.out _ _ ?_ (fun hHeld => ?_)
                      · (try dsimp only)
                        (first | assumption | exact HSTEP.out w2 _ ⟨rb2, d0, d1, Fr.refl _ _⟩ ((Fr.refl _ w2).drew) | exact HSTO.out _ | exact HSTEP.out _ _ (by assumption) ((Fr.refl _ _).drew) | exact HSTEP.out _ _ (by assumption) ((Fr.refl _ _).alloc _))
                      clear hK K
                      refine wpAnyH_done (by kernel_rfl) ?_ _
                      refine NoPanic.normal ?_
                      rw [← rg4]
                      have n4 : p.vr.ownBlock = some g' ∨ w2.heap.size ≤ g' := N4.out.elim (fun e => .inl (by rw [HVR.out]; exact e)) (fun e => .inr (by have := HF3.out.size; simp at e this; omega))
                      have h4 := H3.out.grow_rd hp hvl (x, seenL S.vs x p.snap) HO4.out HF24.out n4
                      have f4 : Fr (fun i => p.vr.ownBlock = some i ∨ i = g2) w2 (w4.setRow g2 ((rowOf w4 g2).setIfInBounds (n * 6 + 3) (.slice (some ⟨g', 0, none⟩) (p.rd.length + 1) cap'))) := (HF24.out.mono (fun _ _ e => .inl e)).setRow _ _ (fun _ => .inr rfl)
                      have hl4 : live (w4.setRow g2 ((rowOf w4 g2).setIfInBounds (n * 6 + 3) (.slice (some ⟨g', 0, none⟩) (p.rd.length + 1) cap'))) g2 = true := by rw [live_setRow]; exact lg4
                      have ha4 : ∀ k, k < w2.heap.size → clsG cls1 g' (12 + 3 * n) k = cls1 k := fun k hk => clsG_old (H3.out.hr n p hp).2 n4 hk
                      have hm4 : Mgr (w4.setRow g2 ((rowOf w4 g2).setIfInBounds (n * 6 + 3) (.slice (some ⟨g', 0, none⟩) (p.rd.length + 1) cap'))) (clsG cls1 g' (12 + 3 * n)) { P with bn := bn1 } (q + 1) M1 := hm3.out.aside f4 (fun k _ e => by
                        rcases e with e | e
                        · have := (H3.out.hr n p hp).2 k e; omega
                        · rw [e, hcl8]; omega) (fun k e => .inl (e.elim (fun e => (H3.out.hr n p hp).1.liv e) (fun e => e ▸ lg3))) ha4
                      generalize w4.setRow g2 ((rowOf w4 g2).setIfInBounds (n * 6 + 3) (.slice (some ⟨g', 0, none⟩) (p.rd.length + 1) cap')) = w5 at h4 f4 hl4 hm4 ⊢
                      have H4 := Lib.hid h4
                      have HM4 := Lib.hid hm4
                      obtain ⟨hn', -⟩ := List.getElem?_eq_some_iff.1 hp
                      obtain ⟨g4, c4', hvl4, hlg4, hg48, hn4, hsz4, -, -, e2, -, -, -⟩ := h4.cells (n := n) (List.getElem?_set_self hn')
                      have hvl4' : S.vl = .slice (some ⟨g4, 0, none⟩) (S.l.set n { p with rd := p.rd ++ [(x, seenL S.vs x p.snap)], vr := .slice (some ⟨g', 0, none⟩) (p.rd.length + 1) cap' }).length c4' := hvl4
                      obtain ⟨e1, -, -⟩ := slice_inj (hvl4'.symm.trans hvl)
                      subst e1
                      replace e2 : (rowOf w5 g4)[n * 6 + 2]? = some (.bool p.over) := e2
                      rw [hov] at e2
                      have hag : ∀ k, k < w.heap.size → clsG cls1 g' (12 + 3 * n) k = cls k := fun k hk => (ha4 k (Nat.lt_of_lt_of_le hk HFW.out.size)).trans (HAG.out k hk)
                      have fin : Fr (Ours cls P) w w5 := HFW.out.trans f4 (fun k hk e => by
                        rcases e with e | e
                        · have := (H3.out.hr n p hp).2 k e; rw [HAG.out k hk] at this; exact .inl (by omega)
                        · exact .inl (by rw [e, hg8]; omega))
                      have HFIN := Lib.hid fin
                      have HAGG := Lib.hid hag
                      clear h4 f4 ha4 hm4 hag fin d0 d1 d2 d3 d5 rg4
                      by_cases hcc : cc = 0
                      · subst hcc
                        go_wp2
                        go_ret
                        refine ⟨rfl, _, bn1, M1, _, HAGG.out, hbn, HFIN.out, HM4.out, H4.out, 0, HS.out, .inr ⟨hxw, .slice (some ⟨g', 0, none⟩) (p.rd.length + 1) cap', ?_⟩⟩
                        rw [hov]; rfl
                      · have hb1 : (cc != 0) = true := by simp [hcc]
                        have hb2 : decide (cc ≠ 0) = true := by simp [hcc]
                        go_wp2
                        go_ret
                        have h5 := H4.out.overed (List.getElem?_set_self hn') hvl4'
                        refine ⟨rfl, _, bn1, M1, _, HAGG.out, hbn, HFIN.out.setRow _ _ (fun _ => .inl (by rw [hg8]; omega)), HM4.out.aside ((Fr.refl (fun k => k = g4) w5).setRow _ _ (fun _ => rfl)) (fun k _ e => by rw [e, hg48]; omega) (fun k e => .inl (e ▸ hlg4)) (fun _ _ => rfl), h5, cc, HS.out, .inr ⟨hxw, .slice (some ⟨g', 0, none⟩) (p.rd.length + 1) cap', ?_⟩⟩
                        rw [hb2, List.set_set]
                    exact AllReadyH.nil
                  exact AllReadyH.nil
                exact AllReadyH.nil
              refine AllReadyH.cons rfl (fun K hK => ?_) ?_
              · skip
                go_simp
                refine hK.out _ _ ?_ (fun hHeld => ?_)
                · (try dsimp only)
                  (first | assumption | exact HSTEP.out w2 _ ⟨rb2, d0, d1, Fr.refl _ _⟩ ((Fr.refl _ w2).drew) | exact HSTO.out _ | exact HSTEP.out _ _ (by assumption) ((Fr.refl _ _).drew) | exact HSTEP.out _ _ (by assumption) ((Fr.refl _ _).alloc _))
                clear hK K
                refine wpAnyH_ready (rs := [4]) (by kernel_rfl) (by simp) ?_
                refine AllReadyH.cons rfl (fun K hK => ?_) ?_
                · skip
                  go_simp
                  refine hK.out _ _ ?_ (fun hHeld => ?_)
                  · (try dsimp only)
                    (first | assumption | exact HSTEP.out w2 _ ⟨rb2, d0, d1, Fr.refl _ _⟩ ((Fr.refl _ w2).drew) | exact HSTO.out _ | exact HSTEP.out _ _ (by assumption) ((Fr.refl _ _).drew) | exact HSTEP.out _ _ (by assumption) ((Fr.refl _ _).alloc _))
                  clear hK K
                  refine wpAnyH_ready (rs := [21]) (by kernel_rfl) (by simp) ?_
                  refine AllReadyH.cons rfl (fun K hK => ?_) ?_
                  · skip
                    refine step_append_one (o := ⟨some 119, _, _, _, _, _⟩) rfl (.tmp 102) (.tmp 118) 40 rfl 69 _ 4 40 Tryz.underlying40 ti69 (.slice a3 p.rd.length c3) (p.rd.map (rdA p.tx)) 0 rfl ((HVR.out ▸ (H3.out.hr n p hp).1).keep ((((Fr.refl (fun _ => False) w2).drew).trans HF3.out (fun _ _ h => h)).alloc _) (fun _ _ h => h)) (Nat.zero_le _) w3.heap.size 1 rfl (rdA p.tx (x, seenL S.vs x p.snap)) (by simp [go_sem]) (by simp [go_sem, rdA]; rfl) (by intro z hz; simp [rdA] at hz; rcases hz with rfl | rfl | rfl | rfl <;> rfl) (rdRow_size p.tx _) (by rw [List.length_map]; simp only [maxLen]; omega) (fitsN (by rw [List.length_map]; omega) (by omega)) ?_; intro g' cap' w4 ho4 f4 hn4; rw [List.length_map] at ho4; have HO4 := Lib.hid ho4; have N4 := Lib.hid hn4; have f24 : Fr (fun i => p.vr.ownBlock = some i) w2 w4 := (((((Fr.refl (fun _ => False) w2).drew).trans HF3.out (fun _ _ h => h)).alloc _).mono (fun _ _ e => e.elim)).trans f4 (fun _ _ e => by rw [HVR.out]; exact e); have ng4 : ¬ p.vr.ownBlock = some g2 := (fun e => by have := (H3.out.hr n p hp).2 _ e; omega); have nb4 : ¬ p.vr.ownBlock = some w.heap.size := (fun e => by have := (H3.out.hr n p hp).2 _ e; omega); have lg4 := (f24.liv ltg3 ng4).trans lg3; have rg4 := f24.row ltg3 ng4; have K4 := And.intro ((f24.row ltb3 nb4).trans rb2) (And.intro ((congrArg (fun r : Array Value => r[n * 6]?) rg4).trans d0) (And.intro ((congrArg (fun r : Array Value => r[n * 6 + 1]?) rg4).trans d1) (f24.mono (G := fun i => p.vr.ownBlock = some i ∨ i = g2) (fun _ _ e => .inl e)))); have HSTO := Lib.hid (fun v => stored3 (n := n) (j := 3) (v := v) K4 rg4 lg4 (by omega) hgb); have HF24 := Lib.hid f24; clear ho4 f4 hn4 f24
                    refine hK.out _ _ ?_ (fun hHeld => ?_)
                    · (try dsimp only)
                      (first | assumption | exact HSTEP.out w2 _ ⟨rb2, d0, d1, Fr.refl _ _⟩ ((Fr.refl _ w2).drew) | exact HSTO.out _ | exact HSTEP.out _ _ (by assumption) ((Fr.refl _ _).drew) | exact HSTEP.out _ _ (by assumption) ((Fr.refl _ _).alloc _))
                    clear hK K
                    refine wpAnyH_take (i := 22) (oi := _) (v := ?_) rfl (by kernel_rfl) (by kernel_rfl) (by kernel_rfl) (fun _ _ _ h => h) (Or.inl ⟨by rfl, ?_⟩) (by assumption) ?_
                    rotate_left
                    · intro W hSw
                      (try dsimp only at hSw)
                      go_simp
                      try with_reducible rfl
                    try simp only [Act.put, List.setIfInBounds_toArray, List.set_cons_zero, List.set_cons_succ]
                    refine wpAnyH_take (i := 23) (oi := _) (v := ?_) rfl (by kernel_rfl) (by kernel_rfl) (by kernel_rfl) (fun _ _ _ h => h) (Or.inl ⟨by rfl, ?_⟩) (by assumption) ?_
                    rotate_left
                    · intro W hSw
                      (try dsimp only at hSw)
                      go_simp
                      try with_reducible rfl
                    try simp only [Act.put]
                    refine wpAnyH_ready (rs := [24]) (by kernel_rfl) (by simp) ?_
                    refine AllReadyH.cons rfl (fun K hK => ?_) ?_
                    · skip
                      go_simp
                      refine hK.out _ _ ?_ (fun hHeld => ?_)
                      · (try dsimp only)
                        (first | assumption | exact HSTEP.out w2 _ ⟨rb2, d0, d1, Fr.refl _ _⟩ ((Fr.refl _ w2).drew) | exact HSTO.out _ | exact HSTEP.out _ _ (by assumption) ((Fr.refl _ _).drew) | exact HSTEP.out _ _ (by assumption) ((Fr.refl _ _).alloc _))
                      clear hK K
                      refine wpAnyH_done (by kernel_rfl) ?_ _
                      refine NoPanic.normal ?_
                      rw [← rg4]
                      have n4 : p.vr.ownBlock = some g' ∨ w2.heap.size ≤ g' := N4.out.elim (fun e => .inl (by rw [HVR.out]; exact e)) (fun e => .inr (by have := HF3.out.size; simp at e this; omega))
                      have h4 := H3.out.grow_rd hp hvl (x, seenL S.vs x p.snap) HO4.out HF24.out n4
                      have f4 : Fr (fun i => p.vr.ownBlock = some i ∨ i = g2) w2 (w4.setRow g2 ((rowOf w4 g2).setIfInBounds (n * 6 + 3) (.slice (some ⟨g', 0, none⟩) (p.rd.length + 1) cap'))) := (HF24.out.mono (fun _ _ e => .inl e)).setRow _ _ (fun _ => .inr rfl)
                      have hl4 : live (w4.setRow g2 ((rowOf w4 g2).setIfInBounds (n * 6 + 3) (.slice (some ⟨g', 0, none⟩) (p.rd.length + 1) cap'))) g2 = true := by rw [live_setRow]; exact lg4
                      have ha4 : ∀ k, k < w2.heap.size → clsG cls1 g' (12 + 3 * n) k = cls1 k := fun k hk => clsG_old (H3.out.hr n p hp).2 n4 hk
                      have hm4 : Mgr (w4.setRow g2 ((rowOf w4 g2).setIfInBounds (n * 6 + 3) (.slice (some ⟨g', 0, none⟩) (p.rd.length + 1) cap'))) (clsG cls1 g' (12 + 3 * n)) { P with bn := bn1 } (q + 1) M1 := hm3.out.aside f4 (fun k _ e => by
                        rcases e with e | e
                        · have := (H3.out.hr n p hp).2 k e; omega
                        · rw [e, hcl8]; omega) (fun k e => .inl (e.elim (fun e => (H3.out.hr n p hp).1.liv e) (fun e => e ▸ lg3))) ha4
                      generalize w4.setRow g2 ((rowOf w4 g2).setIfInBounds (n * 6 + 3) (.slice (some ⟨g', 0, none⟩) (p.rd.length + 1) cap')) = w5 at h4 f4 hl4 hm4 ⊢
                      have H4 := Lib.hid h4
                      have HM4 := Lib.hid hm4
                      obtain ⟨hn', -⟩ := List.getElem?_eq_some_iff.1 hp
                      obtain ⟨g4, c4', hvl4, hlg4, hg48, hn4, hsz4, -, -, e2, -, -, -⟩ := h4.cells (n := n) (List.getElem?_set_self hn')
                      have hvl4' : S.vl = .slice (some ⟨g4, 0, none⟩) (S.l.set n { p with rd := p.rd ++ [(x, seenL S.vs x p.snap)], vr := .slice (some ⟨g', 0, none⟩) (p.rd.length + 1) cap' }).length c4' := hvl4
                      obtain ⟨e1, -, -⟩ := slice_inj (hvl4'.symm.trans hvl)
                      subst e1
                      replace e2 : (rowOf w5 g4)[n * 6 + 2]? = some (.bool p.over) := e2
                      rw [hov] at e2
                      have hag : ∀ k, k < w.heap.size → clsG cls1 g' (12 + 3 * n) k = cls k := fun k hk => (ha4 k (Nat.lt_of_lt_of_le hk HFW.out.size)).trans (HAG.out k hk)
                      have fin : Fr (Ours cls P) w w5 := HFW.out.trans f4 (fun k hk e => by
                        rcases e with e | e
                        · have := (H3.out.hr n p hp).2 k e; rw [HAG.out k hk] at this; exact .inl (by omega)
                        · exact .inl (by rw [e, hg8]; omega))
                      have HFIN := Lib.hid fin
                      have HAGG := Lib.hid hag
                      clear h4 f4 ha4 hm4 hag fin d0 d1 d2 d3 d5 rg4
                      by_cases hcc : cc = 0
                      · subst hcc
                        go_wp2
                        go_ret
                        refine ⟨rfl, _, bn1, M1, _, HAGG.out, hbn, HFIN.out, HM4.out, H4.out, 0, HS.out, .inr ⟨hxw, .slice (some ⟨g', 0, none⟩) (p.rd.length + 1) cap', ?_⟩⟩
                        rw [hov]; rfl
                      · have hb1 : (cc != 0) = true := by simp [hcc]
                        have hb2 : decide (cc ≠ 0) = true := by simp [hcc]
                        go_wp2
                        go_ret
                        have h5 := H4.out.overed (List.getElem?_set_self hn') hvl4'
                        refine ⟨rfl, _, bn1, M1, _, HAGG.out, hbn, HFIN.out.setRow _ _ (fun _ => .inl (by rw [hg8]; omega)), HM4.out.aside ((Fr.refl (fun k => k = g4) w5).setRow _ _ (fun _ => rfl)) (fun k _ e => by rw [e, hg48]; omega) (fun k e => .inl (e ▸ hlg4)) (fun _ _ => rfl), h5, cc, HS.out, .inr ⟨hxw, .slice (some ⟨g', 0, none⟩) (p.rd.length + 1) cap', ?_⟩⟩
                        rw [hb2, List.set_set]
                    exact AllReadyH.nil
                  exact AllReadyH.nil
                exact AllReadyH.nil
              exact AllReadyH.nil
            exact AllReadyH.nil
end
end Go.Proofs.YteldfmgjbgedaaaGreat
