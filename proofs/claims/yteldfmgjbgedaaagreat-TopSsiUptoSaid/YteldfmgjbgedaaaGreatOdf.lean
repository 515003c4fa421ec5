/-
  Package keystonetop: a play is turned; does, a beginning.
  Package keystonetop: does, a beginning.
  Package keystonetop: does, an abort.
-/
import Derived.Test.YteldfmgjbgedaaaGreatOac
import Derived.Test.YteldfmgjbgedaaaGreatNd
import Derived.Test.YteldfmgjbgedaaaGreatNbc
namespace Go.Proofs.YteldfmgjbgedaaaGreat
open Go.RowKit Go.Maps

section
variable {w : World} {cls : Nat → Nat} {pp m : Nat} {S : PS}

/-- The play's own slices were turned. -/
theorem Play.setP {w' : World} {cls' : Nat → Nat} {S' : PS} (h : Play w cls pp m S) {F : Nat → Prop} (hf : Fr F w w') (hF : ∀ k, live w k = true → F k → cls k < 12) (hc : ∀ k, k < w.heap.size → cls' k = cls k)
    (hrow : rowOf w' pp = #[.pointer (some ⟨m, 0, none⟩), S'.vl, S'.vv, S'.vo, S'.vk]) (hlp : live w' pp = true)
    (hl : OwnRows w' S'.vl 6 (S'.l.map PT.row) 0) (cl : ∀ k, S'.vl.ownBlock = some k → cls' k = 8) (hv : OwnRows w' S'.vv 3 (S'.vs.map verA) 0) (cv : ∀ k, S'.vv.ownBlock = some k → cls' k = 9)
    (ho : OwnRows w' S'.vo 1 (natRows S'.ord) 0) (co : ∀ k, S'.vo.ownBlock = some k → cls' k = 10) (hk : OwnRows w' S'.vk 1 (strRows S'.keys) 0) (ck : ∀ k, S'.vk.ownBlock = some k → cls' k = 11)
    (hT : ∀ (i : Nat) (p : PT), S'.l[i]? = some p → S.l[i]? = some p ∨ (p.vr = .slice none 0 0 ∧ p.rd = [] ∧ p.vg = .slice none 0 0 ∧ p.rg = [] ∧ p.vw = .slice none 0 0 ∧ p.wr = [])) : Play w' cls' pp m S' := by
  have key : ∀ {v : Value} {size : Nat} {xs : List (Array Value)} {c : Nat}, OwnRows w v size xs 0 → (∀ k, v.ownBlock = some k → cls k = c) → 12 ≤ c → OwnRows w' v size xs 0 ∧ ∀ k, v.ownBlock = some k → cls' k = c :=
    fun a b hc7 => ⟨a.keep hf (fun k hk e => by have := hF k (a.liv hk) e; rw [b k hk] at this; omega), fun k hk => (hc k (a.lt hk).2).trans (b k hk)⟩
  have nil : ∀ {size c : Nat}, OwnRows w' (.slice none 0 0) size [] 0 ∧ ∀ k, (Value.slice none 0 0).ownBlock = some k → cls' k = c := ⟨OwnRows.nil _ _ _, fun k hk => by cases hk⟩
  exact {
    row := hrow
    lp := hlp
    cp := (hc _ (live_lt h.lp)).trans h.cp
    hl := hl
    cl := cl
    hv := hv
    cv := cv
    ho := ho
    co := co
    hk := hk
    ck := ck
    hr := fun i p hp => by
      rcases hT i p hp with e | ⟨e1, e2, -⟩
      · exact key (h.hr i p e).1 (h.hr i p e).2 (by omega)
      · rw [e1, e2]; exact nil
    hg := fun i p hp => by
      rcases hT i p hp with e | ⟨-, -, e1, e2, -⟩
      · exact key (h.hg i p e).1 (h.hg i p e).2 (by omega)
      · rw [e1, e2]; exact nil
    hw := fun i p hp => by
      rcases hT i p hp with e | ⟨-, -, -, -, e1, e2⟩
      · exact key (h.hw i p e).1 (h.hw i p e).2 (by omega)
      · rw [e1, e2]; exact nil }

/-- One transaction was turned. -/
theorem Play.setT {w' : World} {cls' : Nat → Nat} (h : Play w cls pp m S) {n : Nat} {p p' : PT} (hp : S.l[n]? = some p) {g c : Nat} (hv : S.vl = .slice (some ⟨g, 0, none⟩) S.l.length c) {F : Nat → Prop} (hf : Fr F w w')
    (hF : ∀ k, live w k = true → F k → k = g ∨ (12 + 3 * n ≤ cls k ∧ cls k ≤ 14 + 3 * n)) (hc : ∀ k, k < w.heap.size → cls' k = cls k) (hlg : live w' g = true) (hsz : (rowOf w' g).size = (rowOf w g).size)
    (hin : ∀ j, j < 6 → (rowOf w' g)[n * 6 + j]? = p'.row[j]?) (hout : ∀ i, i < n * 6 ∨ n * 6 + 6 ≤ i → (rowOf w' g)[i]? = (rowOf w g)[i]?)
    (hr : OwnRows w' p'.vr 4 (p'.rd.map (rdA p'.tx)) 0 ∧ ∀ k, p'.vr.ownBlock = some k → cls' k = 12 + 3 * n) (hg : OwnRows w' p'.vg 4 (p'.rg.map (rgA n)) 0 ∧ ∀ k, p'.vg.ownBlock = some k → cls' k = 13 + 3 * n)
    (hw : OwnRows w' p'.vw 1 (strRows p'.wr) 0 ∧ ∀ k, p'.vw.ownBlock = some k → cls' k = 14 + 3 * n) : Play w' cls' pp m { S with l := S.l.set n p' } := by
  have hg8 : cls g = 8 := h.cl g (by rw [hv]; rfl)
  have key : ∀ {v : Value} {size : Nat} {xs : List (Array Value)} {c : Nat}, OwnRows w v size xs 0 → (∀ k, v.ownBlock = some k → cls k = c) → c ≠ 8 → (c < 12 + 3 * n ∨ 14 + 3 * n < c) → OwnRows w' v size xs 0 ∧ ∀ k, v.ownBlock = some k → cls' k = c :=
    fun a b h8 hn => ⟨a.keep hf (fun k hk e => by
      have h1 := b k hk
      rcases hF k (a.liv hk) e with e | e
      · rw [e, hg8] at h1; omega
      · omega), fun k hk => (hc k (a.lt hk).2).trans (b k hk)⟩
  have np : ¬ F pp := fun e => by
    have h1 := h.cp
    rcases hF pp h.lp e with e | e
    · rw [e, hg8] at h1; omega
    · omega
  obtain ⟨hn, -⟩ := List.getElem?_eq_some_iff.1 hp
  have hne : ∀ {i : Nat} {q : PT}, (S.l.set n p')[i]? = some q → (i = n ∧ q = p') ∨ (i ≠ n ∧ S.l[i]? = some q) := fun {i q} hq => by
    by_cases e : i = n
    · subst e
      rw [List.getElem?_set_self hn] at hq; cases hq
      exact .inl ⟨rfl, rfl⟩
    · rw [List.getElem?_set_ne (fun h => e h.symm)] at hq
      exact .inr ⟨e, hq⟩
  exact {
    row := by rw [hf.row (live_lt h.lp) np]; exact h.row
    lp := by rw [hf.liv (live_lt h.lp) np]; exact h.lp
    cp := (hc _ (live_lt h.lp)).trans h.cp
    hl := by
      have ho := h.hl
      show OwnRows w' S.vl 6 ((S.l.set n p').map PT.row) 0
      rw [hv] at ho ⊢
      rcases ho with ⟨e, _⟩ | ⟨g', c', e, h0, h1, ⟨h2, h2'⟩, h3, h4, h5⟩
      · cases e
      · injection e with e1 e2 e3
        injection e1 with e1
        injection e1 with e1 _ _
        subst e1 e3
        refine .inr ⟨g, c, by simp, h0, hlg, ⟨by simpa using h2, by simpa using h2'⟩, h3, by rw [hsz]; exact h4, fun i hi => ?_⟩
        simp only [List.length_map, List.length_set] at hi
        have hi6 : i * 6 + 6 ≤ (rowOf w g).size := by
          rw [h4]
          have h2l : S.l.length ≤ c := by simpa using h2
          have := Nat.mul_le_mul_right 6 (Nat.le_trans hi h2l)
          rw [Nat.succ_mul] at this; exact this
        simp only [List.getElem_map]
        by_cases ei : i = n
        · subst ei
          rw [List.getElem_set_self]
          exact cut_ext rfl (by rw [hsz]; exact hi6) (fun j hj => hin j hj)
        · rw [List.getElem_set_ne (fun h => ei h.symm)]
          have h6 := h5 i (by simpa using hi)
          simp only [List.getElem_map] at h6
          rw [← h6]
          refine cut_ext (cut_size hi6) (by rw [hsz]; exact hi6) (fun j hj => ?_)
          rw [cut_get hi6 j hj]
          exact hout _ (by omega)
    cl := fun k hk => (hc k (h.hl.lt hk).2).trans (h.cl k hk)
    hv := (key h.hv h.cv (by omega) (by omega)).1
    cv := (key h.hv h.cv (by omega) (by omega)).2
    ho := (key h.ho h.co (by omega) (by omega)).1
    co := (key h.ho h.co (by omega) (by omega)).2
    hk := (key h.hk h.ck (by omega) (by omega)).1
    ck := (key h.hk h.ck (by omega) (by omega)).2
    hr := fun i q hq => by
      rcases hne hq with ⟨rfl, rfl⟩ | ⟨e, hq⟩
      · exact hr
      · exact key (h.hr i q hq).1 (h.hr i q hq).2 (by omega) (by omega)
    hg := fun i q hq => by
      rcases hne hq with ⟨rfl, rfl⟩ | ⟨e, hq⟩
      · exact hg
      · exact key (h.hg i q hq).1 (h.hg i q hq).2 (by omega) (by omega)
    hw := fun i q hq => by
      rcases hne hq with ⟨rfl, rfl⟩ | ⟨e, hq⟩
      · exact hw
      · exact key (h.hw i q hq).1 (h.hw i q hq).2 (by omega) (by omega) }
end
end Go.Proofs.YteldfmgjbgedaaaGreat

namespace Go.Proofs.YteldfmgjbgedaaaGreat
open Go.RowKit Go.Maps

/-- The blocks of the manager and of the play. -/
def Ours (cls : Nat → Nat) (P : MP) (k : Nat) : Prop := 1 ≤ cls k ∨ k = P.bm ∨ k = P.bk ∨ k = P.bn
theorem Mine.ours {cls : Nat → Nat} {P : MP} {k : Nat} (h : Mine cls P k) : Ours cls P k := h.elim (fun h => .inl h.1) .inr

theorem ptRow_size (l : List PT) : ∀ y ∈ l.map PT.row, y.size = 6 := by
  intro y hy
  obtain ⟨p, -, rfl⟩ := List.mem_map.1 hy
  rfl

/-- A play's block (or a new one) was turned: the manager stands. -/
theorem Mgr.aside {w w' : World} {cls cls' : Nat → Nat} {P : MP} {q : Nat} {M : MS} (h : Mgr w cls P q M) {F : Nat → Prop} (hf : Fr F w w') (hF : ∀ k, live w k = true → F k → 6 < cls k) (hF2 : ∀ k, F k → live w k = true ∨ w.heap.size ≤ k) (hc : ∀ k, k < w.heap.size → cls' k = cls k) : Mgr w' cls' P q M := by
  obtain ⟨m1, m2, m3, m4, m5, m6⟩ := h.lts
  have no : ∀ b, b < w.heap.size → (∀ k, live w k = true → k ≠ b) → ¬ F b := fun b hb hn e => by
    rcases hF2 b e with h1 | h1
    · exact hn b h1 rfl
    · omega
  exact h.fr hf ⟨fun k hk e => .inr (hF k hk e), no _ m4 (fun k hk => (h.maps hk).1), no _ m5 (fun k hk => (h.maps hk).2.1), no _ m6 (fun k hk => (h.maps hk).2.2)⟩ hc

section
variable {w : World} {cls : Nat → Nat} {P : MP} {q : Nat} {M : MS} {pp : Nat} {S : PS}
set_option maxRecDepth 20000 in
set_option maxHeartbeats 2000000 in
theorem Play.does_begin (H53 : Sorts53) (hM : Mgr w cls P q M) (h : Play w cls pp P.m S) (hq : q + 1 < 2 ^ 40) (hnew : M.T (M.last + 1) = none) (hlast : M.last + 1 < 2 ^ 40) (hclock : M.clock + 1 < 2 ^ 41) (hlen : S.l.length < 2 ^ 32) (i : Int) (x y : Key) :
    Calls Tryz.prog 6 #[.pointer (some ⟨pp, 0, none⟩), actV 0 i x y] w fun e w' => e = .returned (.bool true) ∧ ∃ cls', (∀ k, k < w.heap.size → cls' k = cls k) ∧ Fr (Ours cls P) w w' ∧
      ((Mgr w' cls' P q M ∧ Play w' cls' pp P.m S) ∨ ∃ b vl', Mgr w' cls' P (q + 1) (M.begin b) ∧ Play w' cls' pp P.m { S with l := S.l ++ [⟨M.last + 1, M.now, false, [], [], [], .slice none 0 0, .slice none 0 0, .slice none 0 0⟩], vl := vl' }) := by
  have hrow := h.row
  have hlp := h.lp
  have hbox : rowOf (w.alloc (.cells (actC 0 i x y) 37)) w.heap.size = actC 0 i x y := rowOf_alloc_at _ _ _ _ _ rfl
  have FB : Fr (fun _ => False) w (w.alloc (.cells (actC 0 i x y) 37)) := (Fr.refl _ w).alloc _
  have hM1 := hM.fr0 FB
  have h1 := h.fr0 FB
  have HB := Lib.hid (hM1.begin13 H53 hq hnew hlast hclock)
  have H := Lib.hid h1
  have HM := Lib.hid hM1
  have HFB := Lib.hid FB
  have hpl := live_lt hlp
  unfold actC at hbox
  unfold actC at HB
  unfold actV
  have hl1 := h1.lp
  have hr1 := h1.row
  have np : ¬ Mine cls P pp := fun e => by
    obtain ⟨a, b, c⟩ := hM.maps hlp
    have := h.cp
    rcases e with ⟨-, e⟩ | e | e | e
    · omega
    · exact a e
    · exact b e
    · exact c e
  unfold actC at hl1 hr1
  clear hM1 h1 FB hM
  go_enter Tryz.func6, Tryz.ntmps6
  obtain ⟨a, c, hvl⟩ := H.out.hl.len
  rw [List.length_map] at hvl
  have HVL := Lib.hid hvl
  rw [hvl] at hr1
  clear hvl
  go_wp2_with (first
    | (go_at_call 13; refine HB.out.mono ?_; rintro e w1 (⟨rfl, hf⟩ | ⟨rfl, cls1, b, hM1, hb, hc1, hf⟩); all_goals first | (have HM1 := Lib.hid hM1; have H2 := Lib.hid (H.out.mine HM.out hf hc1); have HF := Lib.hid hf; have HC1 := Lib.hid hc1; have r2 := H2.out.row; have l2 := H2.out.lp; have l2' := live_lt l2; have HOL := Lib.hid H2.out.hl; rw [HVL.out] at r2; clear hM1 hf hc1) | (have HF := Lib.hid hf; clear hf))
    | (at_builtin; refine wpList_append_one rfl (.tmp 29) (.tmp 33) 30 rfl 62 _ 6 96 Tryz.underlying30 ti62 (.slice a S.l.length c) (S.l.map PT.row) 0 rfl ((HVL.out ▸ HOL.out).keep ((Fr.refl (fun _ => False) w1).alloc _) (fun _ _ h => h)) (Nat.zero_le _) w1.heap.size 1 rfl #[.int .i64 ((M.last + 1 : Nat) : Int), .int .i64 (M.now : Nat), .bool false, .slice none 0 0, .slice none 0 0, .slice none 0 0] (by simp [go_sem]) (by simp [go_sem]; rfl) (by intro y hy; simp at hy; rcases hy with rfl | rfl | rfl | rfl <;> rfl) (ptRow_size _) (by rw [List.length_map]; simp only [maxLen]; omega) (fitsN (by rw [List.length_map]; omega) (by omega)) ?_; intro g' cap' w3 ho3 f3 hn3; have HO3 := Lib.hid ho3; have F3 := Lib.hid f3; have N3 := Lib.hid hn3; have r3 := (f3.row (g := pp) (by simp; omega) (fun e => by have := H2.out.cl _ (HVL.out ▸ e); rw [H2.out.cp] at this; omega)).trans ((rowOf_alloc_lt w1 _ _ l2').trans r2); have l3 := (f3.liv (g := pp) (by simp; omega) (fun e => by have := H2.out.cl _ (HVL.out ▸ e); rw [H2.out.cp] at this; omega)).trans ((live_alloc_lt w1 _ _ l2').trans l2); clear ho3 f3 hn3))
  · go_ret
    exact ⟨rfl, cls, fun _ _ => rfl, (HFB.out.trans HF.out (fun _ _ h => h)).mono (fun _ _ h => h.elim), .inl ⟨HM.out.fr0 HF.out, H.out.fr0 HF.out⟩⟩
  · go_ret
    obtain ⟨R, hR⟩ : ∃ R : Array Value, R = #[.pointer (some ⟨P.m, 0, none⟩), .slice (some ⟨g', 0, none⟩) (S.l.length + 1) cap', S.vv, S.vo, S.vk] := ⟨_, rfl⟩
    rw [← hR]
    have f4 : Fr (fun k => k = pp ∨ S.vl.ownBlock = some k) w1 (w3.setRow pp R) := (((Fr.refl _ w1).alloc _).trans F3.out (fun _ _ e => .inr (HVL.out ▸ e))).setRow pp _ (fun _ => .inl rfl)
    have hpp := H2.out.cp
    have hc' : ∀ k, k < w1.heap.size → (fun k => if k = g' then 8 else cls1 k) k = cls1 k := fun k hk => by
      by_cases e : k = g'
      · rcases N3.out with e2 | e2
        · show (if k = g' then 8 else cls1 k) = _
          rw [if_pos e, e]; exact (H2.out.cl _ (HVL.out ▸ e2)).symm
        · simp at e2; omega
      · exact if_neg e
    have hF : ∀ k, live w1 k = true → (k = pp ∨ S.vl.ownBlock = some k) → cls1 k < 12 := fun k _ e => by
      rcases e with e | e
      · rw [e, hpp]; omega
      · rw [H2.out.cl _ e]; omega
    have oth : ∀ {v : Value} {size : Nat} {xs : List (Array Value)} {c : Nat}, OwnRows w1 v size xs 0 → (∀ k, v.ownBlock = some k → cls1 k = c) → 8 < c → OwnRows (w3.setRow pp R) v size xs 0 ∧ ∀ k, v.ownBlock = some k → (fun k => if k = g' then 8 else cls1 k) k = c :=
      fun a b h8 => ⟨a.keep f4 (fun k hk e => by
        have h1 := b k hk
        rcases e with e | e
        · rw [e, hpp] at h1; omega
        · rw [H2.out.cl _ e] at h1; omega), fun k hk => (hc' k (a.lt hk).2).trans (b k hk)⟩
    have hgp : g' ≠ pp := fun e => by
      rcases N3.out with e2 | e2
      · have := H2.out.cl _ (HVL.out ▸ e2); rw [e, hpp] at this; omega
      · simp at e2; omega
    refine ⟨rfl, fun k => if k = g' then 8 else cls1 k, fun k hk => ?_, ?_, .inr ⟨b, .slice (some ⟨g', 0, none⟩) (S.l.length + 1) cap', HM1.out.aside f4 ?_ ?_ hc', H2.out.setP f4 hF hc' ?_ ?_ ?_ ?_ (oth H2.out.hv H2.out.cv (by omega)).1 (oth H2.out.hv H2.out.cv (by omega)).2 (oth H2.out.ho H2.out.co (by omega)).1 (oth H2.out.ho H2.out.co (by omega)).2 (oth H2.out.hk H2.out.ck (by omega)).1 (oth H2.out.hk H2.out.ck (by omega)).2 ?_⟩⟩
    · have h1 := HF.out.size
      simp at h1
      exact (hc' k (by omega)).trans (HC1.out k (by simp; omega))
    · refine ((HFB.out.mono (fun _ _ e => e.elim)).trans (HF.out.mono (fun _ _ e => e.ours)) (fun _ _ e => e)).trans f4 (fun k hk e => ?_)
      have e1 := HC1.out k (by simp; omega)
      rcases e with e | e
      · exact .inl (by rw [← e1, e, hpp]; omega)
      · exact .inl (by rw [← e1, H2.out.cl _ e]; omega)
    · intro k _ e
      rcases e with e | e
      · rw [e, hpp]; omega
      · rw [H2.out.cl _ e]; omega
    · intro k e
      rcases e with e | e
      · exact .inl (e ▸ l2)
      · exact .inl (H2.out.hl.liv e)
    · rw [rowOf_setRow_same _ _ _ l3, hR]
    · rw [live_setRow]; exact l3
    · show OwnRows _ _ 6 ((S.l ++ [_]).map PT.row) 0
      rw [List.map_append]
      have := HO3.out.keep ((Fr.refl (fun k => k = pp) w3).setRow pp R (fun _ => rfl)) (fun k hk e => by injection hk with hk; exact hgp (hk.trans e))
      rw [List.length_map] at this
      exact this
    · intro k hk
      injection hk with hk
      exact if_pos hk.symm
    · intro j p hj
      rcases Nat.lt_or_ge j S.l.length with hlt | hge
      · exact .inl (by rw [← hj]; exact (List.getElem?_append_left hlt).symm)
      · right
        have hj' : (S.l ++ [PT.mk (M.last + 1) M.now false [] [] [] (.slice none 0 0) (.slice none 0 0) (.slice none 0 0)])[j]? = some p := hj
        rw [List.getElem?_append_right hge] at hj'
        have : j - S.l.length = 0 := by
          have := (List.getElem?_eq_some_iff.1 hj').1
          simp at this; omega
        rw [this] at hj'
        cases hj'
        exact ⟨rfl, rfl, rfl, rfl, rfl, rfl⟩
end
end Go.Proofs.YteldfmgjbgedaaaGreat

namespace Go.Proofs.YteldfmgjbgedaaaGreat
open Go.RowKit Go.Maps

theorem slice_inj {g g' n n' c c' : Nat} (h : Value.slice (some ⟨g, 0, none⟩) n c = .slice (some ⟨g', 0, none⟩) n' c') : g = g' ∧ n = n' ∧ c = c' := by
  injection h with e1 e2 e3
  injection e1 with e1
  injection e1 with e1 _ _
  exact ⟨e1, e2, e3⟩

/-- A transaction's cell was set (behind an append to one of its slices, where there was one). -/
theorem Play.setT1 {w w3 : World} {cls cls' : Nat → Nat} {pp m : Nat} {S : PS} (h : Play w cls pp m S) {n : Nat} {p p' : PT} (hp : S.l[n]? = some p) {g c : Nat} (hv : S.vl = .slice (some ⟨g, 0, none⟩) S.l.length c) {F : Nat → Prop} (hf : Fr F w w3)
    (hF : ∀ k, live w k = true → F k → 12 + 3 * n ≤ cls k ∧ cls k ≤ 14 + 3 * n) (hc : ∀ k, k < w.heap.size → cls' k = cls k) {j0 : Nat} (hj0 : j0 < 6) (v : Value) (hrow' : ∀ j, j < 6 → p'.row[j]? = if j = j0 then some v else p.row[j]?)
    (hr : OwnRows w3 p'.vr 4 (p'.rd.map (rdA p'.tx)) 0 ∧ ∀ k, p'.vr.ownBlock = some k → cls' k = 12 + 3 * n) (hg : OwnRows w3 p'.vg 4 (p'.rg.map (rgA n)) 0 ∧ ∀ k, p'.vg.ownBlock = some k → cls' k = 13 + 3 * n)
    (hw : OwnRows w3 p'.vw 1 (strRows p'.wr) 0 ∧ ∀ k, p'.vw.ownBlock = some k → cls' k = 14 + 3 * n) : Play (w3.setRow g ((rowOf w3 g).setIfInBounds (n * 6 + j0) v)) cls' pp m { S with l := S.l.set n p' } := by
  obtain ⟨g', c', hvl, hlg, hg8, hn, hsz, c0, c1, c2, c3, c4, c5⟩ := h.cells hp
  rw [hv] at hvl
  injection hvl with e1 e2 e3
  injection e1 with e1
  injection e1 with e1 _ _
  subst e1
  have ng : ¬ F g := fun e => by have := hF g hlg e; omega
  have hg3 : rowOf w3 g = rowOf w g := hf.row (live_lt hlg) ng
  have hl3 : live w3 g = true := by rw [hf.liv (live_lt hlg) ng]; exact hlg
  have hcg : cls' g = 8 := (hc g (live_lt hlg)).trans hg8
  have keep : ∀ {v' : Value} {size : Nat} {xs : List (Array Value)} {c : Nat}, OwnRows w3 v' size xs 0 ∧ (∀ k, v'.ownBlock = some k → cls' k = c) → 12 ≤ c → OwnRows (w3.setRow g ((rowOf w3 g).setIfInBounds (n * 6 + j0) v)) v' size xs 0 ∧ (∀ k, v'.ownBlock = some k → cls' k = c) :=
    fun a h8 => ⟨a.1.keep ((Fr.refl (fun k => k = g) w3).setRow _ _ (fun _ => rfl)) (fun k hk e => by have := a.2 k hk; rw [e, hcg] at this; omega), a.2⟩
  refine h.setT hp hv (F := fun k => k = g ∨ F k) ((hf.mono (fun _ _ e => .inr e)).setRow _ _ (fun _ => .inl rfl)) (fun k hk e => e.elim .inl (fun e => .inr (hF k hk e))) hc (by rw [live_setRow]; exact hl3)
    (by rw [rowOf_setRow_same _ _ _ hl3, Array.size_setIfInBounds, hg3]) ?_ ?_ (keep hr (by omega)) (keep hg (by omega)) (keep hw (by omega))
  · intro j hj
    rw [rowOf_setRow_same _ _ _ hl3, hrow' j hj, Array.getElem?_setIfInBounds, hg3]
    by_cases e : j = j0
    · subst e
      rw [if_pos rfl, if_pos rfl, if_pos (by omega)]
    · rw [if_neg (by omega), if_neg e]
      match j, hj with
      | 0, _ => exact c0
      | 1, _ => exact c1
      | 2, _ => exact c2
      | 3, _ => exact c3
      | 4, _ => exact c4
      | 5, _ => exact c5
  · intro i hi
    rw [rowOf_setRow_same _ _ _ hl3, Array.getElem?_setIfInBounds, if_neg (by omega), hg3]

section
variable {w : World} {cls : Nat → Nat} {P : MP} {q : Nat} {M : MS} {pp : Nat} {S : PS}

set_option maxRecDepth 20000 in
set_option maxHeartbeats 2000000 in
theorem Play.does_abort (H53 : Sorts53) (H68 : Sorts68) (hM : Mgr w cls P q M) (h : Play w cls pp P.m S) {n : Nat} {p : PT} (hp : S.l[n]? = some p) (hov : p.over = false) {rt : Nat × TR} (hrt : M.T p.tx = some rt) (hact : rt.2.act = true) (x y : Key) :
    Calls Tryz.prog 6 #[.pointer (some ⟨pp, 0, none⟩), actV 5 (n : Nat) x y] w fun e w' => e = .returned (.bool true) ∧ Fr (Ours cls P) w w' ∧ Play w' cls pp P.m { S with l := S.l.set n { p with over := true } } ∧ ∃ F, Mgr w' cls P q ((M.drop p.tx).forget F) ∧ ∀ i, F i = true ↔ (M.drop p.tx).old i := by
  obtain ⟨g, c, hvl, hlg, hg8, hn, hsz, c0, c1, c2, c3, c4, c5⟩ := h.cells hp
  have hrow := h.row
  have hlp := h.lp
  rw [hvl] at hrow
  rw [hov] at c2
  have FB : Fr (fun _ => False) w (w.alloc (.cells (actC 5 (n : Nat) x y) 37)) := (Fr.refl _ w).alloc _
  have hbox : rowOf (w.alloc (.cells (actC 5 (n : Nat) x y) 37)) w.heap.size = actC 5 (n : Nat) x y := rowOf_alloc_at _ _ _ _ _ rfl
  have HA := Lib.hid ((hM.fr0 (FB.drew.drew.drew)).abort21 H53 H68 hrt hact)
  have H := Lib.hid h
  have HM := Lib.hid hM
  have HFB := Lib.hid FB
  have hd : decide ((n : Int) < 0) = false := decide_eq_false (by omega)
  have hd1 : decide ((S.l.length : Int) ≤ (n : Int)) = false := decide_eq_false (by omega)
  have hd2 : decide (S.l.length ≤ n) = false := decide_eq_false (by omega)
  have hni : (n : Int) < (S.l.length : Int) := by omega
  have hr1 := (FB.row (live_lt hlp) (fun e => e)).trans hrow
  have hg1 := FB.row (live_lt hlg) (fun e => e)
  rw [← hg1] at c0 c2
  unfold actC at hbox hr1 c0 c2
  unfold actV
  clear h hM FB hrow c1 c3 c4 c5 hg1
  go_enter Tryz.func6, Tryz.ntmps6
  go_wp2_with fail
  go_region
  all_goals
    go_wp2_with fail
    go_region
    all_goals
      go_wp2_with fail
      go_region_law (first | (go_simp; go_at_call 21; refine HA.out.mono ?_; rintro e w1 ⟨rfl, hgr⟩; have HGR := Lib.hid hgr; obtain ⟨F, k1, k2, k3⟩ := hgr.out; have h2 := (H.out.fr0 (HFB.out.drew.drew.drew)).mine (HM.out.fr0 (HFB.out.drew.drew.drew)) k3 (fun _ _ => rfl); have H2 := Lib.hid h2; obtain ⟨g2, c2', hvl2, hlg2, -, -, hsz2, -, -, d2, -, -, -⟩ := h2.cells hp; obtain ⟨e1, -, -⟩ := slice_inj (hvl2.symm.trans hvl); subst e1; have hr2 := h2.row; rw [hvl] at hr2; clear h2 k1 k2 k3 hgr hr1 c0 c2))
      all_goals
        go_wp2_with fail
        go_ret
        obtain ⟨F, k1, k2, k3⟩ := HGR.out.out
        refine ⟨rfl, ?_, H2.out.setT1 hp hvl (Fr.refl (fun _ => False) w1) (fun _ _ e => e.elim) (fun _ _ => rfl) (by omega) (.bool true) ?_ (H2.out.hr n p hp) (H2.out.hg n p hp) (H2.out.hw n p hp), F, k1.aside ((Fr.refl (fun k => k = g2) w1).setRow _ _ (fun _ => rfl)) (fun k _ e => by rw [e, hg8]; omega) (fun k e => .inl (e ▸ hlg2)) (fun _ _ => rfl), k2⟩
        · exact (((HFB.out.drew.drew.drew).mono (fun _ _ e => e.elim)).trans (k3.mono (fun _ _ e => e.ours)) (fun _ _ e => e)).setRow _ _ (fun _ => .inl (by rw [hg8]; omega))
        · intro j hj
          match j, hj with
          | 0, _ => rfl
          | 1, _ => rfl
          | 2, _ => rfl
          | 3, _ => rfl
          | 4, _ => rfl
          | 5, _ => rfl
end
end Go.Proofs.YteldfmgjbgedaaaGreat
