/-
  Package ssi: Begin.
-/
import Derived.Test.YteldfmgjbgedaaaGreatNbc
namespace Go.Proofs.YteldfmgjbgedaaaGreat
open Go.RowKit Go.Maps

/-- The manager's struct alone was turned. -/
theorem Mgr.struct {w w' : World} {cls : Nat → Nat} {P : MP} {q : Nat} {S : MS} (h : Mgr w cls P q S) {now last clock : Nat} (hr : rowOf w' P.m = mgRow P.ca P.ck P.cr P.cl now last clock P.bm P.bl P.br) (hl : live w' P.m = true) (hf : Fr (fun k => k = P.m) w w') : Mgr w' cls P q { S with now := now, last := last, clock := clock } := by
  obtain ⟨m1, m2, m3, m4, m5, m6⟩ := h.lts
  obtain ⟨d1, d2, d3⟩ := h.distinct
  obtain ⟨n1, g1, h1, htx⟩ := h.tx
  obtain ⟨n2, g2, h2, hlk⟩ := h.lk
  obtain ⟨n3, g3, h3, hnt⟩ := h.nt
  obtain ⟨k1, k2, k3⟩ := h.maps h.lm
  have ft : ∀ i p, S.T i = some p → ¬ p.1 = P.m := fun i p hp e => by have := (h.ct i p hp).1; rw [e, h.cm] at this; omega
  exact {
    row := hr
    lm := hl
    rowl := by rw [hf.row m2 d1.symm]; exact h.rowl
    ll := by rw [hf.liv m2 d1.symm]; exact h.ll
    rowr := by rw [hf.row m3 d2.symm]; exact h.rowr
    lr := by rw [hf.liv m3 d2.symm]; exact h.lr
    cm := h.cm
    cl_ := h.cl_
    cr_ := h.cr_
    tx := ⟨n1, g1, h1, htx.fr hf k1.symm ft⟩
    ct := h.ct
    wr := fun i p hp => by
      obtain ⟨a1, a2⟩ := h.wr i p hp
      exact ⟨a1.keep hf (fun k hk e => by have := a2 k hk; rw [e, h.cm] at this; omega), a2⟩
    lk := ⟨n2, g2, h2, hlk.fr hf k2.symm⟩
    nt := ⟨n3, g3, h3, hnt.fr hf k3.symm (fun k hk h5 => ⟨fun e => by rw [e, h.cm] at h5; omega, h5⟩)⟩
    nb := h.nb
    mb := h.mb
    qb := h.qb
    nok := h.nok }

/-- One more. -/
def MS.begin (S : MS) (b : Nat) : MS := { S with last := S.last + 1, clock := S.clock + 1, T := fun i => if i = S.last + 1 then some (b, ⟨S.last + 1, S.now, true, S.clock + 1, 0, false, false, .slice none 0 0⟩) else S.T i, W := fun i => if i = S.last + 1 then [] else S.W i }

/-- New blocks are transactions. -/
def cls4 (w : World) (cls : Nat → Nat) : Nat → Nat := fun k => if k < w.heap.size then cls k else 4
theorem cls4_lt {w : World} {cls : Nat → Nat} {k : Nat} (h : k < w.heap.size) : cls4 w cls k = cls k := if_pos h
theorem cls4_ge {w : World} {cls : Nat → Nat} {k : Nat} (h : w.heap.size ≤ k) : cls4 w cls k = 4 := if_neg (by omega)

/-- A transaction was laid into the map. -/
theorem Mgr.addT {w w' : World} {cls : Nat → Nat} {P : MP} {q : Nat} {S : MS} (h : Mgr w cls P q S) {t b : Nat} {r : TR} (ht : S.T t = none) (ht1 : 1 ≤ t) (ht40 : t < 2 ^ 40) (hb : rowOf w b = r.row) (hlb : live w b = true) (hcb : cls b = 4) (hbn : ∀ i p, S.T i = some p → p.1 ≠ b) (hn : r.n = t) (hw : r.wr = .slice none 0 0)
    {n : Nat} {f : Value → Option Value} (hnq : n ≤ q) (hq : q + 1 < 2 ^ 40) (htx : TxnsAt w P.bm n f S.T) (hm : MapF w' 2 P.bm (n + 1) (updF f (.int .i64 (t : Nat)) (some (.pointer (some ⟨b, 0, none⟩))))) (hf : Fr (fun k => k = P.bm) w w') :
    Mgr w' cls P (q + 1) { S with T := fun i => if i = t then some (b, r) else S.T i, W := fun i => if i = t then [] else S.W i } := by
  obtain ⟨m1, m2, m3, m4, m5, m6⟩ := h.lts
  obtain ⟨n2, g2, h2, hlk⟩ := h.lk
  obtain ⟨n3, g3, h3, hnt⟩ := h.nt
  have of1 : ∀ k, live w k = true → ¬ k = P.bm := fun k hk => (h.maps hk).1
  have hT : TxnsAt w' P.bm (n + 1) (updF f (.int .i64 (t : Nat)) (some (.pointer (some ⟨b, 0, none⟩)))) (fun i => if i = t then some (b, r) else S.T i) := by
    refine ⟨hm, fun i p hp => ?_, fun v x hv => ?_, fun i j p p' hp hp' e => ?_⟩
    · by_cases e : i = t
      · simp only [e, if_true] at hp; cases hp
        subst e
        exact ⟨updF_same _ _ _, by rw [hf.liv (live_lt hlb) (of1 _ hlb)]; exact hlb, by rw [hf.row (live_lt hlb) (of1 _ hlb)]; exact hb, ht40⟩
      · simp only [if_neg e] at hp
        obtain ⟨a1, a2, a3, a4⟩ := htx.at_ i p hp
        exact ⟨by rw [updF_ne f _ (fun e' => e (by injection e' with _ e'; omega))]; exact a1, by rw [hf.liv (live_lt a2) (of1 _ a2)]; exact a2, by rw [hf.row (live_lt a2) (of1 _ a2)]; exact a3, a4⟩
    · by_cases e : v = .int .i64 (t : Nat)
      · exact ⟨t, (b, r), e, by simp⟩
      · rw [updF_ne f _ e] at hv
        obtain ⟨i, p, h1, h2⟩ := htx.all v x hv
        exact ⟨i, p, h1, by show (if i = t then some (b, r) else S.T i) = some p; rw [if_neg (fun hh => e (by rw [h1, hh]))]; exact h2⟩
    · by_cases ei : i = t
      · by_cases ej : j = t
        · rw [ei, ej]
        · simp only [ei, if_true] at hp; cases hp
          simp only [if_neg ej] at hp'
          exact absurd e.symm (hbn j p' hp')
      · by_cases ej : j = t
        · simp only [ej, if_true] at hp'; cases hp'
          simp only [if_neg ei] at hp
          exact absurd e (hbn i p hp)
        · simp only [if_neg ei] at hp
          simp only [if_neg ej] at hp'
          exact htx.inj i j p p' hp hp' e
  exact {
    row := by rw [hf.row m1 (of1 _ h.lm)]; exact h.row
    lm := by rw [hf.liv m1 (of1 _ h.lm)]; exact h.lm
    rowl := by rw [hf.row m2 (of1 _ h.ll)]; exact h.rowl
    ll := by rw [hf.liv m2 (of1 _ h.ll)]; exact h.ll
    rowr := by rw [hf.row m3 (of1 _ h.lr)]; exact h.rowr
    lr := by rw [hf.liv m3 (of1 _ h.lr)]; exact h.lr
    cm := h.cm
    cl_ := h.cl_
    cr_ := h.cr_
    tx := ⟨n + 1, _, by omega, hT⟩
    ct := fun i p hp => by
      by_cases e : i = t
      · simp only [e, if_true] at hp; cases hp
        exact ⟨hcb, by rw [e]; exact hn, by omega⟩
      · simp only [if_neg e] at hp
        exact h.ct i p hp
    wr := fun i p hp => by
      by_cases e : i = t
      · simp only [e, if_true] at hp; cases hp
        simp only [e, if_true]
        rw [hw]
        exact ⟨OwnRows.nil _ _ _, fun k hk => by cases hk⟩
      · simp only [if_neg e] at hp ⊢
        obtain ⟨a1, a2⟩ := h.wr i p hp
        exact ⟨a1.keep hf (fun k hk e => a1.ne_map htx.map (by rw [hk, e])), a2⟩
    lk := ⟨n2, g2, by omega, hlk.fr hf h.nb.1.symm⟩
    nt := ⟨n3, g3, by omega, hnt.fr hf h.nb.2.1.symm (fun k hk h5 => ⟨of1 k hk, h5⟩)⟩
    nb := h.nb
    mb := h.mb
    qb := hq
    nok := h.nok }

section
variable {w : World} {cls : Nat → Nat} {P : MP} {q : Nat} {S : MS}
set_option maxRecDepth 20000 in
set_option maxHeartbeats 4000000 in
theorem Mgr.begin13 (H53 : Sorts53) (h : Mgr w cls P q S) (hq : q + 1 < 2 ^ 40) (hnew : S.T (S.last + 1) = none) (hlast : S.last + 1 < 2 ^ 40) (hclock : S.clock + 1 < 2 ^ 41) :
    Calls Tryz.prog 13 #[.pointer (some ⟨P.m, 0, none⟩)] w fun e w' => (e = .returned (.tuple #[.int .i64 0, .int .i64 0, .int .i64 4]) ∧ Fr (fun _ => False) w w') ∨
      (e = .returned (.tuple #[.int .i64 ((S.last + 1 : Nat) : Int), .int .i64 (S.now : Nat), .int .i64 0]) ∧ ∃ cls' b, Mgr w' cls' P (q + 1) (S.begin b) ∧ w.heap.size ≤ b ∧ (∀ k, k < w.heap.size → cls' k = cls k) ∧ Fr (Mine cls P) w w') := by
  have HN := Lib.hid (none25_any w P.m h.row)
  have hrow := h.row
  have hM := h.fr0 ((Fr.refl _ w).drew)
  have HA := Lib.hid (hM.active (HS := H53))
  have H := Lib.hid h
  have hlm := h.lm
  have hltm := live_lt hlm
  unfold mgRow at hrow
  clear hM h
  go_enter Tryz.func13, Tryz.ntmps13
  go_wp2_with fail
  refine HN.out.mono ?_
  rintro e w' ⟨rfl, rfl⟩
  go_wp2_with fail
  go_region_law (first | (go_simp; go_at_call 26; refine HA.out.mono ?_; rintro e w1 ⟨v, xs, rfl, ho, hxs, hxq, hf⟩; obtain ⟨a, c, rfl⟩ := ho.len; rw [natRows_length] at ho ⊢; have HF := Lib.hid hf; have hr1 := (hf.row hltm (fun e => e)).trans hrow; have hl1 := (hf.liv hltm (fun e => e)).trans hlm; clear ho hxs hf))
  all_goals
    clear hrow hlm
    by_cases hca : P.ca ≤ (xs.length : Int)
    · go_wp2
      go_ret3
      exact .inl ⟨rfl, (Fr.refl _ w).drew.trans HF.out (fun _ _ h => h)⟩
    · have hM1 := (H.out.fr0 ((Fr.refl _ w).drew)).fr0 HF.out
      have hwl : IntKind.i64.wrap ((S.last : Int) + 1) = (S.last : Int) + 1 := by rw [IntKind.wrap_i64]; omega
      have hwc : IntKind.i64.wrap ((S.clock : Int) + 1) = (S.clock : Int) + 1 := by rw [IntKind.wrap_i64]; omega
      have el : (((S.last + 1 : Nat)) : Int) = (S.last : Int) + 1 := by omega
      have ec : (((S.clock + 1 : Nat)) : Int) = (S.clock : Int) + 1 := by omega
      obtain ⟨wA, hwA⟩ : ∃ wA, wA = w1.setRow P.m #[.int .i64 P.ca, .int .i64 P.ck, .int .i64 P.cr, .int .i64 P.cl, .int .i64 (S.now : Nat), .int .i64 ((S.last : Int) + 1), .int .i64 ((S.clock : Int) + 1), .map (some P.bm), .pointer (some ⟨P.bl, 0, none⟩), .pointer (some ⟨P.br, 0, none⟩)] := ⟨_, rfl⟩
      have fA : Fr (fun k => k = P.m) w1 wA := by rw [hwA]; exact (Fr.refl _ w1).setRow _ _ (fun _ => rfl)
      have rA : rowOf wA P.m = #[.int .i64 P.ca, .int .i64 P.ck, .int .i64 P.cr, .int .i64 P.cl, .int .i64 (S.now : Nat), .int .i64 ((S.last : Int) + 1), .int .i64 ((S.clock : Int) + 1), .map (some P.bm), .pointer (some ⟨P.bl, 0, none⟩), .pointer (some ⟨P.br, 0, none⟩)] := by rw [hwA, rowOf_setRow_same _ _ _ hl1]
      have lA : live wA P.m = true := by rw [hwA, live_setRow]; exact hl1
      have hMA : Mgr wA cls P q { S with now := S.now, last := S.last + 1, clock := S.clock + 1 } := hM1.struct (by rw [rA]; unfold mgRow; rw [el, ec]) lA fA
      have hMB : Mgr (wA.alloc (.cells #[.int .i64 ((S.last : Int) + 1), .int .i64 (S.now : Nat), .bool true, .int .i64 ((S.clock : Int) + 1), .int .i64 0, .bool false, .bool false, .slice none 0 0] 97)).drew (cls4 w1 cls) P q { S with now := S.now, last := S.last + 1, clock := S.clock + 1 } :=
        (hMA.fr (((Fr.refl (fun _ => False) wA).alloc _).drew) (Off.none _ _ _) (fun k hk => cls4_lt (by rw [hwA, size_setRow'] at hk; exact hk)))
      obtain ⟨n1, g1, hn1, htx⟩ := hMB.tx
      have hk := key2 (n := (S.last : Int) + 1) (by rw [← el]; exact wf_nat hlast)
      obtain ⟨w3, hst, hm3, hf3⟩ := htx.map.store law2 Tryz.underlying55 (by simp only [maxLen]; omega) (.int .i64 ((S.last : Int) + 1)) (.pointer (some ⟨wA.heap.size, 0, none⟩)) hk
      have esz : wA.heap.size = w1.heap.size := by rw [hwA, size_setRow']
      have hM3 := hMB.addT (t := S.last + 1) (b := wA.heap.size) (r := ⟨S.last + 1, S.now, true, S.clock + 1, 0, false, false, .slice none 0 0⟩) hnew (by omega) hlast
        (by rw [rowOf_drew, rowOf_alloc_at _ _ _ _ _ rfl]; unfold TR.row txRow; rw [el, ec]; rfl) (by rw [live_drew]; exact live_alloc_at _ _ _ _ rfl) (by rw [esz]; exact cls4_ge (Nat.le_refl _)) (fun i p hp => by have := live_lt (hMA.tx.elim (fun n h => h.elim (fun f h => (h.2.at_ i p hp).2.1))); omega) rfl rfl hn1 hq htx (by rw [el]; exact hm3) hf3
      have HM3 := Lib.hid hM3
      have HFF := Lib.hid hf3
      have HFA := Lib.hid fA
      have r3 := (hf3.row (g := P.m) (by show P.m < (wA.alloc _).heap.size; have := live_lt lA; simp; omega) (hMB.maps hMB.lm).1).trans (((((Fr.refl (fun _ => False) wA).alloc (.cells #[.int .i64 ((S.last : Int) + 1), .int .i64 (S.now : Nat), .bool true, .int .i64 ((S.clock : Int) + 1), .int .i64 0, .bool false, .bool false, .slice none 0 0] 97)).drew).row (live_lt lA) (fun e => e)).trans rA)
      have HWA := Lib.hid hwA
      have ESZ := Lib.hid esz
      clear hM1 fA hMA hMB htx hm3 hf3 hk hM3 hwA el ec esz
      go_wp2_with fail
      rw [← HWA.out]
      clear hr1 hl1
      have hlmA := live_lt lA
      go_region
      all_goals
        go_wp2_with fail
        go_region
        all_goals
          go_wp2
          go_ret3
          have hsw : w.heap.size ≤ w1.heap.size := HF.out.size
          refine .inr ⟨by simp, cls4 w1 cls, wA.heap.size, ?_, by have := ESZ.out; omega, fun k hk => cls4_lt (by omega), ?_⟩
          · first
              | exact HM3.out
              | exact HM3.out.fr0 ((Fr.refl _ _).drew)
          · have f1 : Fr (Mine cls P) w wA := ((Fr.refl (Mine cls P) w).drew.trans HF.out (fun _ _ h => h.elim)).trans HFA.out (fun k _ e => .inl (by rw [e, H.out.cm]; omega))
            have f2 : Fr (Mine cls P) w w3 := ((f1.alloc _).drew).trans HFF.out (fun k _ e => .inr (.inl e))
            first
              | exact f2
              | exact f2.drew
end
end Go.Proofs.YteldfmgjbgedaaaGreat
