/-
  Package ssi: New.
-/
import Derived.Test.YteldfmgjbgedaaaGreatMp
import Derived.Test.YteldfmgjbgedaaaGreatSx
namespace Go.Proofs.YteldfmgjbgedaaaGreat
open Go.RowKit Go.Maps

/-- The caps that New refuses. -/
def CapsBad (ca ck cr cl : Int) : Prop := ca < 1 ∨ 64 < ca ∨ ck < 0 ∨ 1024 < ck ∨ cr < 1 ∨ 65536 < cr ∨ cl < 1 ∨ 4096 < cl

/-- Nothing. -/
def MS.zero : MS := ⟨0, 0, 0, fun _ => none, fun _ => [], fun _ => none, fun _ => none⟩

set_option maxRecDepth 20000 in
set_option maxHeartbeats 2000000 in
theorem new4_bad (w : World) {ca ck cr cl : Int} (h : CapsBad ca ck cr cl) :
    Calls Tryz.prog 4 #[.agg #[.int .i64 ca, .int .i64 ck, .int .i64 cr, .int .i64 cl], .int .i64 0] w fun e w' => e = .returned (.tuple #[.pointer none, .int .i64 1]) ∧ Fr (fun _ => False) w w' := by
  by_cases h0 : ca < 1 ∨ 64 < ca ∨ ck < 0 ∨ 1024 < ck
  · go_enter Tryz.func4, Tryz.ntmps4
    go_wp2_with fail
    all_goals first
      | (go_ret2; exact ⟨rfl, (Fr.refl _ w).alloc _⟩)
      | (exfalso; omega)
  · have h1 : ¬ ca < 1 := by omega
    have h2 : ¬ 64 < ca := by omega
    have h3 : ¬ ck < 0 := by omega
    have h4 : ¬ 1024 < ck := by omega
    by_cases hl : cl < 1 ∨ 4096 < cl
    · go_enter Tryz.func4, Tryz.ntmps4
      go_wp2_with (go_at_call 10; refine (new10_bad _ cl hl).mono ?_; rintro e w' ⟨rfl, rfl⟩)
      go_ret2
      exact ⟨rfl, (Fr.refl _ w).alloc _⟩
    · have hr : cr < 1 ∨ 65536 < cr := by unfold CapsBad at h; omega
      go_enter Tryz.func4, Tryz.ntmps4
      go_wp2_with (first
        | (go_at_call 10; refine (new10_ok _ cl (by omega) (by omega)).mono ?_; rintro e w1 ⟨rfl, k1, k2, k3, hf⟩; have hb1 := (hf.row (g := w.heap.size) (by simp) (fun e => e)).trans (rowOf_alloc_at _ _ _ _ _ rfl))
        | (go_at_call 11; refine (new11_bad _ cr hr).mono ?_; rintro e w2 ⟨rfl, rfl⟩))
      go_ret2
      exact ⟨rfl, ((Fr.refl _ w).alloc _).trans hf (fun _ _ h => h)⟩

/-- Who is who at first. -/
def clsN (m bl br : Nat) : Nat → Nat := fun k => if k = m then 1 else if k = bl then 2 else if k = br then 3 else 0

theorem Mgr.made {W : World} {m bm bl br bk bn B : Nat} {ca ck cr cl ml mr : Int} (h1 : rowOf W m = mgRow ca ck cr cl 0 0 0 bm bl br) (h2 : live W m = true) (h3 : rowOf W bl = lkRow ml bk) (h4 : live W bl = true)
    (h5 : rowOf W br = rdRow mr bn 0) (h6 : live W br = true) (d1 : bl ≠ m) (d2 : br ≠ m) (d3 : br ≠ bl) (k1 : W.heap[bm]? = some (.map #[] 0)) (k2 : W.heap[bk]? = some (.map #[] 0)) (k3 : W.heap[bn]? = some (.map #[] 0))
    (d4 : bm ≠ bk ∧ bm ≠ bn ∧ bk ≠ bn) (hmr : mr ≤ 65536) : Mgr W (clsN m bl br) ⟨m, bm, bl, br, bk, bn, B, ca, ck, cr, cl, ml, mr⟩ 0 MS.zero where
  row := h1
  lm := h2
  rowl := h3
  ll := h4
  rowr := by rw [h5]; show _ = rdRow mr bn ((sumN (fun _ => none) B : Nat) : Int); rw [sumN_none (fun _ => rfl)]; rfl
  lr := h6
  cm := if_pos rfl
  cl_ := by show clsN m bl br bl = 2; unfold clsN; rw [if_neg d1, if_pos rfl]
  cr_ := by show clsN m bl br br = 3; unfold clsN; rw [if_neg d2, if_neg d3, if_pos rfl]
  tx := ⟨0, _, Nat.le_refl _, ⟨MapF.made W 2 bm k1, fun i p hp => (nomatch hp), fun v x hv => (nomatch hv), fun i j p q hp => (nomatch hp)⟩⟩
  ct := fun i p hp => (nomatch hp)
  wr := fun i p hp => (nomatch hp)
  lk := ⟨0, _, Nat.le_refl _, ⟨MapF.made W 66 bk k2, fun i p hp => (nomatch hp), fun v x hv => (nomatch hv)⟩⟩
  nt := ⟨0, _, Nat.le_refl _, ⟨MapF.made W 138 bn k3, fun i p hp => (nomatch hp), fun v x hv => (nomatch hv)⟩⟩
  nb := d4
  mb := ⟨by show sumN (fun _ => none) B ≤ 65536; rw [sumN_none (fun _ => rfl)]; omega, hmr⟩
  qb := by omega
  nok := fun t L h => by cases h

set_option maxRecDepth 20000 in
set_option maxHeartbeats 2000000 in
theorem new4_ok (w : World) {ca ck cr cl : Int} (h : ¬ CapsBad ca ck cr cl) {B : Nat} :
    Calls Tryz.prog 4 #[.agg #[.int .i64 ca, .int .i64 ck, .int .i64 cr, .int .i64 cl], .int .i64 0] w fun e w' => ∃ P cls, e = .returned (.tuple #[.pointer (some ⟨P.m, 0, none⟩), .int .i64 0]) ∧
      Mgr w' cls P 0 MS.zero ∧ P.ca = ca ∧ P.ck = ck ∧ P.cr = cr ∧ P.B = B ∧ P.cl = cl ∧ (∀ k, Mine cls P k → w.heap.size ≤ k) ∧ (∀ k, cls k ≤ 3) ∧ Fr (fun _ => False) w w' := by
  unfold CapsBad at h
  have h1 : ¬ ca < 1 := by omega
  have h2 : ¬ 64 < ca := by omega
  have h3 : ¬ ck < 0 := by omega
  have h4 : ¬ 1024 < ck := by omega
  have hmm := @run_makeMap Tryz.prog
  go_enter Tryz.func4, Tryz.ntmps4
  go_wp2_with (first
    | (go_at_call 10; refine (new10_ok _ cl (by omega) (by omega)).mono ?_; rintro e w1 ⟨rfl, k1, k2, k3, hf⟩; have hb1 := (hf.row (g := w.heap.size) (by simp) (fun e => e)).trans (rowOf_alloc_at _ _ _ _ _ rfl))
    | (go_at_call 11; refine (new11_ok _ cr (by omega) (by omega)).mono ?_; rintro e w2 ⟨rfl, l1, l2, l3, hg⟩; have hb2 := (hg.row (g := w.heap.size) (by have := hf.size; simp at this; omega) (fun e => e)).trans hb1))
  go_ret2
  have s1 := hf.size
  have s2 := hg.size
  simp at s1
  have ea : (w.alloc (.cells #[.int .i64 ca, .int .i64 ck, .int .i64 cr, .int .i64 cl] 23)).heap.size = w.heap.size + 1 := by simp
  rw [ea] at k1 k2 k3
  have t1 := live_lt k2
  have t2 := live_lt l2
  have fz : Fr (fun _ => False) w2 ((w2.alloc (.map #[] 0)).alloc (.cells #[.int .i64 ca, .int .i64 ck, .int .i64 cr, .int .i64 cl, .int .i64 0, .int .i64 0, .int .i64 0, .map (some w2.heap.size), .pointer (some ⟨w.heap.size + 1 + 1, 0, none⟩), .pointer (some ⟨w1.heap.size + 1, 0, none⟩)] 57)) := ((Fr.refl _ w2).alloc _).alloc _
  have fy := hg.trans fz (fun _ _ h => h)
  have no : ∀ k : Nat, ¬ (fun _ : Nat => False) k := fun _ h => h
  have M := Mgr.made (B := B) (W := (w2.alloc (.map #[] 0)).alloc (.cells #[.int .i64 ca, .int .i64 ck, .int .i64 cr, .int .i64 cl, .int .i64 0, .int .i64 0, .int .i64 0, .map (some w2.heap.size), .pointer (some ⟨w.heap.size + 1 + 1, 0, none⟩), .pointer (some ⟨w1.heap.size + 1, 0, none⟩)] 57))
    (m := w2.heap.size + 1) (bm := w2.heap.size) (bl := w.heap.size + 1 + 1) (br := w1.heap.size + 1) (bk := w.heap.size + 1) (bn := w1.heap.size) (ca := ca) (ck := ck) (cr := cr) (cl := cl) (ml := cl) (mr := cr)
    (rowOf_alloc_at _ _ _ _ _ (by simp)) (live_alloc_at _ _ _ _ (by simp)) ((fy.row (by omega) (fun e => e)).trans k1) ((fy.liv (by omega) (fun e => e)).trans k2) ((fz.row (live_lt l2) (fun e => e)).trans l1) ((fz.liv (live_lt l2) (fun e => e)).trans l2) (by omega) (by omega) (by omega)
    (by
      show ((w2.alloc (.map #[] 0)).heap.push _)[w2.heap.size]? = _
      rw [Array.getElem?_push, if_neg (by simp)]
      exact (MapKept.heap_alloc w2 _).1)
    ((fy.block _ (by omega) (fun e => e)).trans k3) ((fz.block _ (by omega) (fun e => e)).trans l3) (by omega) (by omega)
  refine ⟨_, _, rfl, M, rfl, rfl, rfl, rfl, rfl, ?_, fun k => by unfold clsN; split <;> (try split) <;> (try split) <;> omega, ((Fr.refl _ w).alloc _).trans (hf.trans fy (fun _ _ h => h)) (fun _ _ h => h)⟩
  intro k hk
  unfold Mine clsN at hk
  simp only at hk
  rcases hk with ⟨h0, -⟩ | h0
  · by_cases e1 : k = w2.heap.size + 1
    · omega
    · rw [if_neg e1] at h0
      by_cases e2 : k = w.heap.size + 1 + 1
      · omega
      · rw [if_neg e2] at h0
        by_cases e3 : k = w1.heap.size + 1
        · omega
        · rw [if_neg e3] at h0; omega
  · omega
end Go.Proofs.YteldfmgjbgedaaaGreat
