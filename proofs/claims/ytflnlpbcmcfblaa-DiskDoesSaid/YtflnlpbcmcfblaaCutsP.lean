/-
  DiskCuts in plain: a disk under a plan beside one that has power.
-/
import Derived.Test.YtflnlpbcmcfblaaTwo
namespace Go.Proofs.Ytflnlpbcmcfblaa
open Go.RowKit

/-- The disk D, planned n, beside R: behind k operations. -/
structure CutR (n : Int) (k : Nat) (D R : DS) : Prop where
  data : D.data = R.data
  torn : D.torn = R.torn
  pend : D.pend = R.pend
  wr : D.wr = R.wr
  sy : D.sy = R.sy
  off : R.off = false
  pl : R.pl = false
  w0 : 0 ≤ R.wr
  s0 : 0 ≤ R.sy
  kk : R.wr + R.sy ≤ k
  nn : R.wr + R.sy ≤ n
  on : D.off = false → D.pl = true ∧ D.left = n - (R.wr + R.sy)
  pk : R.pend.length ≤ k

def CutStep (n : Int) (k : Nat) (D R : DS) (x y : Int × DS) : Prop :=
  (D.off = true → x.1 = 22 ∧ CutR n (k + 1) x.2 R) ∧
  (D.off = false → (x.1 = 22 ∧ R.wr + R.sy = n ∧ x.2.off = true ∧ CutR n (k + 1) x.2 R) ∨ (x.1 ≠ 22 ∧ y.1 = x.1 ∧ y.2.wr + y.2.sy ≤ n ∧ CutR n (k + 1) x.2 y.2))

theorem CutR.next {n : Int} {k : Nat} {D R : DS} (h : CutR n k D R) : CutR n (k + 1) D R :=
  ⟨h.data, h.torn, h.pend, h.wr, h.sy, h.off, h.pl, h.w0, h.s0, by have := h.kk; omega, h.nn, h.on, by have := h.pk; omega⟩

theorem CutR.goes {n : Int} {k : Nat} {D R : DS} (h : CutR n k D R) (hd : D.left = 0) (hp : D.pl = true) : CutR n (k + 1) D.goes R := by
  refine ⟨h.data, h.torn, h.pend, h.wr, h.sy, h.off, h.pl, h.w0, h.s0, by have := h.kk; omega, h.nn, ?_, by have := h.pk; omega⟩
  intro e
  simp [DS.goes, goesOff, hp, hd] at e

theorem goes_still {R : DS} (h1 : R.off = false) (h2 : R.pl = false) : R.goes = R := by
  cases R; simp_all [DS.goes, goesOff, goesPl, goesLeft]

theorem wrap_succ {x : Int} (h0 : 0 ≤ x) (h1 : x ≤ 4611686018427387904) : wrap64 (x + 1) = x + 1 := by
  unfold wrap64; omega

theorem cut_write {n : Int} {k : Nat} {D R : DS} (h : CutR n k D R) (hk : k ≤ 2199023255552) (m : Int) (b : List UInt8) : CutStep n k D R (D.write m b) (R.write m b) := by
  constructor
  · intro ho
    have e : D.ready m = 22 := by simp [DS.ready, readyI, ho]
    have e1 : D.write m b = (22, D) := by unfold DS.write; rw [if_pos (by rw [e]; omega), e]
    rw [e1]
    exact ⟨rfl, h.next⟩
  · intro ho
    obtain ⟨hp, hl⟩ := h.on ho
    have er : D.ready m = R.ready m := by simp [DS.ready, ho, h.off, h.data]
    have gR : R.goesB = true := by simp [DS.goesB, goesB, h.pl]
    have eR : R.goes = R := goes_still h.off h.pl
    by_cases h1 : D.ready m ≠ 0
    · have e1 : D.write m b = (D.ready m, D) := by unfold DS.write; rw [if_pos h1]
      have e2 : R.write m b = (D.ready m, R) := by unfold DS.write; rw [if_pos (by rw [← er]; exact h1), er]
      have e22 : D.ready m ≠ 22 := by unfold DS.ready readyI; rw [ho]; simp; split <;> omega
      rw [e1, e2]
      exact .inr ⟨e22, rfl, h.nn, h.next⟩
    · have h1R : ¬ R.ready m ≠ 0 := by rw [← er]; exact h1
      by_cases h2 : b.length ≠ 64
      · have e1 : D.write m b = (21, D) := by unfold DS.write; rw [if_neg h1, if_pos h2]
        have e2 : R.write m b = (21, R) := by unfold DS.write; rw [if_neg h1R, if_pos h2]
        rw [e1, e2]
        exact .inr ⟨by simp, rfl, h.nn, h.next⟩
      · by_cases h3 : D.left = 0
        · have g : D.goesB = false := by simp [DS.goesB, goesB, hp, h3]
          have e1 : D.write m b = (22, D.goes) := by unfold DS.write; rw [if_neg h1, if_neg h2, if_pos g]
          rw [e1]
          exact .inl ⟨rfl, by omega, by simp [DS.goes, goesOff, hp, h3], h.goes h3 hp⟩
        · have g : D.goesB = true := by simp [DS.goesB, goesB, hp, h3]
          have e1 : D.write m b = (0, { D.goes with pend := D.pend ++ [(m.toNat, b)], wr := wrap64 (D.wr + 1) }) := by unfold DS.write; rw [if_neg h1, if_neg h2, if_neg (by rw [g]; simp)]
          have e2 : R.write m b = (0, { R with pend := R.pend ++ [(m.toNat, b)], wr := wrap64 (R.wr + 1) }) := by unfold DS.write; rw [if_neg h1R, if_neg h2, if_neg (by rw [gR]; simp), eR]
          have ew : wrap64 (R.wr + 1) = R.wr + 1 := wrap_succ h.w0 (by have := h.kk; have := h.s0; omega)
          have k0 := h.kk
          have n0 := h.nn
          rw [e1, e2]
          refine .inr ⟨by simp, rfl, ?_, ⟨h.data, h.torn, by simp [h.pend], by simp [h.wr], h.sy, h.off, h.pl, ?_, h.s0, ?_, ?_, ?_, ?_⟩⟩
          · show wrap64 (R.wr + 1) + R.sy ≤ n; rw [ew]; have := h.w0; have := h.s0
            have hl0 : 0 ≤ n - (R.wr + R.sy) := by omega
            omega
          · show 0 ≤ wrap64 (R.wr + 1); rw [ew]; have := h.w0; omega
          · show wrap64 (R.wr + 1) + R.sy ≤ ((k + 1 : Nat) : Int); rw [ew]; omega
          · show wrap64 (R.wr + 1) + R.sy ≤ n; rw [ew]; omega
          · intro _
            show D.goes.pl = true ∧ D.goes.left = n - (wrap64 (R.wr + 1) + R.sy)
            rw [ew]
            simp [DS.goes, goesPl, goesLeft, hp, h3]
            omega
          · have := h.pk; simp; omega

theorem layAll_eq (l : List (Nat × List UInt8)) : ∀ A B : DS, A.data = B.data → A.torn = B.torn → (A.layAll l).data = (B.layAll l).data ∧ (A.layAll l).torn = (B.layAll l).torn ∧ (A.layAll l).off = A.off ∧ (A.layAll l).pl = A.pl ∧ (A.layAll l).left = A.left ∧ (A.layAll l).wr = A.wr := by
  induction l with
  | nil => intro A B h1 h2; exact ⟨h1, h2, rfl, rfl, rfl, rfl⟩
  | cons x l ih =>
    intro A B h1 h2
    have := ih (A.lay x) (B.lay x) (by simp [DS.lay, h1]) (by simp [DS.lay, h2])
    simpa [DS.layAll, DS.lay] using this

theorem cut_sync {n : Int} {k : Nat} {D R : DS} (h : CutR n k D R) (hok : D.Ok) (hk : k ≤ 2199023255552) : CutStep n k D R D.sync R.sync := by
  constructor
  · intro ho
    have e : D.ready 0 = 22 := by simp [DS.ready, readyI, ho]
    have e1 : D.sync = (22, D) := by unfold DS.sync; rw [if_pos (by rw [e]; omega), e]
    rw [e1]
    exact ⟨rfl, h.next⟩
  · intro ho
    obtain ⟨hp, hl⟩ := h.on ho
    have r0 : ¬ D.ready 0 ≠ 0 := by simpa using ready0 hok ho
    have er : D.ready 0 = R.ready 0 := by simp [DS.ready, ho, h.off, h.data]
    have h1R : ¬ R.ready 0 ≠ 0 := by rw [← er]; exact r0
    have gR : R.goesB = true := by simp [DS.goesB, goesB, h.pl]
    have eR : R.goes = R := goes_still h.off h.pl
    by_cases h3 : D.left = 0
    · have g : D.goesB = false := by simp [DS.goesB, goesB, hp, h3]
      have e1 : D.sync = (22, D.goes) := by unfold DS.sync; rw [if_neg r0, if_pos g]
      rw [e1]
      exact .inl ⟨rfl, by omega, by simp [DS.goes, goesOff, hp, h3], h.goes h3 hp⟩
    · have g : D.goesB = true := by simp [DS.goesB, goesB, hp, h3]
      have e1 : D.sync = (0, { D.goes.layAll D.pend with pend := [], sy := wrap64 (D.sy + 1) }) := by unfold DS.sync; rw [if_neg r0, if_neg (by rw [g]; simp)]
      have e2 : R.sync = (0, { R.layAll R.pend with pend := [], sy := wrap64 (R.sy + 1) }) := by unfold DS.sync; rw [if_neg h1R, if_neg (by rw [gR]; simp), eR]
      have ew : wrap64 (R.sy + 1) = R.sy + 1 := wrap_succ h.s0 (by have := h.kk; have := h.w0; omega)
      obtain ⟨l1, l2, l3, l4, l5, l6⟩ := layAll_eq D.pend D.goes R h.data h.torn
      obtain ⟨_, _, q3, q4, q5, q6⟩ := layAll_eq R.pend R R rfl rfl
      have k0 := h.kk
      have n0 := h.nn
      rw [e1, e2]
      rw [h.pend] at l1 l2 l3 l4 l5 l6 ⊢
      refine .inr ⟨by simp, rfl, ?_, ⟨l1, l2, rfl, ?_, by simp [h.sy], by rw [← h.off]; exact q3, by rw [← h.pl]; exact q4, ?_, ?_, ?_, ?_, ?_, by simp⟩⟩
      · show (R.layAll R.pend).wr + wrap64 (R.sy + 1) ≤ n; rw [ew, q6]; omega
      · show (D.goes.layAll R.pend).wr = (R.layAll R.pend).wr; rw [l6, q6]; exact h.wr
      · show 0 ≤ (R.layAll R.pend).wr; rw [q6]; exact h.w0
      · show 0 ≤ wrap64 (R.sy + 1); rw [ew]; have := h.s0; omega
      · show (R.layAll R.pend).wr + wrap64 (R.sy + 1) ≤ ((k + 1 : Nat) : Int); rw [ew, q6]; omega
      · show (R.layAll R.pend).wr + wrap64 (R.sy + 1) ≤ n; rw [ew, q6]; omega
      · intro _
        show (D.goes.layAll R.pend).pl = true ∧ (D.goes.layAll R.pend).left = n - ((R.layAll R.pend).wr + wrap64 (R.sy + 1))
        rw [ew, l4, l5, q6]
        simp [DS.goes, goesPl, goesLeft, hp, h3]
        omega

theorem cut_end {n : Int} {k : Nat} {D R : DS} (h : CutR n k D R) : (D.crash []).1 = 0 ∧ (R.crash []).1 = 0 ∧ (D.crash []).2 = (R.crash []).2 := by
  rw [crash_len0, crash_len0]
  refine ⟨rfl, rfl, ?_⟩
  simp [h.data, h.torn, h.wr, h.sy]

theorem cut_begin {b : Nat} {n : Int} (hn : 0 ≤ n) : ((DS.new b).plan n).1 = 0 ∧ CutR n 0 ((DS.new b).plan n).2 (DS.new b) := by
  have e : (DS.new b).plan n = (0, { DS.new b with pl := decide (0 ≤ n), left := if 0 ≤ n then n else 0 }) := by simp [DS.plan, DS.new]
  rw [e]
  refine ⟨rfl, ⟨rfl, rfl, rfl, rfl, rfl, rfl, rfl, by simp [DS.new], by simp [DS.new], by simp [DS.new], by simpa [DS.new] using hn, fun _ => ⟨by simpa using hn, by simp [hn, DS.new]⟩, by simp [DS.new]⟩⟩

end Go.Proofs.Ytflnlpbcmcfblaa
