/-
  The reference of package disk: how it lies; its small calls.
-/
import Derived.Test.YtflnlpbcmcfblaaAlike
namespace Go.Proofs.Ytflnlpbcmcfblaa
open Go.RowKit

/-- 'Left' of the reference. -/
def refLeft (S : DS) : Int := if S.pl then S.left else -1

/-- A value whose own block is in f and is none of the three that are written. -/
def Apart (f : Nat → Prop) (r gd gt : Nat) (v : Value) : Prop := ∀ k, v.ownBlock = some k → f k ∧ k ≠ r ∧ k ≠ gd ∧ k ≠ gt

/-- The waiting writes. -/
def WaitRows (w : World) (f : Nat → Prop) (r gd gt : Nat) (v : Value) (l : List (Int × List UInt8)) : Prop :=
  ∃ xs, OwnRows w v 2 xs 0 ∧ Apart f r gd gt v ∧ xs.length = l.length ∧ ∀ i (_h1 : i < xs.length) (_h2 : i < l.length), ∃ vd, xs[i] = #[.int .i64 l[i].1, vd] ∧ OwnBytes w vd l[i].2 0 ∧ Apart f r gd gt vd

/-- The reference's disk lies in block r and holds S; all its blocks are in f. -/
structure RRep (w : World) (f : Nat → Prop) (r gd gt : Nat) (S : DS) : Prop where
  ok : S.Ok
  ex : ∃ cd ct wv, rowOf w r = #[.bool true, .bool S.off, .int .i64 (refLeft S), .slice (some ⟨gd, 0, none⟩) S.data.length cd, .slice (some ⟨gt, 0, none⟩) S.data.length ct, wv, .int .i64 S.wr, .int .i64 S.sy] ∧
    WaitRows w f r gd gt wv (pendI S.pend)
  lr : live w r = true
  ld : live w gd = true
  lt : live w gt = true
  data : ∀ i (h : i < S.chunks.length), ∃ u, (rowOf w gd)[i]? = some u ∧ OwnBytes w u S.chunks[i] 0 ∧ Apart f r gd gt u
  torn : ∀ i (h : i < S.torn.length), (rowOf w gt)[i]? = some (.bool S.torn[i])
  fr : f r
  fd : f gd
  ft : f gt
  n1 : r ≠ gd
  n2 : r ≠ gt
  n3 : gd ≠ gt
  lt' : ∀ k, f k → k < w.heap.size

theorem Apart.mono {f f' : Nat → Prop} {r gd gt : Nat} {v : Value} (h : Apart f r gd gt v) (hf : ∀ k, f k → f' k) : Apart f' r gd gt v := fun k hk => ⟨hf k (h k hk).1, (h k hk).2⟩

theorem WaitRows.keep {w w' : World} {f f' : Nat → Prop} {r gd gt : Nat} {v : Value} {l : List (Int × List UInt8)} (h : WaitRows w f r gd gt v l) {F : Nat → Prop} (hf : Fr F w w') (hF : ∀ k, f k → k ≠ r → k ≠ gd → k ≠ gt → ¬ F k) (hff : ∀ k, f k → f' k) :
    WaitRows w' f' r gd gt v l := by
  obtain ⟨xs, h1, h2, h3, h4⟩ := h
  refine ⟨xs, h1.keep hf (fun k hk => hF k (h2 k hk).1 (h2 k hk).2.1 (h2 k hk).2.2.1 (h2 k hk).2.2.2), h2.mono hff, h3, fun i a b => ?_⟩
  obtain ⟨vd, e1, e2, e3⟩ := h4 i a b
  exact ⟨vd, e1, e2.keep hf (fun k hk => hF k (e3 k hk).1 (e3 k hk).2.1 (e3 k hk).2.2.1 (e3 k hk).2.2.2), e3.mono hff⟩

/-- What does not touch its blocks keeps it. -/
theorem RRep.keep {w w' : World} {f : Nat → Prop} {r gd gt : Nat} {S : DS} (h : RRep w f r gd gt S) {F : Nat → Prop} (hf : Fr F w w') (hF : ∀ k, f k → ¬ F k) : RRep w' f r gd gt S := by
  obtain ⟨cd, ct, wv, e1, e2⟩ := h.ex
  have kr := hf.row (live_lt h.lr) (hF r h.fr)
  have kd := hf.row (live_lt h.ld) (hF gd h.fd)
  have kt := hf.row (live_lt h.lt) (hF gt h.ft)
  refine ⟨h.ok, ⟨cd, ct, wv, by rw [kr]; exact e1, e2.keep hf (fun k hk _ _ _ => hF k hk) (fun _ h => h)⟩, by rw [hf.liv (live_lt h.lr) (hF r h.fr)]; exact h.lr, by rw [hf.liv (live_lt h.ld) (hF gd h.fd)]; exact h.ld,
    by rw [hf.liv (live_lt h.lt) (hF gt h.ft)]; exact h.lt, fun i hi => ?_, fun i hi => by rw [kt]; exact h.torn i hi, h.fr, h.fd, h.ft, h.n1, h.n2, h.n3, fun k hk => Nat.lt_of_lt_of_le (h.lt' k hk) hf.size⟩
  obtain ⟨u, a1, a2, a3⟩ := h.data i hi
  exact ⟨u, by rw [kd]; exact a1, a2.keep hf (fun k hk => hF k (a3 k hk).1), a3⟩

/-- Only the struct has turned. -/
theorem RRep.upd {w w' : World} {f : Nat → Prop} {r gd gt : Nat} {S S' : DS} (h : RRep w f r gd gt S) {cd ct : Nat} {wv : Value}
    (hrow : rowOf w r = #[.bool true, .bool S.off, .int .i64 (refLeft S), .slice (some ⟨gd, 0, none⟩) S.data.length cd, .slice (some ⟨gt, 0, none⟩) S.data.length ct, wv, .int .i64 S.wr, .int .i64 S.sy])
    (hf : Fr (fun k => k = r) w w') (hd : S'.data = S.data) (ht : S'.torn = S.torn) (hok : S'.Ok)
    (hrow' : ∃ wv', rowOf w' r = #[.bool true, .bool S'.off, .int .i64 (refLeft S'), .slice (some ⟨gd, 0, none⟩) S.data.length cd, .slice (some ⟨gt, 0, none⟩) S.data.length ct, wv', .int .i64 S'.wr, .int .i64 S'.sy] ∧
      ((wv' = wv ∧ S'.pend = S.pend) ∨ (wv' = .slice none 0 0 ∧ S'.pend = []))) (hl : live w' r = true) : RRep w' f r gd gt S' := by
  obtain ⟨cd0, ct0, wv0, e1, e2⟩ := h.ex
  have e := e1.symm.trans hrow
  simp only [Array.mk.injEq, List.cons.injEq, Value.slice.injEq, true_and, and_true] at e
  obtain ⟨rfl, rfl, rfl⟩ := e
  have kd := hf.row (live_lt h.ld) (fun e => h.n1 e.symm)
  have kt := hf.row (live_lt h.lt) (fun e => h.n2 e.symm)
  have hch : S'.chunks = S.chunks := by unfold DS.chunks; rw [hd, ht]
  obtain ⟨wv', r1, r2⟩ := hrow'
  refine ⟨hok, ⟨cd0, ct0, wv', by rw [hd]; exact r1, ?_⟩, hl, by rw [hf.liv (live_lt h.ld) (fun e => h.n1 e.symm)]; exact h.ld, by rw [hf.liv (live_lt h.lt) (fun e => h.n2 e.symm)]; exact h.lt,
    fun i hi => ?_, fun i hi => ?_, h.fr, h.fd, h.ft, h.n1, h.n2, h.n3, fun k hk => Nat.lt_of_lt_of_le (h.lt' k hk) hf.size⟩
  · rcases r2 with ⟨rfl, r2⟩ | ⟨rfl, r2⟩
    · rw [r2]; exact e2.keep hf (fun k _ hk _ _ => hk) (fun _ h => h)
    · rw [r2]
      exact ⟨[], OwnRows.nil _ _ _, (fun k hk => by cases hk), rfl, (fun i hi => by simp at hi)⟩
  · simp only [hch] at hi ⊢
    obtain ⟨u, a1, a2, a3⟩ := h.data i hi
    exact ⟨u, by rw [kd]; exact a1, a2.keep hf (fun k hk => (a3 k hk).2.1), a3⟩
  · simp only [ht] at hi ⊢
    rw [kt]; exact h.torn i hi

/-- The struct written anew. -/
theorem RRep.set {w : World} {f : Nat → Prop} {r gd gt : Nat} {S S' : DS} (h : RRep w f r gd gt S) {cd ct : Nat} {wv wv' : Value} {off' : Bool} {left' wr' sy' : Int}
    (hrow : rowOf w r = #[.bool true, .bool S.off, .int .i64 (refLeft S), .slice (some ⟨gd, 0, none⟩) S.data.length cd, .slice (some ⟨gt, 0, none⟩) S.data.length ct, wv, .int .i64 S.wr, .int .i64 S.sy])
    (hd : S'.data = S.data) (ht : S'.torn = S.torn) (hok : S'.Ok) (ho : S'.off = off') (hl : refLeft S' = left') (hw : S'.wr = wr') (hs : S'.sy = sy') (hwv : (wv' = wv ∧ S'.pend = S.pend) ∨ (wv' = .slice none 0 0 ∧ S'.pend = [])) :
    RRep (w.setRow r #[.bool true, .bool off', .int .i64 left', .slice (some ⟨gd, 0, none⟩) S.data.length cd, .slice (some ⟨gt, 0, none⟩) S.data.length ct, wv', .int .i64 wr', .int .i64 sy']) f r gd gt S' := by
  subst ho hl hw hs
  exact h.upd hrow ((Fr.refl (fun k => k = r) w).setRow r _ (fun _ => rfl)) hd ht hok ⟨wv', rowOf_setRow_same _ _ _ h.lr, hwv⟩ (by rw [live_setRow]; exact h.lr)

theorem goes_ok {S : DS} (h : S.Ok) : S.goes.Ok := by
  refine ⟨h.n0, h.n1, h.tl, h.dl, h.pe, ?_, ?_⟩
  all_goals
    have h0 := h.l0
    have h1 := h.l1
    simp only [DS.goes, goesLeft]
    split
    · rename_i hh
      simp at hh
      omega
    · assumption

set_option maxRecDepth 20000 in
set_option maxHeartbeats 1000000 in
theorem power_any (w : World) (f : Nat → Prop) (r gd gt : Nat) (S : DS) (h : RRep w f r gd gt S) :
    Calls Try.prog 67 #[.pointer (some ⟨r, 0, none⟩)] w fun e w' => e = .returned (.bool S.goesB) ∧ RRep w' f r gd gt S.goes ∧ Fr (fun k => k = r) w w' := by
  have H := Lib.hid h
  obtain ⟨cd, ct, wv, hr, hw⟩ := h.ex
  have HR := Lib.hid hr
  have hl := h.lr
  have l0 := h.ok.l0
  have l1 := h.ok.l1
  have GO := Lib.hid (goes_ok h.ok)
  clear h hw
  cases hp : S.pl with
  | false =>
    have e1 : refLeft S = -1 := by simp [refLeft, hp]
    have e2 : S.goesB = true := by simp [DS.goesB, goesB, hp]
    have e3 : S.goes = S := by cases S; simp_all [DS.goes, goesOff, goesPl, goesLeft]
    rw [e1] at hr
    rw [e2, e3]
    clear hp e1 e2 e3 HR
    go_enter Try.func67, Try.ntmps67
    go_wp2
    go_ret
    exact ⟨rfl, H.out, Fr.refl _ _⟩
  | true =>
    have e1 : refLeft S = S.left := by simp [refLeft, hp]
    by_cases hz : S.left = 0
    · have e2 : S.goesB = false := by simp [DS.goesB, goesB, hp, hz]
      have E3 := Lib.hid (show S.goes.off = true ∧ S.goes.pl = false ∧ S.goes.data = S.data ∧ S.goes.torn = S.torn ∧ S.goes.pend = S.pend ∧ S.goes.wr = S.wr ∧ S.goes.sy = S.sy ∧ refLeft S.goes = -1 by simp [DS.goes, goesOff, goesPl, goesLeft, hp, hz, refLeft])
      rw [e1, hz] at hr
      rw [e2]
      clear hp e1 e2 hz
      go_enter Try.func67, Try.ntmps67
      go_wp2
      go_ret
      exact ⟨rfl, H.out.set HR.out E3.out.2.2.1 E3.out.2.2.2.1 GO.out E3.out.1 E3.out.2.2.2.2.2.2.2 E3.out.2.2.2.2.2.1 E3.out.2.2.2.2.2.2.1 (.inl ⟨rfl, E3.out.2.2.2.2.1⟩), (Fr.refl (fun k => k = r) w).setRow _ _ (fun _ => rfl)⟩
    · have hz2 : (S.left == 0) = false := by simpa using hz
      have hz3 : ¬ S.left = 0 := hz
      have hz4 : 0 < S.left := by omega
      have e2 : S.goesB = true := by simp [DS.goesB, goesB, hp, hz]
      have E3 := Lib.hid (show S.goes.off = S.off ∧ S.goes.data = S.data ∧ S.goes.torn = S.torn ∧ S.goes.pend = S.pend ∧ S.goes.wr = S.wr ∧ S.goes.sy = S.sy ∧ refLeft S.goes = S.left - 1 by simp [DS.goes, goesOff, goesPl, goesLeft, hp, hz, refLeft])
      rw [e1] at hr
      rw [e2]
      clear hp e1 e2 hz
      go_enter Try.func67, Try.ntmps67
      go_wp2
      go_ret
      exact ⟨rfl, H.out.set HR.out E3.out.2.1 E3.out.2.2.1 GO.out E3.out.1 E3.out.2.2.2.2.2.2 E3.out.2.2.2.2.1 E3.out.2.2.2.2.2.1 (.inl ⟨rfl, E3.out.2.2.2.1⟩), (Fr.refl (fun k => k = r) w).setRow _ _ (fun _ => rfl)⟩

set_option maxHeartbeats 1000000 in
theorem copied_any (w : World) (v : Value) (b : List UInt8) (h : BytesAt w v b) (hb : b.length ≤ 140737488355328) :
    Calls Try.prog 68 #[v] w fun e w' => ∃ v', e = .returned v' ∧ OwnB w' v' b w.heap.size ∧ Fr (fun _ => False) w w' := by
  obtain ⟨v6, w6, hrun, o6, f6, n6⟩ := run_append_B (w := w) 36 (OwnB.nil _ w.heap.size) (Nat.le_refl _) h (by simpa using hb)
  have hrun' : (appBig 36 (.slice none 0 0) v).run Try.prog w = .ok v6 w6 := hrun
  have O6 := Lib.hid o6
  have F6 := Lib.hid (show Fr (fun _ => False) w w6 from ⟨f6.os, f6.tape, f6.output, f6.size, fun i hi _ => f6.block i hi (fun e => by cases e)⟩)
  obtain ⟨a, c, rfl, -⟩ := h
  obtain ⟨a6, c6, rfl⟩ := o6.shape
  clear hrun o6 f6 n6
  go_enter Try.func68, Try.ntmps68
  go_wp2
  go_ret
  exact ⟨_, rfl, O6.out, F6.out⟩

end Go.Proofs.Ytflnlpbcmcfblaa
