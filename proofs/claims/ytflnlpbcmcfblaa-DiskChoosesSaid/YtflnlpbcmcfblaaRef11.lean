/-
  The reference of package disk: New makes what the disk is.
-/
import Derived.Test.YtflnlpbcmcfblaaRef10
namespace Go.Proofs.Ytflnlpbcmcfblaa
open Go.RowKit

/-- A disk of the reference as a value: what its two slices hold; nothing waits. -/
structure RVal (w : World) (f : Nat → Prop) (gd gt n : Nat) (S : DS) : Prop where
  ok : S.Ok
  nn : S.data.length = n
  pe : S.pend = []
  off : S.off = false
  pl : S.pl = false
  wr : S.wr = 0
  sy : S.sy = 0
  ld : live w gd = true
  lt : live w gt = true
  data : ∀ i (h : i < S.chunks.length), ∃ u, (rowOf w gd)[i]? = some u ∧ OwnBytes w u S.chunks[i] 0 ∧ ∀ k, u.ownBlock = some k → f k ∧ k ≠ gd ∧ k ≠ gt
  torn : ∀ i (h : i < S.torn.length), (rowOf w gt)[i]? = some (.bool S.torn[i])
  fd : f gd
  ft : f gt
  n3 : gd ≠ gt
  lt' : ∀ k, f k → k < w.heap.size

theorem RVal.keep {w w' : World} {f : Nat → Prop} {gd gt n : Nat} {S : DS} (h : RVal w f gd gt n S) {F : Nat → Prop} (hf : Fr F w w') (hF : ∀ k, f k → ¬ F k) : RVal w' f gd gt n S := by
  have kd := hf.row (live_lt h.ld) (hF gd h.fd)
  have kt := hf.row (live_lt h.lt) (hF gt h.ft)
  refine ⟨h.ok, h.nn, h.pe, h.off, h.pl, h.wr, h.sy, by rw [hf.liv (live_lt h.ld) (hF gd h.fd)]; exact h.ld, by rw [hf.liv (live_lt h.lt) (hF gt h.ft)]; exact h.lt, fun i hi => ?_, fun i hi => by rw [kt]; exact h.torn i hi, h.fd, h.ft, h.n3, fun k hk => Nat.lt_of_lt_of_le (h.lt' k hk) hf.size⟩
  obtain ⟨u, a1, a2, a3⟩ := h.data i hi
  exact ⟨u, by rw [kd]; exact a1, a2.keep hf (fun k hk => hF k (a3 k hk).1), a3⟩

theorem RVal.wide {w : World} {f f' : Nat → Prop} {gd gt n : Nat} {S : DS} (h : RVal w f gd gt n S) (hf : ∀ k, f k → f' k) (hl : ∀ k, f' k → k < w.heap.size) : RVal w f' gd gt n S := by
  refine ⟨h.ok, h.nn, h.pe, h.off, h.pl, h.wr, h.sy, h.ld, h.lt, fun i hi => ?_, h.torn, hf _ h.fd, hf _ h.ft, h.n3, hl⟩
  obtain ⟨u, a1, a2, a3⟩ := h.data i hi
  exact ⟨u, a1, a2, fun k hk => ⟨hf k (a3 k hk).1, (a3 k hk).2⟩⟩

/-- The value in a block of its own. -/
theorem RVal.box {w : World} {f : Nat → Prop} {gd gt n cd ct r : Nat} {S : DS} (h : RVal w f gd gt n S) (hr : ¬ f r)
    (row : rowOf w r = #[.bool true, .bool false, .int .i64 (-1), .slice (some ⟨gd, 0, none⟩) n cd, .slice (some ⟨gt, 0, none⟩) n ct, .slice none 0 0, .int .i64 0, .int .i64 0]) (lr : live w r = true) :
    RRep w (fun k => f k ∨ k = r) r gd gt S := by
  have n1 : r ≠ gd := fun e => hr (e ▸ h.fd)
  have n2 : r ≠ gt := fun e => hr (e ▸ h.ft)
  refine ⟨h.ok, ⟨cd, ct, .slice none 0 0, by rw [row, h.off, h.nn, h.wr, h.sy, refLeft, h.pl]; rfl, ⟨[], OwnRows.nil _ _ _, (fun k hk => by cases hk), by rw [h.pe]; rfl, fun i hi => by simp at hi⟩⟩, lr, h.ld, h.lt, fun i hi => ?_, h.torn, .inr rfl, .inl h.fd, .inl h.ft, n1, n2, h.n3, fun k hk => ?_⟩
  · obtain ⟨u, a1, a2, a3⟩ := h.data i hi
    exact ⟨u, a1, a2, fun k hk => ⟨.inl (a3 k hk).1, fun e => hr (e ▸ (a3 k hk).1), (a3 k hk).2.1, (a3 k hk).2.2⟩⟩
  · rcases hk with hk | rfl
    · exact h.lt' k hk
    · exact live_lt lr

/-- The block's value. -/
theorem RRep.val {w : World} {f : Nat → Prop} {r gd gt : Nat} {S : DS} (h : RRep w f r gd gt S) (hp : S.pend = []) (ho : S.off = false) (hl : S.pl = false) (hw : S.wr = 0) (hs : S.sy = 0) :
    (∃ cd ct, rowOf w r = #[.bool true, .bool false, .int .i64 (-1), .slice (some ⟨gd, 0, none⟩) S.data.length cd, .slice (some ⟨gt, 0, none⟩) S.data.length ct, .slice none 0 0, .int .i64 0, .int .i64 0]) ∧ RVal w f gd gt S.data.length S := by
  obtain ⟨cd, ct, wv, row, xs, h1, h2, h3, h4⟩ := h.ex
  have hx : xs = [] := List.eq_nil_of_length_eq_zero (by rw [h3, hp]; rfl)
  subst hx
  have hwv : wv = .slice none 0 0 := by
    rcases h1 with ⟨e, _⟩ | ⟨g, cap, _, _, _, ⟨_, b⟩, _⟩
    · exact e
    · simp at b
  refine ⟨⟨cd, ct, by rw [row, ho, hw, hs, refLeft, hl, hwv]; rfl⟩, ⟨h.ok, rfl, hp, ho, hl, hw, hs, h.ld, h.lt, fun i hi => ?_, h.torn, h.fd, h.ft, h.n3, h.lt'⟩⟩
  obtain ⟨u, a1, a2, a3⟩ := h.data i hi
  exact ⟨u, a1, a2, fun k hk => ⟨(a3 k hk).1, (a3 k hk).2.2⟩⟩

/-- The two slices while they grow. -/
structure NewL (w : World) (vd vt : Value) (us : List Value) (kt base : Nat) : Prop where
  da : OwnRows w vd 1 (us.map fun u => #[u]) base
  el : ∀ u ∈ us, OwnBytes w u zeros64 base ∧ ∀ j, u.ownBlock = some j → vd.ownBlock ≠ some j ∧ vt.ownBlock ≠ some j
  ts : OwnRows w vt 1 (List.replicate kt #[.bool false]) base
  ne : ∀ j, vd.ownBlock = some j → vt.ownBlock ≠ some j
  pw : us.Pairwise (fun a b => a.ownBlock ≠ b.ownBlock)

/-- The blocks' rows are not each other's. -/
def RDist (w : World) (gd n : Nat) : Prop := ∀ i j, i < j → j < n → ∀ u v, (rowOf w gd)[i]? = some u → (rowOf w gd)[j]? = some v → u.ownBlock ≠ v.ownBlock

theorem NewL.keep {w w' : World} {vd vt : Value} {us : List Value} {kt base : Nat} (h : NewL w vd vt us kt base) {F : Nat → Prop} (hf : Fr F w w') (hF : ∀ k, base ≤ k → k < w.heap.size → ¬ F k) : NewL w' vd vt us kt base := by
  refine ⟨h.da.keep hf (fun k hk => hF k (h.da.lt hk).1 (h.da.lt hk).2), fun u hu => ?_, h.ts.keep hf (fun k hk => hF k (h.ts.lt hk).1 (h.ts.lt hk).2), h.ne, h.pw⟩
  obtain ⟨a, b⟩ := h.el u hu
  exact ⟨a.keep hf (fun k hk => hF k (a.lt hk).1 (a.lt hk).2), b⟩

/-- One block more. -/
theorem NewL.data {w w2 w3 : World} {vd vt vd' u0 : Value} {us : List Value} {kt base : Nat} (h : NewL w vd vt us kt base) (f2 : Fr (fun _ => False) w w2) (o0 : OwnBytes w2 u0 zeros64 base) (n0 : ∀ j, u0.ownBlock = some j → w.heap.size ≤ j)
    (ho : OwnRows w3 vd' 1 (us.map (fun u => #[u]) ++ [#[u0]]) base) (f3 : Fr (fun i => vd.ownBlock = some i) w2 w3) (hn : ∀ j, vd'.ownBlock = some j → vd.ownBlock = some j ∨ w2.heap.size ≤ j) : NewL w3 vd' vt (us ++ [u0]) kt base := by
  have s2 := f2.size
  refine ⟨by simpa using ho, fun u hu => ?_, (h.ts.keep f2 (fun _ _ h => h)).keep f3 (fun k hk e => h.ne k e hk), fun j hj e => ?_, List.pairwise_append.2 ⟨h.pw, List.pairwise_singleton _ _, fun a ha b hb e => ?_⟩⟩
  rotate_left 2
  · simp only [List.mem_singleton] at hb
    subst hb
    obtain ⟨oa, -⟩ := h.el a ha
    obtain ⟨g, ext, rfl, -⟩ := id oa
    have h1 := (oa.lt (k := g) rfl).2
    have h2 := n0 g (by rw [← e]; rfl)
    omega
  · rcases List.mem_append.1 hu with hu | hu
    · obtain ⟨a, b⟩ := h.el u hu
      refine ⟨(a.keep f2 (fun _ _ h => h)).keep f3 (fun k hk e => (b k hk).1 e), fun j hj => ⟨fun e => ?_, (b j hj).2⟩⟩
      rcases hn j e with e2 | e2
      · exact (b j hj).1 e2
      · have := (a.lt hj).2; omega
    · simp at hu; subst hu
      refine ⟨o0.keep f3 (fun k hk e => by have := n0 k hk; have := (h.da.lt e).2; omega), fun j hj => ⟨fun e => ?_, fun e => ?_⟩⟩
      · have h1 := n0 j hj
        rcases hn j e with e2 | e2
        · have := (h.da.lt e2).2; omega
        · have := (o0.lt hj).2; omega
      · have := n0 j hj; have := (h.ts.lt e).2; omega
  · rcases hn j hj with e2 | e2
    · exact h.ne j e2 e
    · have := (h.ts.lt e).2; omega

/-- One mark more. -/
theorem NewL.mark {w w3 : World} {vd vt vt' : Value} {us : List Value} {kt base : Nat} (h : NewL w vd vt us kt base)
    (ho : OwnRows w3 vt' 1 (List.replicate kt #[.bool false] ++ [#[.bool false]]) base) (f3 : Fr (fun i => vt.ownBlock = some i) w w3) (hn : ∀ j, vt'.ownBlock = some j → vt.ownBlock = some j ∨ w.heap.size ≤ j) : NewL w3 vd vt' us (kt + 1) base := by
  refine ⟨h.da.keep f3 (fun k hk e => h.ne k hk e), fun u hu => ?_, by rw [List.replicate_succ']; exact ho, fun j hj e => ?_, h.pw⟩
  · obtain ⟨a, b⟩ := h.el u hu
    refine ⟨a.keep f3 (fun k hk e => (b k hk).2 e), fun j hj => ⟨(b j hj).1, fun e => ?_⟩⟩
    rcases hn j e with e2 | e2
    · exact (b j hj).2 e2
    · have := (a.lt hj).2; omega
  · rcases hn j e with e2 | e2
    · exact h.ne j hj e2
    · have := (h.da.lt hj).2; omega

/-- What has grown is a new disk. -/
theorem NewL.val {w : World} {vd vt : Value} {us : List Value} {n base : Nat} (h : NewL w vd vt us n base) (hn : us.length = n) (h1 : 1 ≤ n) (h2 : n ≤ 16384) :
    ∃ gd gt cd ct, vd = .slice (some ⟨gd, 0, none⟩) n cd ∧ vt = .slice (some ⟨gt, 0, none⟩) n ct ∧ RVal w (fun k => base ≤ k ∧ k < w.heap.size) gd gt n (DS.new n) ∧ RDist w gd n := by
  have hda := h.da
  have hts := h.ts
  have hus := h.el
  have hne := h.ne
  have hpw := h.pw
  rcases hda with ⟨_, e⟩ | ⟨gd, cd, rfl, a1, a2, ⟨a3, a3p⟩, a4, a5, a6⟩
  · exfalso; simp at e; subst e; simp at hn; omega
  rcases hts with ⟨_, e⟩ | ⟨gt, ct, rfl, b1, b2, ⟨b3, b3p⟩, b4, b5, b6⟩
  · exfalso; simp at e; omega
  have hch : (DS.new n).chunks = List.replicate n zeros64 := by
    apply List.ext_getElem
    · simp [DS.chunks, DS.new]
    · intro i _ _; simp [DS.chunks, DS.new, shown]
  simp only [List.length_map, hn, List.length_replicate] at a3 a3p b3 b3p
  refine ⟨gd, gt, cd, ct, by simp [hn], by simp, ⟨⟨by simp [DS.new]; omega, by simpa [DS.new] using h2, by simp [DS.new], ?_, by simp [DS.new], by simp [DS.new], by simp [DS.new]⟩, by simp [DS.new], rfl, rfl, rfl, rfl, rfl, a2, b2, fun i hi => ?_, fun i hi => ?_, ⟨a1, live_lt a2⟩, ⟨b1, live_lt b2⟩, fun e => hne gd rfl (by rw [e]; rfl), fun k hk => hk.2⟩, fun i j hij hj u v hu hv => ?_⟩
  rotate_left 3
  · have hi2 : i < us.length := by omega
    have hj2 : j < us.length := by omega
    have ci := a6 i (by simpa using hi2)
    have cj := a6 j (by simpa using hj2)
    have gi := cut_get (cur := rowOf w gd) (off := i * 1) (n := 1) (by omega) 0 (by omega)
    have gj := cut_get (cur := rowOf w gd) (off := j * 1) (n := 1) (by omega) 0 (by omega)
    rw [ci] at gi
    rw [cj] at gj
    simp at gi gj
    rw [← gi] at hu
    rw [← gj] at hv
    cases hu; cases hv
    exact List.pairwise_iff_getElem.1 hpw i j hi2 hj2 hij
  · intro b hb
    simp only [DS.new, List.mem_replicate] at hb
    rw [hb.2]; simp [zeros64]
  · simp only [hch, List.length_replicate] at hi
    have hi2 : i < us.length := by omega
    obtain ⟨o, s⟩ := hus _ (List.getElem_mem hi2)
    have hc := a6 i (by simpa using hi2)
    have hg := cut_get (cur := rowOf w gd) (off := i * 1) (n := 1) (by omega) 0 (by omega)
    rw [hc] at hg
    refine ⟨us[i], by simpa using hg.symm, by simp only [hch, List.getElem_replicate]; exact o.weaken (Nat.zero_le _), fun k hk => ⟨o.lt hk, fun e => (s k hk).1 (by rw [e]; rfl), fun e => (s k hk).2 (by rw [e]; rfl)⟩⟩
  · simp only [DS.new, List.length_replicate] at hi
    have hc := b6 i (by simpa using hi)
    have hg := cut_get (cur := rowOf w gt) (off := i * 1) (n := 1) (by omega) 0 (by omega)
    rw [hc] at hg
    simpa [DS.new] using hg.symm

end Go.Proofs.Ytflnlpbcmcfblaa
