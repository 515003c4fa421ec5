/-
  LogOwn: the walk.
-/
import Derived.Test.YtflnlpbcmcfblaaLV
import Derived.Test.YtflnlpbcmcfblaaScrib
namespace Go.Proofs.Ytflnlpbcmcfblaa
open Go.RowKit

theorem Recs.keep2 {w w' : World} {v : Value} {us : List Value} {recs : List (List UInt8)} {base : Nat} (h : Recs w v us recs base) {F : Nat → Prop} (hf : Fr F w w') (hF : ∀ k, recsFoot v us k → ¬ F k) : Recs w' v us recs base :=
  ⟨h.da.keep hf (fun k hk => hF k (.inl hk)), h.ln, fun i h1 h2 => (h.el i h1 h2).keep hf (fun k hk => hF k (.inr ⟨_, List.getElem_mem h1, hk⟩)), h.ne, h.pw⟩

theorem Recs.snoc2 {w2 w3 : World} {v v' u0 : Value} {us : List Value} {recs : List (List UInt8)} {b0 : List UInt8} {base : Nat} (h : Recs w2 v us recs base) (o0 : OwnB w2 u0 b0 base) (n0 : ∀ j, u0.ownBlock = some j → ¬ recsFoot v us j)
    (ho : OwnRows w3 v' 1 (us.map (fun u => #[u]) ++ [#[u0]]) base) (f3 : Fr (fun i => v.ownBlock = some i) w2 w3) (hn : ∀ j, v'.ownBlock = some j → v.ownBlock = some j ∨ w2.heap.size ≤ j) : Recs w3 v' (us ++ [u0]) (recs ++ [b0]) base := by
  refine ⟨by simpa using ho, by simp [h.ln], fun i h1 h2 => ?_, fun u hu j hj e => ?_, List.pairwise_append.2 ⟨h.pw, List.pairwise_singleton _ _, fun a ha b hb j hj e => ?_⟩⟩
  · by_cases hi : i < us.length
    · rw [List.getElem_append_left hi, List.getElem_append_left (by have := h.ln; omega)]
      exact (h.el i hi (by have := h.ln; omega)).keep f3 (fun k hk e => h.ne _ (List.getElem_mem hi) k hk e)
    · have hi2 : i = us.length := by simp at h1; omega
      subst hi2
      rw [List.getElem_append_right (Nat.le_refl _), List.getElem_append_right (by have := h.ln; omega)]
      have e0 : us.length - recs.length = 0 := by have := h.ln; omega
      simp only [Nat.sub_self, List.getElem_cons_zero, e0]
      exact o0.keep f3 (fun k hk e => n0 k hk (.inl e))
  · rcases List.mem_append.1 hu with hu | hu
    · rcases hn j e with e2 | e2
      · exact h.ne u hu j hj e2
      · obtain ⟨i, hi, rfl⟩ := List.getElem_of_mem hu
        have := ((h.el i hi (by have := h.ln; omega)).lt hj).2; omega
    · simp at hu; subst hu
      rcases hn j e with e2 | e2
      · exact n0 j hj (.inl e2)
      · have := (o0.lt hj).2; omega
  · simp at hb; subst hb
    exact n0 j e (.inr ⟨a, ha, hj⟩)

/-- What LogOwn holds between records: a disk, its log (N), and the records taken (R), in memory of their own. -/
structure OwnSt (w0 w : World) (p : DP) (S : DS) (bl bm : Nat) (V : LogV) (cnt : Nat → Nat) (vr : Value) (us : List Value) (R N : List (List UInt8)) : Prop where
  st : St w0 w p S
  log : LogAt w p bl bm V S.data.length cnt
  on : OnS S V cnt N (1 + N.length)
  pl : S.pl = false
  wbl : w0.heap.size ≤ bl
  wbm : w0.heap.size ≤ bm
  rcs : Recs w vr us R w0.heap.size
  rf : ∀ j, recsFoot vr us j → ¬ p.foot j ∧ j ≠ bl ∧ j ≠ bm

section
variable {w0 w w' : World} {p p' : DP} {S S' : DS} {bl bm : Nat} {V V' : LogV} {cnt : Nat → Nat} {vr : Value} {us : List Value} {R N M : List (List UInt8)}

theorem OwnSt.few (h : OwnSt w0 w p S bl bm V cnt vr us R N) : N.length ≤ 16384 := by
  have h1 := h.on.used
  have h2 := sumN_ge N
  have h3 := h.on.d.ok.n1
  unfold DS.oSize at h1
  omega

theorem OwnSt.calm (h : OwnSt w0 w p S bl bm V cnt vr us R N) {F : Nat → Prop} (f : Fr F w w') (hF : ∀ j, F j → j < w.heap.size → w0.heap.size ≤ j ∧ ¬ p.foot j ∧ j ≠ bl ∧ j ≠ bm ∧ ¬ recsFoot vr us j) : OwnSt w0 w' p S bl bm V cnt vr us R N := by
  have hbl := live_lt h.log.liv
  have hbm := h.log.map.lt
  have f2 : Fr (fun j => F j ∧ j < w.heap.size) w w' := f.mono (fun i hi e => ⟨e, hi⟩)
  exact ⟨h.st.calm f2 (fun k e => ⟨(hF k e.1 e.2).1, (hF k e.1 e.2).2.1⟩), h.log.keep f2 rfl (fun e => (hF _ e.1 e.2).2.2.1 rfl) (fun e => (hF _ e.1 e.2).2.2.2.1 rfl) (fun _ h => .inl h), h.on, h.pl, h.wbl, h.wbm, h.rcs.keep2 f2 (fun k hk e => (hF k e.1 e.2).2.2.2.2 hk), h.rf⟩

theorem OwnSt.wrote (h : OwnSt w0 w p S bl bm V cnt vr us R N) (lo : LogOut w0 w w' p p' S' bl bm V' S.data.length cnt) (hl : S'.data.length = S.data.length) (on : OnS S' V' cnt M (1 + M.length)) (pl : S'.pl = false) : OwnSt w0 w' p' S' bl bm V' cnt vr us R M :=
  ⟨lo.st, by rw [hl]; exact lo.log, on, pl, h.wbl, h.wbm, h.rcs.keep2 lo.mv.fr (fun k hk e => e.elim (h.rf k hk).1 (h.rf k hk).2.1), fun j hj => ⟨fun e => (lo.mv.new j (.inl e)).elim (fun e => e.elim (h.rf j hj).1 (h.rf j hj).2.1) (fun e => by have := (h.rcs.foot_lt hj).2; omega), (h.rf j hj).2⟩⟩

theorem OwnSt.kept (h : OwnSt w0 w p S bl bm V cnt vr us R N) {q : Nat} {want got : Int} (lo : LogOut w0 w w' p p' S' bl bm V' S.data.length cnt) (oc : Outcome S V cnt N M (1 + N.length) q want got S' V') (hg : got ≠ 0) : OwnSt w0 w' p' S' bl bm V' cnt vr us R N := by
  obtain ⟨h1, -, -, ⟨-, -, rfl, rfl⟩ | ⟨-, e, -⟩ | ⟨-, -, e, -⟩⟩ := oc
  · exact h.wrote lo rfl h.on h.pl
  · exact absurd e hg
  · rw [h.pl] at e; cases e

theorem OwnSt.took (h : OwnSt w0 w p S bl bm V cnt vr us R N) {q : Nat} {want got : Int} (lo : LogOut w0 w w' p p' S' bl bm V' S.data.length cnt) (oc : Outcome S V cnt N M (1 + N.length) q want got S' V') (hg : got = 0) (hM : M.length = N.length + 1) : OwnSt w0 w' p' S' bl bm V' cnt vr us R M := by
  obtain ⟨h1, -, -, ⟨e1, e2, -⟩ | ⟨-, -, on, hp⟩ | ⟨-, -, e, -⟩⟩ := oc
  · exact absurd (e2.symm.trans hg) e1
  · exact h.wrote lo h1 (by rw [hM]; exact on) (hp h.pl)
  · rw [h.pl] at e; cases e

theorem OwnSt.snoc {v' u0 : Value} {b0 : List UInt8} (h : OwnSt w0 w p S bl bm V cnt vr us R N) (o0 : OwnB w u0 b0 w0.heap.size) (n0 : ∀ j, u0.ownBlock = some j → ¬ recsFoot vr us j ∧ ¬ p.foot j ∧ j ≠ bl ∧ j ≠ bm)
    (ho : OwnRows w' v' 1 (us.map (fun u => #[u]) ++ [#[u0]]) w0.heap.size) (f3 : Fr (fun i => vr.ownBlock = some i) w w') (hn : ∀ j, v'.ownBlock = some j → vr.ownBlock = some j ∨ w.heap.size ≤ j) : OwnSt w0 w' p S bl bm V cnt v' (us ++ [u0]) (R ++ [b0]) N := by
  have hbl := live_lt h.log.liv
  have hbm := h.log.map.lt
  refine ⟨h.st.calm f3 (fun k e => ⟨(h.rcs.da.lt e).1, (h.rf k (.inl e)).1⟩), h.log.keep f3 rfl (fun e => (h.rf _ (.inl e)).2.1 rfl) (fun e => (h.rf _ (.inl e)).2.2 rfl) (fun _ h => .inl h), h.on, h.pl, h.wbl, h.wbm, h.rcs.snoc2 o0 (fun j hj => (n0 j hj).1) ho f3 hn, fun j hj => ?_⟩
  rcases hj with hj | ⟨u, hu, hj⟩
  · rcases hn j hj with e | e
    · exact h.rf j (.inl e)
    · exact ⟨fun h2 => by have := h.st.lt h2; omega, by omega, by omega⟩
  · rcases List.mem_append.1 hu with hu | hu
    · exact h.rf j (.inr ⟨u, hu, hj⟩)
    · simp at hu; subst hu; exact (n0 j hj).2
end

theorem empty_own (w : World) : OwnB (w.alloc (.cells #[] 5)) (.slice (some ⟨w.heap.size, 0, none⟩) 0 0) [] w.heap.size :=
  .inr ⟨w.heap.size, [], rfl, Nat.le_refl _, live_alloc_at _ _ _ _ rfl, by simp, by rw [rowOf_alloc_at _ _ _ _ _ rfl]; rfl⟩

/-- What LogOwn holds while it reads back: a disk on which the records lie, and the records, in memory of their own. -/
structure TellSt (w0 w : World) (d0 : Nat) (p : DP) (S : DS) (V : LogV) (cnt : Nat → Nat) (vr : Value) (us : List Value) (R : List (List UInt8)) (k : Nat) : Prop where
  st : St w0 w p S
  d : p.d = d0
  on : OnS S V cnt R k
  pl : S.pl = false
  rcs : Recs w vr us R w0.heap.size
  rf : ∀ j, recsFoot vr us j → ¬ p.foot j

theorem TellSt.calm {w0 w w' : World} {d0 : Nat} {p : DP} {S : DS} {V : LogV} {cnt : Nat → Nat} {vr : Value} {us : List Value} {R : List (List UInt8)} {k : Nat} (h : TellSt w0 w d0 p S V cnt vr us R k) {F : Nat → Prop} (f : Fr F w w') (hF : ∀ j, F j → w0.heap.size ≤ j ∧ ¬ p.foot j ∧ ¬ recsFoot vr us j) : TellSt w0 w' d0 p S V cnt vr us R k :=
  ⟨h.st.calm f (fun k e => ⟨(hF k e).1, (hF k e).2.1⟩), h.d, h.on, h.pl, h.rcs.keep2 f (fun k hk e => (hF k e).2.2 hk), h.rf⟩

theorem recN_le_sumN {R : List (List UInt8)} {b : List UInt8} (h : b ∈ R) : recN b.length ≤ sumN R := by
  induction R with
  | nil => cases h
  | cons x R ih =>
    have e : sumN (x :: R) = recN x.length + sumN R := by simp [sumN]
    rcases List.mem_cons.1 h with h | h
    · subst h; omega
    · have := ih h; omega

theorem OwnRows.cap {w : World} {a : Option Addr} {n c size : Nat} {xs : List (Array Value)} {base : Nat} (h : OwnRows w (.slice a n c) size xs base) : n ≤ c := by
  rcases h with ⟨e, -⟩ | ⟨g, cap, e, -, -, ⟨b3, -⟩, -⟩
  · simp only [Value.slice.injEq] at e; omega
  · simp only [Value.slice.injEq] at e; omega

theorem Recs.tail {w w' : World} {g n c : Nat} {us : List Value} {R : List (List UInt8)} {base : Nat} (h : Recs w (.slice (some ⟨g, 0, none⟩) n c) us R base) (m : Nat) (hm : m ≤ us.length) (f : Fr (fun j => ∃ u ∈ us.take m, u.ownBlock = some j) w w') :
    AllAt w' (.slice (some ⟨g, m, none⟩) (n - m) (c - m)) (R.drop m) 0 := by
  have hl := h.ln
  rcases h.da with ⟨e, -⟩ | ⟨g', cap, e, b1, b2, ⟨b3, b3p⟩, b4, b5, b6⟩
  · cases e
  · simp only [List.length_map, Value.slice.injEq, Option.some.injEq, Addr.mk.injEq, and_true] at b3 b3p b6 e
    obtain ⟨rfl, rfl, rfl⟩ := e
    have hg : ¬ ∃ u ∈ us.take m, u.ownBlock = some g := fun ⟨u, hu, hj⟩ => h.ne u (List.mem_of_mem_take hu) g hj rfl
    have hr := f.row (live_lt b2) hg
    refine ⟨g, m, c - m, by rw [List.length_drop, hl], by rw [List.length_drop]; omega, Nat.zero_le _, by rw [hr]; omega, fun i hi => ?_⟩
    rw [List.length_drop] at hi
    have hiu : m + i < us.length := by omega
    have cc := b6 (m + i) hiu
    have g0 := cut_get (cur := rowOf w g) (off := (m + i) * 1) (n := 1) (by omega) 0 (by omega)
    rw [cc] at g0
    refine ⟨us[m + i], by rw [hr]; simpa using g0.symm, ?_⟩
    rw [List.getElem_drop]
    refine (h.el (m + i) hiu (by omega)).keep f (fun k hk ⟨u, hu, hj⟩ => ?_) |>.weaken (Nat.zero_le _)
    obtain ⟨x, hx, rfl⟩ := List.getElem_of_mem hu
    rw [List.length_take] at hx
    rw [List.getElem_take] at hj
    exact List.pairwise_iff_getElem.1 h.pw x (m + i) (by omega) hiu (by omega) k hj hk

theorem Recs.tail2 {w w' : World} {g n c : Nat} {us : List Value} {R : List (List UInt8)} {base : Nat} (h : Recs w (.slice (some ⟨g, 0, none⟩) n c) us R base) (m : Nat) (hm : m ≤ us.length) (f : Fr (fun j => ∃ u ∈ us.take m, u.ownBlock = some j) w w') :
    ListAt w' (.slice (if c = m then some ⟨g, 0, none⟩ else some ⟨g, m, none⟩) (n - m) (c - m)) (R.drop m) := by
  by_cases hc : c = m
  · subst hc
    have h1 := h.da.cap
    have h2 := h.ln
    have h3 : n = us.length := by
      obtain ⟨a', c', e⟩ := h.da.len
      simp only [Value.slice.injEq, List.length_map] at e; exact e.2.1
    have h4 : R.drop c = [] := List.drop_of_length_le (by omega)
    rw [if_pos rfl, h4]
    refine .inr ⟨g, 0, 0, by simp; omega, by simp, Nat.zero_le _, by simp, fun i hi => by simp at hi⟩
  · rw [if_neg hc]; exact .inr (h.tail m hm f)

set_option maxRecDepth 20000 in
set_option maxHeartbeats 4000000 in
theorem own_list (w : World) (v : Value) (A : List (List UInt8)) (hv : BytesList w v A 140737488355327) (hA : A.length ≤ 9223372036854775807) :
    Calls Try.prog 12 #[v] w fun e w' => e = .returned (.bool true) ∧ Below w.heap.size w w' := by
  obtain ⟨av, cv, rfl, hcells⟩ := hv
  have HC := Lib.hid hcells
  obtain ⟨L, hL⟩ : ∃ L, A.length = L := ⟨_, rfl⟩
  have HL := Lib.hid hL
  rw [hL] at hA ⊢
  clear hcells hL
  go_enter Try.func12, Try.ntmps12
  go_wp2_with fail
  refine (new_ok w 400 (by omega) (by omega)).mono ?_
  rintro e w1 ⟨p, rfl, r1, f1, hf1⟩
  have S1 := Lib.hid (show St w w1 p (DS.new 400) from ⟨f1, r1, hf1⟩)
  clear r1 f1 hf1
  go_wp2_with fail
  refine (live_any w1).mono ?_
  rintro e w2 ⟨rfl, rfl⟩
  go_wp2_with fail
  have hl4 : (DS.new 400).data.length = 400 := by simp [DS.new]
  obtain ⟨z1, z2, z3, z4⟩ := format_state (S := DS.new 400) S1.out.rep.ok (by rw [hl4]; omega) rfl rfl rfl rfl
  have Z := Lib.hid (And.intro z2 (And.intro z3 z4))
  have FT := Lib.hid (format_any w w1 p (DS.new 400) S1.out (by rw [hl4]; omega) rfl (by simp [DS.new]) z1)
  clear z1 z2 z3 z4 hl4
  refine FT.out.mono ?_
  rintro e w5 ⟨p5, bl, bm, hp5, rfl, st5, mv5, lg5, hbl, hbm⟩
  obtain ⟨S5, hS5⟩ : ∃ S5, (DS.new 400).fDone.2 = S5 := ⟨_, rfl⟩
  obtain ⟨V5, hV5⟩ : ∃ V5, (DS.new 400).fLog = V5 := ⟨_, rfl⟩
  obtain ⟨cnt, hcnt⟩ : ∃ cnt, genCnt (DS.new 400).reads = cnt := ⟨_, rfl⟩
  obtain ⟨d0, hd0⟩ : ∃ d, p.d = d := ⟨_, rfl⟩
  rw [hS5, hV5, hcnt] at Z
  rw [hS5] at st5
  rw [hV5, hcnt] at lg5
  have OS5 := Lib.hid (show p5.d = d0 ∧ OwnSt w w5 p5 S5 bl bm V5 cnt (.slice none 0 0) [] [] [] from ⟨hp5.trans hd0, by
    have h1 := S1.out.fr.size
    exact ⟨st5, by rw [Z.out.2.2]; exact lg5, Z.out.1 st5.rep.ok, Z.out.2.1, by omega, by omega, Recs.nil _ _, fun j hj => hj.elim (fun h => by cases h) (fun ⟨_, h, _⟩ => by cases h)⟩⟩)
  rw [hd0]
  clear hS5 hV5 hcnt hd0 st5 mv5 lg5 hbl hbm hp5 FT Z S1
  go_wp2
  go_loopw [6, 8, 9, 10, 38] (fun vr _ _ _ i wr => ∃ (k : Nat) (p : DP) (S : DS) (V : LogV) (us : List Value) (R : List (List UInt8)), k ≤ L ∧ i = .int .i64 k ∧ Hid (p.d = d0 ∧ OwnSt w wr p S bl bm V cnt vr us R R)) (fun _ _ _ _ i _ => L - (intOf i).toNat)
  case atStart => exact ⟨0, _, _, _, _, _, Nat.zero_le _, rfl, OS5⟩
  case round =>
    clear OS5
    obtain ⟨k, p, S, V, us, R, hk, rfl, OK⟩ := hrel
    by_cases hlt : k < L
    · have hki : (k : Int) < (L : Int) := by omega
      have hkl : k < A.length := by rw [HL.out]; exact hlt
      obtain ⟨g, off, rfl, hall⟩ := HC.out.resolve_left (fun e => by rw [e] at hkl; simp at hkl)
      obtain ⟨ai, ci, c0, bb, hcap, hbd⟩ := hall k hkl
      have c1 := (congrArg (fun z : Array Value => z[off + k]?) (OK.out.2.st.fr.row (g := g) (rowOf_lt (by obtain ⟨h, _⟩ := Array.getElem?_eq_some_iff.1 c0; omega)) (fun h => h))).trans c0
      obtain ⟨b, hb⟩ : ∃ b, A[k] = b := ⟨_, rfl⟩
      rw [hb] at c1 bb hcap hbd
      obtain ⟨q, hq⟩ : ∃ q, b.length = q := ⟨_, rfl⟩
      have HQ := Lib.hid hq
      rw [hq] at c1 bb hcap hbd
      have BB := Lib.hid (bb.later OK.out.2.st.fr)
      have hbd2 : q + 1 ≤ 140737488355328 := by omega
      clear hb c0 bb hall hq hbd
      go_wp2_with (at_builtin; first
        | (refine wpList_append_B rfl (.tmp 42) (.tmp 43) rfl (.slice (some ⟨wr.heap.size, 0, none⟩) 0 0) [] wr.heap.size rfl (empty_own wr) (by simp) (.slice ai q ci) b rfl (BB.out.later ((Fr.refl (fun _ => False) wr).alloc _)) (by rw [HQ.out]; simp; omega) ?_; intro vm w3 om fm xm; have OM := Lib.hid (show OwnB w3 vm b wr.heap.size from om); have FM := Lib.hid (((Fr.refl (fun _ => False) wr).alloc _).trans fm (fun i hi e => by simp [Value.ownBlock] at e; omega)); obtain ⟨am, cm, em⟩ := om.shape; rw [List.nil_append, HQ.out] at em; subst em; clear om fm xm)
        | (refine wpList_append_B rfl (.tmp 45) (.tmp 46) rfl (.slice (some ⟨w3.heap.size, 0, none⟩) 0 0) [] w3.heap.size rfl (empty_own w3) (by simp) (.slice ai q ci) b rfl (BB.out.later (FM.out.alloc _)) (by rw [HQ.out]; simp; omega) ?_; intro vw w4 ow fw xw; have OW := Lib.hid (show OwnB w4 vw b w3.heap.size from ow); have FW := Lib.hid (((Fr.refl (fun _ => False) w3).alloc _).trans fw (fun i hi e => by simp [Value.ownBlock] at e; omega)); obtain ⟨aw, cw, ew⟩ := ow.shape; rw [List.nil_append, HQ.out] at ew; subst ew; clear ow fw xw))
      have S4 := Lib.hid (OK.out.2.calm (FM.out.trans FW.out (fun _ _ h => h)) (fun _ h => h.elim))
      have HCM := Lib.hid (show q ≤ cm from by rcases OM.out with ⟨e, -⟩ | ⟨g, ext, e, -⟩ <;> (simp only [Value.slice.injEq] at e; omega))
      obtain ⟨wt, hwt⟩ : ∃ z, wantE (S.oSize - sumN R) b.length = z := ⟨_, rfl⟩
      obtain ⟨qq, hqq⟩ : ∃ z, recN b.length + 1 = z := ⟨_, rfl⟩
      have AP := Lib.hid (show Calls Try.prog 49 #[.pointer (some ⟨bl, 0, none⟩), .slice am q cm] w4 fun e w' => ∃ p' S' V' got, e = .returned (.int .i64 got) ∧ LogOut w w4 w' p p' S' bl bm V' S.data.length cnt ∧ Outcome S V cnt R (R ++ [b]) (1 + R.length) qq wt got S' V' by
        have hq := HQ.out
        subst hq
        rw [← hwt, ← hqq]
        exact log_append w w4 p S S4.out.st bl bm V cnt R (1 + R.length) S4.out.log S4.out.on (by have := S4.out.few; omega) S4.out.wbl am cm b ((OM.out.keep FW.out (fun _ _ h => h)).at_) HCM.out)
      clear hwt hqq
      refine AP.out.mono ?_
      rintro e w5 ⟨p5, S5, V5, got, rfl, lo, oc⟩
      have LO := Lib.hid lo
      have OC := Lib.hid oc
      have P5 := Lib.hid (lo.d.trans OK.out.1)
      clear lo oc AP
      by_cases hg : got = 0
      · subst hg
        have S5' := Lib.hid (S4.out.took LO.out OC.out rfl (by simp))
        have hwr := OK.out.2.st.fr.size
        have hbl := live_lt OK.out.2.log.liv
        have hbm := OK.out.2.log.map.lt
        have hs3 := FM.out.size
        have hs4 := FW.out.size
        have NW := Lib.hid (show ∀ j, wr.heap.size ≤ j → j < w4.heap.size → ¬ (p.foot j ∨ j = bl) ∧ ¬ p5.foot j ∧ j ≠ bl ∧ j ≠ bm ∧ ¬ recsFoot u6 us j from fun j h1 h2 => by
          have hpf : ¬ (p.foot j ∨ j = bl) := fun e => e.elim (fun e => by have := OK.out.2.st.lt e; omega) (fun e => by omega)
          exact ⟨hpf, fun e => (LO.out.mv.new j (.inl e)).elim hpf (fun h => by omega), by omega, by omega, fun e => by have := (OK.out.2.rcs.foot_lt e).2; omega⟩)
        have OM5 := Lib.hid ((OM.out.keep FW.out (fun _ _ h => h)).keep LO.out.mv.fr (fun k hk => (NW.out k (OM.out.lt hk).1 (by have := (OM.out.lt hk).2; omega)).1))
        have OW5 := Lib.hid (OW.out.keep LO.out.mv.fr (fun k hk => (NW.out k (by have := (OW.out.lt hk).1; omega) (OW.out.lt hk).2).1))
        have h1 := conv_at OM5.out.at_ (Fr.refl (fun _ => False) w5)
        have h2 := conv_at OW5.out.at_ (Fr.refl (fun _ => False) w5)
        have hnb := bytes_neb b b
        rw [decide_eq_true rfl] at hnb
        obtain ⟨sx, hsx⟩ : ∃ s : ByteArray, s = ⟨b.toArray⟩ := ⟨_, rfl⟩
        rw [← hsx] at h1 h2 hnb
        clear hsx hwr hbl hbm hs3 hs4
        go_wp2_with fail
        refine (scribble_any w5 am q cm b (OM5.out.weaken (Nat.zero_le _)) HQ.out hbd2).mono ?_
        rintro e w6 ⟨rfl, f6⟩
        have S6 := Lib.hid (S5'.out.calm f6 (fun j hj _ => by
          have h1 := OM.out.lt hj
          have h2 := NW.out j h1.1 (by have := FW.out.size; omega)
          exact ⟨by have := OK.out.2.st.fr.size; omega, h2.2⟩))
        have OW6 := Lib.hid (OW5.out.keep f6 (fun k hk e => by have h1 := OM.out.lt e; have h2 := OW.out.lt hk; omega))
        have hus : us.length ≤ 16384 := by have h1 := OK.out.2.rcs.ln; have h2 := OK.out.2.few; omega
        have SZ1 := Lib.hid (show ∀ y ∈ us.map (fun u => (#[u] : Array Value)), y.size = 1 from fun y hy => by obtain ⟨u, _, rfl⟩ := List.mem_map.1 hy; rfl)
        have LT := Lib.hid (show (us.map fun u => (#[u] : Array Value)).length = us.length from List.length_map ..)
        have hw6 := S6.out.st.fr.size
        clear f6 h1 h2 hnb
        go_wp2_with (at_builtin; refine wpList_append_one rfl (.tmp 59) (.tmp 61) 29 rfl 36 _ 1 24 Try.underlying29 ti36 u6 (us.map fun u => #[u]) w.heap.size rfl (S6.out.rcs.da.keep ((Fr.refl (fun _ => False) w6).alloc _) (fun _ _ h => h)) (by simp; omega) w6.heap.size 1 rfl #[.slice aw q cw] (by simp [go_sem]) (by simp [go_sem]) (by intro y hy; simp at hy; subst hy; rfl) SZ1.out (by rw [LT.out]; simp only [maxLen]; omega) (fitsN (by rw [LT.out]; omega) (by omega)) ?_; intro g7 cap7 w7 ho7 f7 hn7; have HO7 := Lib.hid ho7; have F7 := Lib.hid f7; have N7 := Lib.hid hn7; clear ho7 f7 hn7)
        go_roundw
        case rel =>
          refine ⟨k + 1, p5, S5, V5, us ++ [.slice aw q cw], R ++ [b], by omega, by go_num, Lib.hid ⟨P5.out, ?_⟩⟩
          have FA := (Fr.refl (fun _ => False) w6).alloc (.cells #[.slice aw q cw] 36)
          refine (S6.out.calm FA (fun _ h => h.elim)).snoc ((OW6.out.keep FA (fun _ _ h => h)).weaken (by have := OK.out.2.st.fr.size; have := FM.out.size; omega)) (fun j hj => ?_) (by have h8 := HO7.out; rw [LT.out] at h8; exact h8) F7.out (fun j hj => ?_)
          · have h1 := OW.out.lt hj
            have h2 := NW.out j (by have := FM.out.size; omega) h1.2
            exact ⟨h2.2.2.2.2, h2.2.1, h2.2.2.1, h2.2.2.2.1⟩
          · simp only [Value.ownBlock, Option.some.injEq] at hj
            subst hj
            exact N7.out
        case measure => simp [intOf]; omega
      · have S5' := Lib.hid (S4.out.kept LO.out OC.out hg)
        have hgb : (got != 0) = true := by simpa using hg
        clear hg
        go_wp2
        go_roundw
        case rel => exact ⟨k + 1, p5, S5, V5, us, R, by omega, by go_num, Lib.hid ⟨P5.out, S5'.out⟩⟩
        case measure => simp [intOf]; omega
    · obtain rfl : k = L := by omega
      obtain ⟨nr, hnr⟩ : ∃ n, R.length = n := ⟨_, rfl⟩
      have HR := Lib.hid hnr
      have hnb : nr ≤ 16384 := by have := OK.out.2.few; omega
      have TK := Lib.hid (show TellSt w wr d0 p S V cnt u6 us R (1 + nr + 0) from ⟨OK.out.2.st, OK.out.1, by have := OK.out.2.on; rw [hnr] at this; exact this, OK.out.2.pl, OK.out.2.rcs, fun j hj => (OK.out.2.rf j hj).1⟩)
      obtain ⟨ax, cx, rfl⟩ : ∃ a c, u6 = .slice a nr c := by rw [← hnr]; exact OK.out.2.rcs.refl'.list.shape
      have hku : us.length = nr := by rw [← hnr]; exact OK.out.2.rcs.ln
      clear OK hnr HC hlt hk
      go_wp2
      go_loopw [11, 12, 13, 14, 64] (fun _ _ _ _ i wr => ∃ (k2 : Nat) (p : DP) (S : DS) (V : LogV) (cnt : Nat → Nat), k2 ≤ 2 ∧ i = .int .i64 k2 ∧ Hid (TellSt w wr d0 p S V cnt (.slice ax nr cx) us R (1 + nr + k2))) (fun _ _ _ _ i _ => 2 - (intOf i).toNat)
      case atStart => exact ⟨0, _, _, _, _, by omega, rfl, TK⟩
      case round =>
        clear TK
        obtain ⟨k2, p, S, V, cnt, hk2, rfl, OK⟩ := hrel
        by_cases hlt : k2 < 2
        · have hki : (k2 : Int) < 2 := by omega
          obtain ⟨s, hd, u, hbd, hlies⟩ : ∃ s h u, Bd h (1 + nr + k2) ∧ Lies S.vis S.oSize s h R u := ⟨_, _, _, OK.out.on.bd, OK.out.on.live.lies⟩
          have LI := Lib.hid hlies
          have BD := Lib.hid hbd
          have OP := Lib.hid (show Calls Try.prog 47 #[.pointer (some ⟨d0, 0, none⟩)] wr fun e w' => OpenPost w wr p S (headPick S.reads 2) e w' by
            rw [← OK.out.d]; exact open_any w wr p S OK.out.st OK.out.on.d.n6 OK.out.on.off (by rw [OK.out.on.pend]; simp))
          clear hbd hlies
          go_wp2_with fail
          refine OP.out.mono ?_
          rintro e w3 hpost
          rw [show headPick S.reads 2 = some (s, hd) by rw [reads_vis OK.out.on.off OK.out.on.pend]; exact LI.out.pick] at hpost
          obtain ⟨p3, hp3, st3, mv3, hres⟩ := hpost
          obtain ⟨-, a1, a2, a3, ⟨b1, b2, b3, b4⟩ | ⟨-, b2, -⟩⟩ := open_state OK.out.on.d (by omega) OK.out.on.off OK.out.on.pend BD.out LI.out st3.rep.ok
          rotate_left
          · rw [OK.out.pl] at b2; cases b2
          rw [if_pos b1] at hres
          obtain ⟨bl3, vrec, us3, bm3, rfl, rs3, rff, lg3, hbl3, hbm3⟩ := hres
          rw [b3] at rs3
          have b4 := b4 OK.out.pl
          obtain ⟨V3, hV3⟩ : ∃ V3, (⟨S.oHead hd, s, S.oSize, (S.oRead hd).2, (S.oRead hd).1.length, false⟩ : LogV) = V3 := ⟨_, rfl⟩
          obtain ⟨S3, hS3⟩ : ∃ S3, (S.oDone s hd).2 = S3 := ⟨_, rfl⟩
          obtain ⟨cnt3, hc3⟩ : ∃ c, genCnt S.reads = c := ⟨_, rfl⟩
          rw [hS3, hV3, hc3] at b2
          rw [hS3] at st3 b4
          have T3 := Lib.hid (show TellSt w w3 d0 p3 S3 V3 cnt3 (.slice ax nr cx) us R (1 + nr + (k2 + 1)) from ⟨st3, hp3.trans OK.out.d, b2, b4, OK.out.rcs.keep2 mv3.fr OK.out.rf, fun j hj e => (mv3.new j e).elim (OK.out.rf j hj) (fun h => by have := (OK.out.rcs.foot_lt hj).2; omega)⟩)
          have R3 := Lib.hid (show Recs w3 vrec us3 R wr.heap.size ∧ us3.length = nr from ⟨rs3, rs3.ln.trans HR.out⟩)
          have NF3 := Lib.hid (show ∀ j, recsFoot vrec us3 j → w.heap.size ≤ j ∧ ¬ p3.foot j ∧ ¬ recsFoot (.slice ax nr cx) us j from fun j hj => by
            have h1 := rs3.foot_lt hj
            exact ⟨by have := OK.out.st.fr.size; omega, (rff j hj).1, fun e => by have := (OK.out.rcs.foot_lt e).2; omega⟩)
          obtain ⟨av, cv3, rfl⟩ : ∃ a c, vrec = .slice a nr c := by rw [← HR.out]; exact rs3.refl'.list.shape
          clear hp3 st3 mv3 rs3 rff lg3 a1 a2 a3 b1 b2 b3 b4 hbl3 hbm3 OP hV3 hS3 hc3 LI BD
          go_wp2_with fail
          refine (same_any w3 _ _ R R R3.out.1.refl'.list T3.out.rcs.refl'.list (by rw [HR.out]; omega)).mono ?_
          rintro e w4 ⟨rfl, f4⟩
          rw [decide_eq_true rfl]
          have T4 := Lib.hid (T3.out.calm f4 (fun _ h => h.elim))
          have R4 := Lib.hid (R3.out.1.keep2 f4 (fun _ _ h => h))
          clear f4
          go_wp2
          go_loopw [14, 82] (fun _ i wr => ∃ m : Nat, m ≤ nr ∧ i = .int .i64 m ∧ Hid (Fr (fun j => ∃ u ∈ us3.take m, u.ownBlock = some j) w4 wr)) (fun _ i _ => nr - (intOf i).toNat)
          case atStart => exact ⟨0, Nat.zero_le _, rfl, Lib.hid (Fr.refl _ _)⟩
          case round =>
            obtain ⟨m, hm, rfl, FM⟩ := hrel
            by_cases hlm : m < nr
            · have hmi : (m : Int) < (nr : Int) := by omega
              have hmu : m < us3.length := by rw [R3.out.2]; exact hlm
              have hmR : m < R.length := by rw [HR.out]; exact hlm
              have hcv : nr ≤ cv3 := R4.out.da.cap
              have hcx : nr ≤ cx := T4.out.rcs.da.cap
              obtain ⟨gx, _, _, _, rfl, -, -⟩ := T4.out.rcs.refl'.cell (k := m) (by rw [hku]; exact hlm)
              obtain ⟨g3, ua, l, uc, rfl, c0, eu⟩ := R4.out.refl'.cell hmu
              have hng : ¬ ∃ u ∈ us3.take m, u.ownBlock = some g3 := fun ⟨u, hu, hj⟩ => R4.out.ne u (List.mem_of_mem_take hu) g3 hj rfl
              have c1 := (congrArg (fun z : Array Value => z[m]?) (FM.out.row (g := g3) (rowOf_lt (by obtain ⟨h, _⟩ := Array.getElem?_eq_some_iff.1 c0; omega)) hng)).trans c0
              have OB := (R4.out.el m hmu hmR).keep FM.out (fun j hj ⟨u, hu, hj2⟩ => by
                obtain ⟨x, hx, rfl⟩ := List.getElem_of_mem hu
                rw [List.length_take] at hx
                rw [List.getElem_take] at hj2
                exact List.pairwise_iff_getElem.1 R4.out.pw x m (by omega) hmu (by omega) j hj2 hj)
              have hbn : R[m].length + 1 ≤ 140737488355328 := by
                have h1 := recN_le_sumN (List.getElem_mem hmR)
                have h2 := OK.out.on.used
                have h3 := OK.out.on.d.ok.n1
                have h4 := recN_le (long := R[m].length)
                unfold DS.oSize at h2
                omega
              have TS := Lib.hid (show us3.take (m + 1) = us3.take m ++ [.slice ua l uc] by rw [List.take_succ_eq_append_getElem hmu, eu])
              rw [eu] at OB
              obtain ⟨x, hx⟩ : ∃ x, R[m] = x := ⟨_, rfl⟩
              rw [hx] at OB hbn
              have hxl : x.length = l := by
                obtain ⟨a', c', e⟩ := OB.shape
                simp only [Value.slice.injEq] at e; exact e.2.1.symm
              have OBH := Lib.hid (OB.weaken (Nat.zero_le _))
              rw [hxl] at hbn
              have HX := Lib.hid hxl
              clear OB hx hxl c0 eu hng
              go_wp2_with fail
              refine (scribble_any _ ua l uc x OBH.out HX.out hbn).mono ?_
              rintro e w6 ⟨rfl, f6⟩
              have F6 := Lib.hid (show Fr (fun j => ∃ u ∈ us3.take (m + 1), u.ownBlock = some j) w4 w6 from
                (FM.out.mono (fun i _ ⟨u, hu, hj⟩ => ⟨u, by rw [TS.out]; exact List.mem_append_left _ hu, hj⟩)).trans f6 (fun i _ e => ⟨_, by rw [TS.out]; exact List.mem_append_right _ (List.mem_singleton.2 rfl), e⟩))
              have T6 := Lib.hid (T4.out.calm F6.out (fun j ⟨u, hu, hj⟩ => NF3.out j (.inr ⟨u, List.mem_of_mem_take hu, hj⟩)))
              have SM := Lib.hid (show ∀ W, Fr (fun _ => False) w6 W → Calls Try.prog 51 #[.slice (if cv3 = m + 1 then some ⟨g3, 0, none⟩ else some ⟨g3, m + 1, none⟩) (nr - (m + 1)) (cv3 - (m + 1)), .slice (if cx = m + 1 then some ⟨gx, 0, none⟩ else some ⟨gx, m + 1, none⟩) (nr - (m + 1)) (cx - (m + 1))] W fun e w' => e = .returned (.bool true) ∧ Fr (fun _ => False) W w' from fun W f => by
                have h1 := R4.out.tail2 (m + 1) (by omega) F6.out
                have h2 := T6.out.rcs.tail2 (m + 1) (by omega) ((Fr.refl (fun _ => False) w6).mono (fun _ _ h => h.elim))
                have := same_any W _ _ _ _ (h1.keep0 f) (h2.keep0 f) (by rw [List.length_drop, HR.out]; omega)
                rw [decide_eq_true rfl] at this
                exact this)
              have hm1 : (m : Int) + 1 ≤ (nr : Int) := by omega
              have hm2 : (0 : Int) ≤ (m : Int) + 1 := by omega
              have hm3 : IntKind.i64.wrap ((m : Int) + 1) = (m : Int) + 1 := by rw [IntKind.wrap_i64]; omega
              have hm4 : (nr : Int) ≤ (cv3 : Int) := by omega
              have hm5 : (nr : Int) ≤ (cx : Int) := by omega
              have hm6 : m + 1 ≤ nr := by omega
              clear f6 c1 TS OBH HX hbn
              go_upto_region 28 with fail
              obtain ⟨oa, hoa⟩ : ∃ o, (if cv3 = m + 1 then some (⟨g3, 0, none⟩ : Addr) else some ⟨g3, m + 1, none⟩) = o := ⟨_, rfl⟩
              obtain ⟨ob, hob⟩ : ∃ o, (if cx = m + 1 then some (⟨gx, 0, none⟩ : Addr) else some ⟨gx, m + 1, none⟩) = o := ⟨_, rfl⟩
              rw [hoa, hob] at SM
              go_region_held3 (fun _ => True)
                (first | assumption | trivial)
                ((go_simp; go_at_call 51; with_reducible refine (SM.out _ (Fr.refl _ _).drew).mono ?_; rintro e w7 ⟨rfl, f7⟩; have F7 := Lib.hid ((Fr.refl (fun _ => False) w6).drew.trans f7 (fun _ _ h => h)); clear f7))
              all_goals
                go_wp2
                go_roundw
                case rel => exact ⟨m + 1, by omega, by go_num, Lib.hid (F6.out.trans F7.out (fun _ _ h => h.elim))⟩
                case measure => simp [intOf]; omega
            · obtain rfl : m = nr := by omega
              have T5 := Lib.hid (T4.out.calm FM.out (fun j ⟨u, hu, hj⟩ => NF3.out j (.inr ⟨u, List.mem_of_mem_take hu, hj⟩)))
              go_wp2
              go_roundw
              case rel => exact ⟨k2 + 1, _, _, _, _, by omega, by go_num, T5⟩
              case measure => simp [intOf]; omega
        · obtain rfl : k2 = 2 := by omega
          go_wp2
          go_ret
          exact ⟨rfl, OK.out.st.fr.below (Nat.le_refl _) (fun _ _ h => h)⟩

end Go.Proofs.Ytflnlpbcmcfblaa
