/-
  The walk of DiskOwn.
-/
import Derived.Test.YtflnlpbcmcfblaaArgs
namespace Go.Proofs.Ytflnlpbcmcfblaa
open Go.RowKit

/-- A disk of the call's own, in a world that the call has come to. -/
structure St (w wi : World) (p : DP) (S : DS) : Prop where
  fr : Fr (fun _ => False) w wi
  rep : DiskRep wi p S
  foot : ∀ k, p.foot k → w.heap.size ≤ k

theorem St.calm {w wi wj : World} {p : DP} {S : DS} (h : St w wi p S) {F : Nat → Prop} (f : Fr F wi wj) (hF : ∀ k, F k → w.heap.size ≤ k ∧ ¬ p.foot k) : St w wj p S :=
  ⟨h.fr.trans f (fun i hi e => by have := (hF i e).1; omega), h.rep.keep f (fun k hk e => (hF k e).2 hk), h.foot⟩
theorem St.move {w wi wj : World} {p p' : DP} {S S' : DS} (h : St w wi p S) (m : Moves p.foot p'.foot wi wj) (r : DiskRep wj p' S') : St w wj p' S' :=
  ⟨h.fr.trans m.fr (fun i hi e => by have := h.foot i e; omega), r, fun k hk => (m.new k hk).elim (h.foot k) (fun e => by have := h.fr.size; omega)⟩
theorem St.lt {w wi : World} {p : DP} {S : DS} (h : St w wi p S) {k : Nat} (hk : p.foot k) : k < wi.heap.size := live_lt (h.rep.live_foot hk)

theorem BytesAt.later {w w' : World} {v : Value} {b : List UInt8} (h : BytesAt w v b) (f : Fr (fun _ => False) w w') : BytesAt w' v b := by
  obtain ⟨a, cap, rfl, h | ⟨g, off, rfl, h1, h2⟩⟩ := h
  · exact ⟨a, cap, rfl, .inl h⟩
  · by_cases hb : b = []
    · exact ⟨_, cap, rfl, .inl hb⟩
    · have : 0 < b.length := List.length_pos_iff.2 hb
      have hg := f.row (rowOf_lt (w := w) (g := g) (by omega)) (fun h => h)
      exact ⟨_, cap, rfl, .inr ⟨g, off, rfl, by rw [hg]; exact h1, by rw [hg]; exact h2⟩⟩

theorem made_own (w : World) (n : Nat) (hm : n ≤ 140737488355340) : OwnBytes (w.alloc (.cells (Array.replicate n (.int .u8 0)) 5)) (.slice (some ⟨w.heap.size, 0, none⟩) 0 n) [] w.heap.size := by
  refine ⟨w.heap.size, List.replicate n 0, by simp, Nat.le_refl _, live_alloc_at _ _ _ _ rfl, by simp only [maxLen]; simp; omega, ?_⟩
  rw [rowOf_alloc_at _ _ _ _ _ rfl]
  simp [bvA, bv]

theorem own_writes (A B : List UInt8) : ((DS.new 2).write 0 A).1 = (if A.length = 64 then 0 else 21) ∧ (((DS.new 2).write 0 A).2.write 1 B).1 = (if B.length = 64 then 0 else 21) ∧
    (A.length = 64 → B.length = 64 → (((DS.new 2).write 0 A).2.write 1 B).2.pend = [(0, A), (1, B)] ∧ (((DS.new 2).write 0 A).2.write 1 B).2.off = false ∧ (((DS.new 2).write 0 A).2.write 1 B).2.pl = false ∧
      (((DS.new 2).write 0 A).2.write 1 B).2.data = [zeros64, zeros64] ∧ (((DS.new 2).write 0 A).2.write 1 B).2.torn = [false, false] ∧ (((DS.new 2).write 0 A).2.write 1 B).2.left = 0) := by
  by_cases hA : A.length = 64 <;> by_cases hB : B.length = 64 <;>
    simp [DS.write, DS.ready, readyI, DS.new, DS.goesB, goesB, DS.goes, goesOff, goesPl, goesLeft, hA, hB]

theorem PendRows.two {w : World} {v : Value} {n m : Int} {A B : List UInt8} {base : Nat} (h : PendRows w v [(n, A), (m, B)] base) :
    ∃ g cap u1 u2, v = .slice (some ⟨g, 0, none⟩) 2 cap ∧ (live w g = true ∧ base ≤ g ∧ (rowOf w g)[0]? = some (.int .i64 n) ∧ (rowOf w g)[1]? = some u1 ∧ (rowOf w g)[3]? = some u2) ∧
      OwnBytes w u1 A base ∧ OwnBytes w u2 B base ∧ u1.ownBlock ≠ some g ∧ u2.ownBlock ≠ some g ∧ u1.ownBlock ≠ u2.ownBlock := by
  obtain ⟨xs, h1, h2, h3, h4⟩ := h
  have hl : xs.length = 2 := h2
  rcases h1 with ⟨rfl, rfl⟩ | ⟨g, cap, rfl, b1, b2, ⟨b3, b3p⟩, b4, b5, b6⟩
  · simp at hl
  · obtain ⟨u1, e1, o1, d1⟩ := h3 0 (by omega) (by simp)
    obtain ⟨u2, e2, o2, d2⟩ := h3 1 (by omega) (by simp)
    have c0 := b6 0 (by omega)
    have c1 := b6 1 (by omega)
    rw [e1] at c0
    rw [e2] at c1
    have g0 := cut_get (cur := rowOf w g) (off := 0 * 2) (n := 2) (by omega) 0 (by omega)
    have g1 := cut_get (cur := rowOf w g) (off := 0 * 2) (n := 2) (by omega) 1 (by omega)
    have g3 := cut_get (cur := rowOf w g) (off := 1 * 2) (n := 2) (by omega) 1 (by omega)
    rw [c0] at g0 g1
    rw [c1] at g3
    refine ⟨g, cap, u1, u2, by rw [hl], ⟨b2, b1, by simpa using g0.symm, by simpa using g1.symm, by simpa using g3.symm⟩, o1, o2, d1, d2, ?_⟩
    exact h4 0 1 (by omega) (by omega) (by omega) u1 u2 (by rw [e1]; rfl) (by rw [e2]; rfl)

theorem build_at (w : World) (l : List UInt8) (c : Array Value) (hc : c = bvA l) : BytesAt (w.alloc (.cells c 5)) (.slice (some ⟨w.heap.size, 0, none⟩) l.length l.length) l := by
  subst hc
  have e : rowOf (w.alloc (.cells (bvA l) 5)) w.heap.size = bvA l := rowOf_alloc_at _ _ _ _ _ rfl
  refine ⟨_, _, rfl, .inr ⟨_, _, rfl, by rw [e, bvA_size]; omega, by rw [e]; exact cut_full _ _ (bvA_size l)⟩⟩

theorem own_reads {T : DS} {A B : List UInt8} (h1 : T.pend = [(0, A), (1, B)]) (h2 : T.off = false) (h3 : T.data = [zeros64, zeros64]) : T.read 0 = (0, some A) ∧ T.read 1 = (0, some B) := by
  constructor <;> simp [DS.read, DS.ready, readyI, h1, h2, h3, DS.lastOf]

theorem own_sync {T : DS} {A B : List UInt8} (h1 : T.pend = [(0, A), (1, B)]) (h2 : T.off = false) (h3 : T.pl = false) (h4 : T.data = [zeros64, zeros64]) (h5 : T.torn = [false, false]) :
    T.sync.1 = 0 ∧ T.sync.2.img = A ++ B ∧ T.sync.2.read 1 = (0, some B) := by
  refine ⟨?_, ?_, ?_⟩ <;>
    simp [DS.sync, DS.ready, readyI, DS.goesB, goesB, DS.goes, goesOff, goesPl, goesLeft, DS.layAll, DS.lay, DS.img, DS.chunks, shown, DS.read, DS.lastOf, h1, h2, h3, h4, h5]

theorem own_load {A B : List UInt8} (la : A.length = 64) (lb : B.length = 64) : (DS.load (A ++ B) []).read 0 = (0, some A) := by
  have e : (A ++ B).length / 64 = 2 := by simp [la, lb]
  have c0 : chunk (A ++ B) 0 = A := by simp [chunk, ← la]
  unfold DS.load
  rw [e]
  simp [DS.tearAll, DS.laidUpto, List.range_succ, DS.new, DS.lay, c0, DS.read, DS.ready, readyI, DS.lastOf]

set_option maxRecDepth 20000 in
set_option maxHeartbeats 4000000 in
theorem own_both (w : World) (a1 : Option Addr) (cap1 : Nat) (a2 : Option Addr) (cap2 : Nat) (A B : List UInt8) (ha : BytesAt w (.slice a1 A.length cap1) A) (hb : BytesAt w (.slice a2 B.length cap2) B)
    (la : A.length = 64) (lb : B.length = 64) :
    Calls Try.prog 4 #[.slice a1 A.length cap1, .slice a2 B.length cap2] w fun e w' => e = .returned (.bool true) ∧ Below w.heap.size w w' := by
  have HA := Lib.hid ha
  have HB := Lib.hid hb
  have LA := Lib.hid la
  have LB := Lib.hid lb
  rw [la, lb]
  clear ha hb la lb
  obtain ⟨qe1, qe2, qs⟩ := own_writes A B
  rw [LA.out, if_pos rfl] at qe1
  rw [LB.out, if_pos rfl] at qe2
  have QS := Lib.hid (qs LA.out LB.out)
  have QE1 := Lib.hid qe1
  have QE2 := Lib.hid qe2
  clear qs qe1 qe2
  go_enter Try.func4, Try.ntmps4
  go_wp2_with fail
  refine (new_ok w 2 (by omega) (by omega)).mono ?_
  rintro e w1 ⟨p, rfl, hr1, f1, hfr⟩
  have S1 := Lib.hid (show St w w1 p (DS.new 2) from ⟨f1, hr1, hfr⟩)
  clear hr1 f1 hfr
  go_wp2_with (at_builtin; first | (refine wpList_append_B rfl (.tmp 29) (.tmp 30) rfl (.slice (some ⟨w1.heap.size, 0, none⟩) 0 72) [] w1.heap.size rfl (.inr (made_own w1 72 (by omega))) (by simp) (.slice a1 64 cap1) A rfl (LA.out ▸ HA.out.later (S1.out.fr.alloc _)) (by simp [LA.out]) ?_; intro vx w3 hx3 f3 n3; have HX3 := Lib.hid hx3; have F3 := Lib.hid (((Fr.refl (fun i => some w1.heap.size = some i) w1).alloc _).trans f3 (fun _ _ h => h)); have N3 := Lib.hid n3; clear hx3 f3 n3) | (refine wpList_append_B rfl (.const (.slice none 0 0)) (.tmp 32) rfl (.slice none 0 0) [] w3.heap.size rfl (OwnB.nil _ _) (Nat.le_refl _) (.slice a2 64 cap2) B rfl (LB.out ▸ HB.out.later (S1.out.fr.trans F3.out (fun i hi e => by have := S1.out.fr.size; cases e; omega))) (by simp [LB.out]) ?_; intro vy w4 hy4 f4 n4; have HY4 := Lib.hid hy4; have F4 := Lib.hid f4; have N4 := Lib.hid n4; clear hy4 f4 n4))
  have S4 := Lib.hid ((S1.out.calm F3.out (fun k e => by cases e; exact ⟨S1.out.fr.size, fun hk => by have := S1.out.lt hk; omega⟩)).calm F4.out (fun k e => by cases e))
  have X4 := Lib.hid ((HX3.out.own (by simp [LA.out])).keep F4.out (fun k _ e => by cases e))
  have Y4 := Lib.hid (HY4.out.own (by simp [LB.out]))
  have hx0 : ∀ k, vx.ownBlock = some k → ¬ p.foot k := fun k hk hf => by have := (X4.out.lt hk).1; have := S1.out.lt hf; omega
  have hy0 : ∀ k, vy.ownBlock = some k → ¬ p.foot k := fun k hk hf => by have := (Y4.out.lt hk).1; have := S1.out.lt hf; have := F3.out.size; omega
  refine (write_any w4 p (DS.new 2) S4.out.rep 0 vx A X4.out.at_ hx0 (by simp [DS.new])).mono ?_
  rintro e w5 ⟨p5, hp5, rfl, r5, m5⟩
  rw [QE1.out, ← hp5]
  have S5 := Lib.hid (S4.out.move m5 r5)
  have X5 := Lib.hid (X4.out.keep m5.fr hx0)
  have Y5 := Lib.hid (Y4.out.keep m5.fr hy0)
  have hx5 : ∀ k, vx.ownBlock = some k → ¬ p5.foot k := fun k hk hf => (m5.new k hf).elim (hx0 k hk) (fun e => by have := (X4.out.lt hk).2; omega)
  have hy5 : ∀ k, vy.ownBlock = some k → ¬ p5.foot k := fun k hk hf => (m5.new k hf).elim (hy0 k hk) (fun e => by have := (Y4.out.lt hk).2; omega)
  clear r5 m5 hp5 hx0 hy0
  go_wp2_with fail
  refine (write_any w5 p5 _ S5.out.rep 1 vy B Y5.out.at_ hy5 (by simp [DS.write, DS.ready, readyI, DS.new, DS.goesB, goesB, DS.goes, LA.out])).mono ?_
  rintro e w6 ⟨p6, hp6, rfl, r6, m6⟩
  rw [QE2.out, ← hp6]
  have S6 := Lib.hid (S5.out.move m6 r6)
  have X6 := Lib.hid (X5.out.keep m6.fr hx5)
  have Y6 := Lib.hid (Y5.out.keep m6.fr hy5)
  have hx6 : ∀ k, vx.ownBlock = some k → ¬ p6.foot k := fun k hk hf => (m6.new k hf).elim (hx5 k hk) (fun e => by have := (X5.out.lt hk).2; omega)
  have hy6 : ∀ k, vy.ownBlock = some k → ¬ p6.foot k := fun k hk hf => (m6.new k hf).elim (hy5 k hk) (fun e => by have := (Y5.out.lt hk).2; omega)
  have hxy : vx.ownBlock ≠ vy.ownBlock := fun e => by
    obtain ⟨k, hk⟩ : ∃ k, vy.ownBlock = some k := by obtain ⟨g, ext, e2, _⟩ := Y4.out; exact ⟨g, by rw [e2]; rfl⟩
    have := (Y4.out.lt hk).1
    have := (HX3.out.lt (e.trans hk)).2
    omega
  clear r6 m6 hp6 hx5 hy5
  obtain ⟨T, hT⟩ : ∃ T, (((DS.new 2).write 0 A).2.write 1 B).2 = T := ⟨_, rfl⟩
  rw [hT] at S6 QS
  clear hT
  go_wp2_with fail
  refine (spoil_any w6 vx A _ X6.out).mono ?_
  rintro e w7 ⟨rfl, f7⟩
  have S7 := Lib.hid (S6.out.calm f7 (fun k hk => ⟨by have := (X6.out.lt hk).1; have := S1.out.fr.size; omega, hx6 k hk⟩))
  have Y7 := Lib.hid (Y6.out.keep f7 (fun k hk e => hxy (e.trans hk.symm)))
  clear f7
  go_wp2_with fail
  refine (spoil_any w7 vy B _ Y7.out).mono ?_
  rintro e w8 ⟨rfl, f8⟩
  have S8 := Lib.hid (S7.out.calm f8 (fun k hk => ⟨by have := (Y7.out.lt hk).1; have := S1.out.fr.size; have := F3.out.size; omega, hy6 k hk⟩))
  clear f8 hx6 hy6 hxy
  go_wp2_with fail
  refine (pending_any w8 p6 T S8.out.rep (by rw [QS.out.1]; simp)).mono ?_
  rintro e w9 ⟨vp, rfl, hp9, f9⟩
  have S9 := Lib.hid (S8.out.calm f9 (fun k hk => hk.elim))
  rw [QS.out.1] at hp9
  obtain ⟨gp, capp, u1, u2, rfl, ⟨lgp, bgp, r0, r1, r3⟩, o1, o2, d1, d2, d3⟩ := PendRows.two hp9
  have O1 := Lib.hid o1
  have O2 := Lib.hid o2
  clear hp9 f9 o1 o2
  have AA9 := Lib.hid (LA.out ▸ HA.out.later S9.out.fr)
  have BB9 := Lib.hid (LB.out ▸ HB.out.later S9.out.fr)
  go_wp2_with fail
  refine (alike_any w9 u1 (.slice a1 64 cap1) A A O1.out.at_ AA9.out).mono ?_
  rintro e w' ⟨rfl, rfl⟩
  rw [decide_eq_true (rfl : A = A)]
  go_wp2_with fail
  refine (alike_any w9 u2 (.slice a2 64 cap2) B B O2.out.at_ BB9.out).mono ?_
  rintro e w' ⟨rfl, rfl⟩
  rw [decide_eq_true (rfl : B = B)]
  go_wp2_with fail
  refine (spoil_any w9 u1 A _ O1.out).mono ?_
  rintro e w10 ⟨rfl, f10⟩
  have hlv8 := S8.out.fr.size
  have S10 := Lib.hid (S9.out.calm f10 (fun k hk => ⟨by have := (O1.out.lt hk).1; omega, fun hf => by have := (O1.out.lt hk).1; have := S8.out.lt hf; omega⟩))
  have hgp9 := live_lt lgp
  have rg10 := f10.row hgp9 d1
  have lg10 : live w10 gp = true := (f10.liv hgp9 d1).trans lgp
  have t3 : (rowOf w10 gp)[3]? = some u2 := by rw [rg10]; exact r3
  have P10 := Lib.hid (show (rowOf w10 gp)[0]? = some (.int .i64 0) by rw [rg10]; exact r0)
  have O210 := Lib.hid (O2.out.keep f10 (fun k hk e => d3 (e.trans hk.symm)))
  have hgp10 := live_lt lg10
  have hsz10 := f10.size
  clear r0 r1 r3 rg10 lgp f10 hgp9
  go_wp2_with (at_builtin; refine wpList_append_B rfl (.tmp 95) (.tmp 96) rfl u2 B w8.heap.size rfl (.inr (O210.out.keep ((Fr.refl (fun _ => False) w10).alloc _) (fun _ _ h => h))) (by simp; have := S8.out.lt (k := p6.d) (.inl rfl); have := (O210.out.lt (k := gp)); omega) (.slice (some ⟨w10.heap.size, 0, none⟩) 3 3) [1, 2, 3] rfl (build_at w10 [1, 2, 3] _ rfl) (by simp [LB.out]) ?_; intro vz w11 hz11 f11 n11; have HZ11 := Lib.hid hz11; have F11 := Lib.hid (((Fr.refl (fun i => u2.ownBlock = some i) w10).alloc _).trans f11 (fun _ _ h => h)); have N11 := Lib.hid n11; clear hz11 f11 n11)
  have S11 := Lib.hid (S10.out.calm F11.out (fun k hk => ⟨by have := (O210.out.lt hk).1; omega, fun hf => by have := (O210.out.lt hk).1; have := S8.out.lt hf; omega⟩))
  have Z11 := Lib.hid (HZ11.out.own (by simp))
  have hsz11 := F11.out.size
  refine (spoil_any w11 vz _ _ Z11.out).mono ?_
  rintro e w12 ⟨rfl, f12⟩
  have S12 := Lib.hid (S11.out.calm f12 (fun k hk => ⟨by have := (Z11.out.lt hk).1; omega, fun hf => by have := (Z11.out.lt hk).1; have := S8.out.lt hf; omega⟩))
  have hzg : vz.ownBlock ≠ some gp := fun e => (N11.out gp e).elim d2 (fun h => by simp only [World.size_alloc] at h; omega)
  have lg12 : live w12 gp = true := (f12.liv (by omega) hzg).trans ((F11.out.liv hgp10 d2).trans lg10)
  have t0 : (rowOf w12 gp)[0]? = some (.int .i64 0) := by rw [f12.row (by omega) hzg, F11.out.row hgp10 d2]; exact P10.out
  have S13 := Lib.hid (S12.out.calm ((Fr.refl (fun i => i = gp) w12).setRow gp ((rowOf w12 gp).setIfInBounds 0 (.int .i64 77)) (fun _ => rfl)) (fun k hk => by subst hk; exact ⟨by omega, fun hf => by have := S8.out.lt hf; omega⟩))
  have hgpl := live_lt lg12
  clear f12 t3 lg10 hzg
  have RD := Lib.hid (own_reads QS.out.1 QS.out.2.1 QS.out.2.2.2.1)
  go_wp2_with fail
  obtain ⟨w13, hw13⟩ : ∃ w13, w12.setRow gp ((rowOf w12 gp).setIfInBounds 0 (.int .i64 77)) = w13 := ⟨_, rfl⟩
  rw [hw13] at S13 ⊢
  clear hw13 t0 lg12
  refine (read_any w13 p6 T S13.out.rep 0).mono ?_
  rintro e w14 ⟨vr, rfl, hr14, f14⟩
  rw [RD.out.1] at hr14 ⊢
  have R14 := Lib.hid (show OwnBytes w14 vr A w13.heap.size from hr14)
  have S14 := Lib.hid (S13.out.calm f14 (fun k hk => hk.elim))
  clear hr14 f14
  go_wp2_with fail
  refine (read_any w14 p6 T S14.out.rep 1).mono ?_
  rintro e w15 ⟨vs, rfl, hs15, f15⟩
  rw [RD.out.2] at hs15 ⊢
  have Q15 := Lib.hid (show OwnBytes w15 vs B w14.heap.size from hs15)
  have S15 := Lib.hid (S14.out.calm f15 (fun k hk => hk.elim))
  have R15 := Lib.hid (R14.out.keep f15 (fun k _ h => h))
  have A15 := Lib.hid (LA.out ▸ HA.out.later S15.out.fr)
  have B15 := Lib.hid (LB.out ▸ HB.out.later S15.out.fr)
  have hrs : vr.ownBlock ≠ vs.ownBlock := fun e => by
    obtain ⟨k, hk⟩ : ∃ k, vs.ownBlock = some k := by obtain ⟨g, ext, e2, _⟩ := Q15.out; exact ⟨g, by rw [e2]; rfl⟩
    have := (Q15.out.lt hk).1
    have := (R14.out.lt (e.trans hk)).2
    omega
  clear hs15 f15
  go_wp2_with fail
  refine (alike_any w15 vr (.slice a1 64 cap1) A A R15.out.at_ A15.out).mono ?_
  rintro e w' ⟨rfl, rfl⟩
  rw [decide_eq_true (rfl : A = A)]
  go_wp2_with fail
  refine (alike_any w15 vs (.slice a2 64 cap2) B B Q15.out.at_ B15.out).mono ?_
  rintro e w' ⟨rfl, rfl⟩
  rw [decide_eq_true (rfl : B = B)]
  go_wp2_with fail
  have hlv := S13.out.fr.size
  refine (spoil_any w15 vr A _ R15.out).mono ?_
  rintro e w16 ⟨rfl, f16⟩
  have hsz15 := S15.out.fr.size
  have S16 := Lib.hid (S15.out.calm f16 (fun k hk => ⟨by have := (R15.out.lt hk).1; omega, fun hf => by have := (R15.out.lt hk).1; have := S13.out.lt hf; omega⟩))
  have Q16 := Lib.hid (Q15.out.keep f16 (fun k hk e => hrs (e.trans hk.symm)))
  have hsz14 := S14.out.fr.size
  have hbs16 : w14.heap.size ≤ w16.heap.size := by
    obtain ⟨g, ext, e2, _⟩ := Q16.out
    have h := Q16.out.lt (k := g) (by rw [e2]; rfl)
    omega
  clear f16 hrs
  go_wp2_with (at_builtin; refine wpList_append_B rfl (.tmp 132) (.tmp 133) rfl vs B w14.heap.size rfl (.inr (Q16.out.keep ((Fr.refl (fun _ => False) w16).alloc _) (fun _ _ h => h))) (by simp; omega) (.slice (some ⟨w16.heap.size, 0, none⟩) 1 1) [9] rfl (build_at w16 [9] _ rfl) (by simp [LB.out]) ?_; intro vz2 w17 hz17 f17 n17; have HZ17 := Lib.hid hz17; have F17 := Lib.hid (((Fr.refl (fun i => vs.ownBlock = some i) w16).alloc _).trans f17 (fun _ _ h => h)); clear hz17 f17 n17)
  have hlt14 : ∀ k, p6.foot k → k < w14.heap.size := fun k hk => S14.out.lt hk
  have S17 := Lib.hid (S16.out.calm F17.out (fun k hk => ⟨by have := (Q16.out.lt hk).1; omega, fun hf => by have := (Q16.out.lt hk).1; have := hlt14 k hf; omega⟩))
  have Z17 := Lib.hid (HZ17.out.own (by simp))
  refine (spoil_any w17 vz2 _ _ Z17.out).mono ?_
  rintro e w18 ⟨rfl, f18⟩
  have S18 := Lib.hid (S17.out.calm f18 (fun k hk => ⟨by have := (Z17.out.lt hk).1; omega, fun hf => by have := (Z17.out.lt hk).1; have := hlt14 k hf; omega⟩))
  clear f18
  obtain ⟨sy1, sy2, sy3⟩ := own_sync QS.out.1 QS.out.2.1 QS.out.2.2.1 QS.out.2.2.2.1 QS.out.2.2.2.2.1
  have SY2 := Lib.hid sy2
  have SY3 := Lib.hid sy3
  have SY1 := Lib.hid sy1
  clear sy1 sy2 sy3
  go_wp2_with fail
  refine (sync_any w18 p6 T S18.out.rep).mono ?_
  rintro e w19 ⟨p7, hp7, rfl, r19, m19⟩
  rw [SY1.out, ← hp7]
  have S19 := Lib.hid (S18.out.move m19 r19)
  clear r19 m19 hp7
  obtain ⟨U, hU⟩ : ∃ U, T.sync.2 = U := ⟨_, rfl⟩
  rw [hU] at S19 SY2 SY3
  clear hU
  go_wp2_with fail
  refine (image_any w19 p7 U S19.out.rep).mono ?_
  rintro e w20 ⟨vi, vt, rfl, hi20, -, -, f20⟩
  rw [SY2.out] at hi20
  have I20 := Lib.hid hi20
  have S20 := Lib.hid (S19.out.calm f20 (fun k hk => hk.elim))
  have A20 := Lib.hid (LA.out ▸ HA.out.later S20.out.fr)
  clear hi20 f20
  go_wp2_with (at_builtin; first | (refine wpList_append_B rfl (.const (.slice none 0 0)) (.tmp 145) rfl (.slice none 0 0) [] w20.heap.size rfl (OwnB.nil _ _) (Nat.le_refl _) (.slice a1 64 cap1) A rfl A20.out (by simp [LA.out]) ?_; intro va1 w21 ha21 f21 n21; have HA21 := Lib.hid ha21; have F21 := Lib.hid f21; clear ha21 f21 n21) | (refine wpList_append_B rfl (.tmp 146) (.tmp 147) rfl va1 ([] ++ A) w20.heap.size rfl HA21.out F21.out.size (.slice a2 64 cap2) B rfl (LB.out ▸ HB.out.later (S20.out.fr.trans F21.out (fun i hi e => by cases e))) (by simp [LA.out, LB.out]) ?_; intro va2 w22 ha22 f22 n22; have HA22 := Lib.hid ha22; have F22 := Lib.hid f22; clear ha22 f22 n22))
  have hs20 := S20.out.fr.size
  have S22 := Lib.hid ((S20.out.calm F21.out (fun k e => by cases e)).calm F22.out (fun k hk => ⟨by have := (HA21.out.lt hk).1; omega, fun hf => by have := (HA21.out.lt hk).1; have := S20.out.lt hf; omega⟩))
  have I22 := Lib.hid ((I20.out.keep F21.out (fun k _ e => by cases e)).keep F22.out (fun k hk e => by have := (HA21.out.lt e).1; have := (I20.out.lt hk).2; omega))
  refine (alike_any w22 vi va2 (A ++ B) ([] ++ A ++ B) I22.out.at_ HA22.out.at_).mono ?_
  rintro e w' ⟨rfl, rfl⟩
  rw [decide_eq_true (show A ++ B = [] ++ A ++ B from rfl)]
  go_wp2_with fail
  refine (spoil_any w22 vi (A ++ B) _ I22.out).mono ?_
  rintro e w23 ⟨rfl, f23⟩
  have hs19 := S19.out.fr.size
  have S23 := Lib.hid (S22.out.calm f23 (fun k hk => ⟨by have := (I22.out.lt hk).1; omega, fun hf => by have := (I22.out.lt hk).1; have := S19.out.lt hf; omega⟩))
  clear f23
  go_wp2_with fail
  refine (image_any w23 p7 U S23.out.rep).mono ?_
  rintro e w24 ⟨vj, vt2, rfl, hj24, -, -, f24⟩
  rw [SY2.out] at hj24
  have S24 := Lib.hid (S23.out.calm f24 (fun k hk => hk.elim))
  have J24 := Lib.hid hj24
  obtain ⟨gj, extj, rfl, j1, j2, j3, j4⟩ := hj24
  have hl128 : (A ++ B).length = 2 * 64 := by simp [LA.out, LB.out]
  clear f24
  have hjx : 0 + (A ++ B).length ≤ (rowOf w24 gj).size := by rw [j4, bvA_size]; simp
  have hjc : cut (rowOf w24 gj) 0 (A ++ B).length = bvA (A ++ B) := by
    rw [j4]
    refine cut_ext (bvA_size _) (by rw [bvA_size]; simp) (fun i hi => ?_)
    rw [bvA_get, bvA_get, Nat.zero_add, List.getElem?_append_left hi]
  have LD := Lib.hid (load_ok w24 gj 0 ((A ++ B).length + extj.length) (A ++ B) (.slice none 0 0) [] 2 hl128 (by omega) (by omega) (by omega) hjx hjc ⟨none, 0, rfl, by simp, .inl rfl⟩ (by simp))
  clear hjx hjc hl128 j1 j2 j3 j4
  obtain ⟨L, hL⟩ : ∃ L, (A ++ B).length = L := ⟨_, rfl⟩
  obtain ⟨C, hC⟩ : ∃ C, L + extj.length = C := ⟨_, rfl⟩
  rw [hL] at J24 LD ⊢
  rw [hC] at J24 LD ⊢
  clear hL hC
  go_wp2_with fail
  refine LD.out.mono ?_
  rintro e w25 ⟨p8, rfl, r25, f25, hf25⟩
  have S25 := Lib.hid (S24.out.calm f25 (fun k hk => hk.elim))
  have hs24 := S24.out.fr.size
  have C25 := Lib.hid (show St w w25 p8 (DS.load (A ++ B) []) from ⟨S25.out.fr, r25, fun k hk => by have := hf25 k hk; omega⟩)
  have J25 := Lib.hid (J24.out.keep f25 (fun k _ h => h))
  have HF25 := Lib.hid hf25
  clear r25 f25 hf25
  go_wp2_with fail
  refine (spoil_any w25 _ (A ++ B) _ J25.out).mono ?_
  rintro e w26 ⟨rfl, f26⟩
  have hs23 := S23.out.fr.size
  have S26 := Lib.hid (S25.out.calm f26 (fun k hk => ⟨by have := (J24.out.lt hk).1; omega, fun hf => by have := (J24.out.lt hk).1; have := S23.out.lt hf; omega⟩))
  have C26 := Lib.hid (C25.out.calm f26 (fun k hk => ⟨by have := (J24.out.lt hk).1; omega, fun hf => by have := (J24.out.lt hk).2; have := HF25.out k hf; omega⟩))
  clear f26
  go_wp2_with fail
  refine (read_any w26 p8 _ C26.out.rep 0).mono ?_
  rintro e w27 ⟨vr2, rfl, hr27, f27⟩
  rw [own_load LA.out LB.out] at hr27 ⊢
  have R27 := Lib.hid (show OwnBytes w27 vr2 A w26.heap.size from hr27)
  have S27 := Lib.hid (S26.out.calm f27 (fun k hk => hk.elim))
  clear hr27 f27
  go_wp2_with fail
  refine (read_any w27 p7 _ S27.out.rep 1).mono ?_
  rintro e w28 ⟨vs2, rfl, hr28, f28⟩
  rw [SY3.out] at hr28 ⊢
  have Q28 := Lib.hid (show OwnBytes w28 vs2 B w27.heap.size from hr28)
  have R28 := Lib.hid (R27.out.keep f28 (fun k _ h => h))
  have S28 := Lib.hid (S27.out.calm f28 (fun k hk => hk.elim))
  have A28 := Lib.hid (LA.out ▸ HA.out.later S28.out.fr)
  have B28 := Lib.hid (LB.out ▸ HB.out.later S28.out.fr)
  clear hr28 f28
  go_wp2_with fail
  refine (alike_any w28 vr2 (.slice a1 64 cap1) A A R28.out.at_ A28.out).mono ?_
  rintro e w' ⟨rfl, rfl⟩
  rw [decide_eq_true (rfl : A = A)]
  go_wp2_with fail
  refine (alike_any w28 vs2 (.slice a2 64 cap2) B B Q28.out.at_ B28.out).mono ?_
  rintro e w' ⟨rfl, rfl⟩
  rw [decide_eq_true (rfl : B = B)]
  go_wp2
  go_ret
  exact ⟨rfl, S28.out.fr.below (Nat.le_refl _) (fun _ _ h => h)⟩

set_option maxRecDepth 20000 in
set_option maxHeartbeats 4000000 in
theorem own_early (w : World) (a1 : Option Addr) (cap1 : Nat) (a2 : Option Addr) (cap2 : Nat) (A B : List UInt8) (ha : BytesAt w (.slice a1 A.length cap1) A) (hb : BytesAt w (.slice a2 B.length cap2) B)
    (ra : A.length ≤ 140737488351232) (rb : B.length ≤ 140737488351232) (hno : ¬ (A.length = 64 ∧ B.length = 64)) :
    Calls Try.prog 4 #[.slice a1 A.length cap1, .slice a2 B.length cap2] w fun e w' => e = .returned (.bool true) ∧ Below w.heap.size w w' := by
  have HA := Lib.hid ha
  have HB := Lib.hid hb
  clear ha hb
  obtain ⟨qe1, qe2, -⟩ := own_writes A B
  have QE1 := Lib.hid qe1
  have QE2 := Lib.hid qe2
  have pl1 : ((DS.new 2).write 0 A).2.pend.length ≤ 2199023255552 := by
    by_cases hA : A.length = 64 <;> simp [DS.write, DS.ready, readyI, DS.new, DS.goesB, goesB, DS.goes, hA]
  have PL1 := Lib.hid pl1
  clear qe1 qe2 pl1
  obtain ⟨la, hla⟩ : ∃ n, A.length = n := ⟨_, rfl⟩
  obtain ⟨lb, hlb⟩ : ∃ n, B.length = n := ⟨_, rfl⟩
  rw [hla, hlb] at hno
  rw [hla] at ra QE1 HA ⊢
  rw [hlb] at rb QE2 HB ⊢
  obtain ⟨qa, hqa⟩ : ∃ q : Int, (if la = 64 then 0 else 21) = q := ⟨_, rfl⟩
  obtain ⟨qb, hqb⟩ : ∃ q : Int, (if lb = 64 then 0 else 21) = q := ⟨_, rfl⟩
  rw [hqa] at QE1
  rw [hqb] at QE2
  have HQA := Lib.hid hqa
  have HQB := Lib.hid hqb
  clear hqa hqb
  have LA := Lib.hid hla
  have LB := Lib.hid hlb
  have hc0 : 0 ≤ (la : Int) + 8 := by omega
  have hc1 : (la : Int) + 8 ≤ 140737488355340 := by omega
  have hc2 : ¬ (la : Int) + 8 = 0 := by omega
  have hc3 : ((la : Int) + 8).toNat = la + 8 := by omega
  clear hla hlb
  go_enter Try.func4, Try.ntmps4
  go_wp2_with fail
  refine (new_ok w 2 (by omega) (by omega)).mono ?_
  rintro e w1 ⟨p, rfl, hr1, f1, hfr⟩
  have S1 := Lib.hid (show St w w1 p (DS.new 2) from ⟨f1, hr1, hfr⟩)
  clear hr1 f1 hfr
  go_wp2_with (at_builtin; first | (refine wpList_append_B rfl (.tmp 29) (.tmp 30) rfl (.slice (some ⟨w1.heap.size, 0, none⟩) 0 (la + 8)) [] w1.heap.size rfl (.inr (made_own w1 (la + 8) (by omega))) (by simp) (.slice a1 la cap1) A rfl (HA.out.later (S1.out.fr.alloc _)) (by simp [LA.out]; omega) ?_; intro vx w3 hx3 f3 n3; have HX3 := Lib.hid hx3; have F3 := Lib.hid (((Fr.refl (fun i => some w1.heap.size = some i) w1).alloc _).trans f3 (fun _ _ h => h)); have N3 := Lib.hid n3; clear hx3 f3 n3) | (refine wpList_append_B rfl (.const (.slice none 0 0)) (.tmp 32) rfl (.slice none 0 0) [] w3.heap.size rfl (OwnB.nil _ _) (Nat.le_refl _) (.slice a2 lb cap2) B rfl (HB.out.later (S1.out.fr.trans F3.out (fun i hi e => by have := S1.out.fr.size; cases e; omega))) (by simp [LB.out]; omega) ?_; intro vy w4 hy4 f4 n4; have HY4 := Lib.hid hy4; have F4 := Lib.hid f4; have N4 := Lib.hid n4; clear hy4 f4 n4))
  clear hc0 hc1 hc2 hc3 ra rb
  have S4 := Lib.hid ((S1.out.calm F3.out (fun k e => by cases e; exact ⟨S1.out.fr.size, fun hk => by have := S1.out.lt hk; omega⟩)).calm F4.out (fun k e => by cases e))
  have X4 := Lib.hid (HX3.out.keep F4.out (fun k _ e => by cases e))
  have Y4 := Lib.hid (show OwnB w4 vy B w3.heap.size from HY4.out)
  have hx0 : ∀ k, vx.ownBlock = some k → ¬ p.foot k := fun k hk hf => by have := (X4.out.lt hk).1; have := S1.out.lt hf; omega
  have hy0 : ∀ k, vy.ownBlock = some k → ¬ p.foot k := fun k hk hf => by have := (Y4.out.lt hk).1; have := S1.out.lt hf; have := F3.out.size; omega
  refine (write_any w4 p (DS.new 2) S4.out.rep 0 vx A X4.out.at_ hx0 (by simp [DS.new])).mono ?_
  rintro e w5 ⟨p5, hp5, rfl, r5, m5⟩
  rw [QE1.out, ← hp5]
  have S5 := Lib.hid (S4.out.move m5 r5)
  have Y5 := Lib.hid (Y4.out.keep m5.fr hy0)
  have hy5 : ∀ k, vy.ownBlock = some k → ¬ p5.foot k := fun k hk hf => (m5.new k hf).elim (hy0 k hk) (fun e => by have := (Y4.out.lt hk).2; omega)
  clear r5 m5 hp5 hx0 hy0
  go_wp2_with fail
  refine (write_any w5 p5 _ S5.out.rep 1 vy B Y5.out.at_ hy5 PL1.out).mono ?_
  rintro e w6 ⟨p6, hp6, rfl, r6, m6⟩
  rw [QE2.out, ← hp6]
  have S6 := Lib.hid (S5.out.move m6 r6)
  clear r6 m6 hp6 hy5
  have hqa := HQA.out
  have hqb := HQB.out
  by_cases hA : la = 64
  · have hB : ¬ (lb = 64) := fun h => hno ⟨hA, h⟩
    rw [if_pos hA] at hqa
    rw [if_neg hB] at hqb
    subst hA hqa hqb
    clear hno
    go_wp2
    go_ret
    exact ⟨rfl, S6.out.fr.below (Nat.le_refl _) (fun _ _ h => h)⟩
  · rw [if_neg hA] at hqa
    by_cases hB : lb = 64
    · rw [if_pos hB] at hqb
      subst hB hqa hqb
      clear hno
      go_wp2
      go_ret
      exact ⟨rfl, S6.out.fr.below (Nat.le_refl _) (fun _ _ h => h)⟩
    · rw [if_neg hB] at hqb
      have hA2 : ((la : Int) == 64) = false := by simp; omega
      have hB2 : ((lb : Int) == 64) = false := by simp; omega
      subst hqa hqb
      clear hno hA hB
      go_wp2
      go_ret
      exact ⟨by first | rfl | simp [hA2, hB2], S6.out.fr.below (Nat.le_refl _) (fun _ _ h => h)⟩

theorem own_any (w : World) (a1 : Option Addr) (cap1 : Nat) (a2 : Option Addr) (cap2 : Nat) (A B : List UInt8) (ha : BytesAt w (.slice a1 A.length cap1) A) (hb : BytesAt w (.slice a2 B.length cap2) B)
    (ra : A.length ≤ 140737488351232) (rb : B.length ≤ 140737488351232) :
    Calls Try.prog 4 #[.slice a1 A.length cap1, .slice a2 B.length cap2] w fun e w' => e = .returned (.bool true) ∧ Below w.heap.size w w' := by
  by_cases h : A.length = 64 ∧ B.length = 64
  · exact own_both w a1 cap1 a2 cap2 A B ha hb h.1 h.2
  · exact own_early w a1 cap1 a2 cap2 A B ha hb ra rb h

/-- What the walk is told of a slice of integers that came in. -/
abbrev Came (k : IntKind) (w : World) (a : Option Addr) (len cap : Nat) (zs : List Int) : Prop :=
  (a = none ∧ len = 0 ∧ cap = 0 ∧ zs = []) ∨
  ∃ x, a = some x ∧ len ≤ cap ∧ cap ≤ maxLen ∧ zs.length = cap ∧ (∀ i, i < zs.length → w.cell? (x.add i) = some (.int k (zs.getD i 0))) ∧ ∀ n ∈ zs, (Lit.int k n).wf = true

theorem Came.le {k : IntKind} {w : World} {a : Option Addr} {len cap : Nat} {zs : List Int} (h : Came k w a len cap zs) : len ≤ cap := by
  rcases h with ⟨_, rfl, rfl, _⟩ | ⟨x, _, h, _⟩
  · exact Nat.le_refl _
  · exact h

theorem own_args (w : World) (a0 : Option Addr) (len0 cap0 : Nat) (z0 : List Int) (a1 : Option Addr) (len1 cap1 : Nat) (z1 : List Int) (w0 : Came .u8 w a0 len0 cap0 z0) (w1 : Came .u8 w a1 len1 cap1 z1)
    (r0 : cap0 * 1 ≤ 140737488351232) (r1 : cap1 * 1 ≤ 140737488351232) :
    Calls Try.prog 4 #[.slice a0 len0 cap0, .slice a1 len1 cap1] w fun e w' => e = .returned (.bool true) ∧ Below w.heap.size w w' := by
  have l0 := w0.le
  have l1 := w1.le
  obtain ⟨A, rfl, hA⟩ := bytes_of_row w0
  obtain ⟨B, rfl, hB⟩ := bytes_of_row w1
  exact own_any w a0 cap0 a1 cap1 A B hA hB (by omega) (by omega)

end Go.Proofs.Ytflnlpbcmcfblaa
