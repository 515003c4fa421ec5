/-
  The reference of package disk: Write, where it writes.
-/
import Derived.Test.YtflnlpbcmcfblaaRef4
namespace Go.Proofs.Ytflnlpbcmcfblaa
open Go.RowKit

/-- The rows of a slice copied afresh. -/
theorem copied_rows {w w' : World} {gx cx : Nat} {xs : List (Array Value)} {size base : Nat} (h : OwnRows w (.slice (some ⟨gx, 0, none⟩) xs.length cx) size xs 0) {g cap : Nat} {cur : Array Value} (hb : base ≤ g) (hg : live w' g = true) (hr : rowOf w' g = cur)
    (h1 : xs.length ≤ cap) (h2 : cap ≤ maxLen) (h3 : cur.size = cap * size) (h4 : cut cur 0 (xs.length * size) = cut (rowOf w gx) 0 (xs.length * size)) : OwnRows w' (.slice (some ⟨g, 0, none⟩) xs.length cap) size xs base := by
  rcases h with ⟨h, _⟩ | ⟨g', cap', h, b1, b2, ⟨b3, b3p⟩, b4, b5, b6⟩
  · cases h
  · simp only [Value.slice.injEq, Option.some.injEq, Addr.mk.injEq, and_true, true_and] at h
    obtain ⟨rfl, rfl⟩ := h
    have hm := Nat.mul_le_mul_right size h1
    have hm2 := Nat.mul_le_mul_right size b3
    refine .inr ⟨g, cap, rfl, hb, hg, ⟨h1, b3p⟩, h2, by rw [hr]; exact h3, fun i hi => ?_⟩
    have hi2 : i * size + size ≤ xs.length * size := by have := Nat.mul_le_mul_right size hi; rw [Nat.succ_mul] at this; exact this
    rw [← b6 i hi, hr]
    refine cut_ext (cut_size (by omega)) (by omega) (fun q hq => ?_)
    rw [cut_get (by omega) q hq]
    have e1 := cut_get (cur := cur) (off := 0) (n := xs.length * size) (by omega) (i * size + q) (by omega)
    have e2 := cut_get (cur := rowOf w gx) (off := 0) (n := xs.length * size) (by omega) (i * size + q) (by omega)
    rw [Nat.zero_add] at e1 e2
    rw [← e1, ← e2, h4]

theorem OwnRows.weaken {w : World} {v : Value} {size : Nat} {xs : List (Array Value)} {base base' : Nat} (h : OwnRows w v size xs base) (hb : base' ≤ base) : OwnRows w v size xs base' := by
  rcases h with h | ⟨g, cap, h0, h1, h2⟩
  · exact .inl h
  · exact .inr ⟨g, cap, h0, by omega, h2⟩

/-- The waiting writes and the counts written anew. -/
theorem RRep.waitPut {w : World} {f f' : Nat → Prop} {r gd gt : Nat} {S S' : DS} (h : RRep w f r gd gt S) {cd ct : Nat} {wv' : Value} {wr' sy' : Int}
    (hd : S'.data = S.data) (ht : S'.torn = S.torn) (hok : S'.Ok) (ho : S'.off = S.off) (hl : refLeft S' = refLeft S) (hw : S'.wr = wr') (hs : S'.sy = sy') (hff : ∀ k, f k → f' k) (hlt : ∀ k, f' k → k < w.heap.size)
    (hwt : WaitRows w f' r gd gt wv' (pendI S'.pend)) :
    RRep (w.setRow r #[.bool true, .bool S.off, .int .i64 (refLeft S), .slice (some ⟨gd, 0, none⟩) S.data.length cd, .slice (some ⟨gt, 0, none⟩) S.data.length ct, wv', .int .i64 wr', .int .i64 sy']) f' r gd gt S' := by
  subst hw hs
  have hf : ∀ c, Fr (fun k => k = r) w (w.setRow r c) := fun c => (Fr.refl (fun k => k = r) w).setRow r c (fun _ => rfl)
  have hch : S'.chunks = S.chunks := by unfold DS.chunks; rw [hd, ht]
  have nd : gd ≠ r := fun e => h.n1 e.symm
  have nt : gt ≠ r := fun e => h.n2 e.symm
  refine ⟨hok, ⟨cd, ct, wv', by rw [rowOf_setRow_same _ _ _ h.lr, ho, hl, hd], hwt.keep (hf _) (fun k _ hk _ _ => hk) (fun _ h => h)⟩, by rw [live_setRow]; exact h.lr, by rw [live_setRow]; exact h.ld, by rw [live_setRow]; exact h.lt,
    fun i hi => ?_, fun i hi => ?_, hff _ h.fr, hff _ h.fd, hff _ h.ft, h.n1, h.n2, h.n3, fun k hk => by have := hlt k hk; simpa using this⟩
  · simp only [hch] at hi ⊢
    obtain ⟨u, a1, a2, a3⟩ := h.data i hi
    exact ⟨u, by rw [rowOf_setRow_ne _ _ _ _ nd]; exact a1, a2.keep (hf _) (fun k hk => (a3 k hk).2.1), a3.mono hff⟩
  · simp only [ht] at hi ⊢
    rw [rowOf_setRow_ne _ _ _ _ nt]; exact h.torn i hi

theorem WaitRows.snoc {w : World} {f : Nat → Prop} {r gd gt : Nat} {l : List (Int × List UInt8)} {xs : List (Array Value)} {v v3 : Value} {n : Int} {b : List UInt8} (ho : OwnRows w v 2 (xs ++ [#[.int .i64 n, v3]]) 0) (hv : Apart f r gd gt v)
    (hl : xs.length = l.length) (hx : ∀ i (_h1 : i < xs.length) (_h2 : i < l.length), ∃ vd, xs[i] = #[.int .i64 l[i].1, vd] ∧ OwnBytes w vd l[i].2 0 ∧ Apart f r gd gt vd) (h3 : OwnBytes w v3 b 0) (a3 : Apart f r gd gt v3) :
    WaitRows w f r gd gt v (l ++ [(n, b)]) := by
  refine ⟨_, ho, hv, by simp [hl], fun i h1 h2 => ?_⟩
  by_cases hi : i < xs.length
  · rw [List.getElem_append_left hi, List.getElem_append_left (by omega)]
    exact hx i hi (by omega)
  · have hi2 : i = xs.length := by simp at h1; omega
    subst hi2
    rw [List.getElem_append_right (by simp), List.getElem_append_right (by omega)]
    simp only [Nat.sub_self, List.getElem_cons_zero, hl]
    exact ⟨v3, rfl, h3, a3⟩

/-- The end of Write. -/
theorem rwrite_end {w w1 w4 : World} {f : Nat → Prop} {r gd gt : Nat} {T : DS} {cd ct n : Nat} {b : List UInt8} {xs : List (Array Value)} {v4 v3 : Value} (h1 : RRep w1 f r gd gt T) (fw : Fr (fun k => k = r) w w1) (f14 : Fr (fun _ => False) w1 w4)
    (hl : xs.length = (pendI T.pend).length) (hx : ∀ i (_h1 : i < xs.length) (_h2 : i < (pendI T.pend).length), ∃ vd, xs[i] = #[.int .i64 (pendI T.pend)[i].1, vd] ∧ OwnBytes w1 vd (pendI T.pend)[i].2 0 ∧ Apart f r gd gt vd)
    (ho : OwnRows w4 v4 2 (xs ++ [#[.int .i64 n, v3]]) w1.heap.size) (h3 : OwnBytes w4 v3 b w1.heap.size) (hn : n < T.data.length) (hb : b.length = 64) :
    ∃ f', RRep (w4.setRow r #[.bool true, .bool T.off, .int .i64 (refLeft T), .slice (some ⟨gd, 0, none⟩) T.data.length cd, .slice (some ⟨gt, 0, none⟩) T.data.length ct, v4, .int .i64 (wrap64 (T.wr + 1)), .int .i64 T.sy]) f' r gd gt
      { T with pend := T.pend ++ [(n, b)], wr := wrap64 (T.wr + 1) } ∧ Moves f f' w (w4.setRow r #[.bool true, .bool T.off, .int .i64 (refLeft T), .slice (some ⟨gd, 0, none⟩) T.data.length cd, .slice (some ⟨gt, 0, none⟩) T.data.length ct, v4, .int .i64 (wrap64 (T.wr + 1)), .int .i64 T.sy]) := by
  have h4 := h1.keep f14 (fun _ _ h => h)
  have lr := live_lt h1.lr
  have ld := live_lt h1.ld
  have lt := live_lt h1.lt
  have ap : ∀ v : Value, (∀ k, v.ownBlock = some k → w1.heap.size ≤ k ∧ k < w4.heap.size) → Apart (fun k => f k ∨ (w1.heap.size ≤ k ∧ k < w4.heap.size)) r gd gt v := fun v hv k hk => by
    have := hv k hk
    exact ⟨.inr this, by omega, by omega, by omega⟩
  refine ⟨fun k => f k ∨ (w1.heap.size ≤ k ∧ k < w4.heap.size), h4.waitPut rfl rfl ⟨h1.ok.n0, h1.ok.n1, h1.ok.tl, h1.ok.dl, fun q hq => ?_, h1.ok.l0, h1.ok.l1⟩ rfl rfl rfl rfl (fun _ h => .inl h) (fun k hk => hk.elim (h4.lt' k) (fun h => h.2)) ?_, ⟨?_, fun k hk => ?_⟩⟩
  · rcases List.mem_append.1 hq with hq | hq
    · exact h1.ok.pe q hq
    · simp at hq; subst hq; exact ⟨hn, hb⟩
  · have e : pendI (T.pend ++ [(n, b)]) = pendI T.pend ++ [((n : Int), b)] := by simp [pendI]
    simp only [e]
    refine WaitRows.snoc (ho.weaken (Nat.zero_le _)) (ap _ (fun k hk => ho.lt hk)) hl (fun i a c => ?_) (h3.weaken (Nat.zero_le _)) (ap _ (fun k hk => h3.lt hk))
    obtain ⟨vd, e1, e2, e3⟩ := hx i a c
    exact ⟨vd, e1, e2.keep f14 (fun _ _ h => h), e3.mono (fun _ h => .inl h)⟩
  · refine Fr.mono (((fw.trans (f14.mono (fun _ _ h => h.elim)) (fun _ _ h => h)).setRow r _ (fun _ => rfl))) (fun k _ hk => by rw [hk]; exact h1.fr)
  · exact hk.imp id (fun h => by have := fw.size; omega)

set_option maxRecDepth 20000 in
set_option maxHeartbeats 4000000 in
theorem rwrite_ok (w : World) (f : Nat → Prop) (r gd gt : Nat) (S : DS) (h : RRep w f r gd gt S) (n : Nat) (a : Option Addr) (cap : Nat) (b : List UInt8) (hr : S.ready n = 0) (hg : S.goesB = true) (hb : b.length = 64) (hv : BytesAt w (.slice a 64 cap) b)
    (hsep : ∀ k, (Value.slice a 64 cap).ownBlock = some k → k ≠ r) (hm : S.pend.length ≤ 2199023255552) :
    Calls Try.prog 33 #[.pointer (some ⟨r, 0, none⟩), .int .i64 n, .slice a 64 cap] w fun e w' => e = .returned (.int .i64 0) ∧
      ∃ f', RRep w' f' r gd gt { S.goes with pend := S.pend ++ [(n, b)], wr := wrap64 (S.wr + 1) } ∧ Moves f f' w w' := by
  obtain ⟨cd, ct, wv, hrow⟩ := h.row
  have H := Lib.hid h
  obtain ⟨ho, h0, h1⟩ := readyI_zero.1 (show readyI S.off n S.data.length = 0 from hr)
  rw [ho] at hrow
  have HO := Lib.hid ho
  have hn0 : ¬ (n : Int) < 0 := by omega
  have hn1 : ¬ (S.data.length : Int) ≤ n := by omega
  have hnl : n < S.data.length := by omega
  have HG := Lib.hid hg
  have HB := Lib.hid hb
  have HV := Lib.hid hv
  have HS := Lib.hid hsep
  have HM := Lib.hid hm
  clear h hr ho hg hv hb hsep hm h0 h1
  go_enter Try.func33, Try.ntmps33
  go_wp2_with fail
  refine (power_any w f r gd gt S H.out).mono ?_
  rintro e w1 ⟨rfl, h1, f1⟩
  rw [HG.out]
  clear hrow
  have H1 := Lib.hid h1
  have F1 := Lib.hid f1
  have V1 := Lib.hid (HV.out.keep f1 (fun k hk e => HS.out k hk e))
  obtain ⟨cd, ct, wv, hrow, xs, hox, hsx, hlx, hex⟩ := h1.ex
  have HROW := Lib.hid hrow
  have l1 := h1.lr
  have lr := live_lt l1
  have OX := Lib.hid hox
  have SX := Lib.hid hsx
  have LX := Lib.hid hlx
  have EX := Lib.hid hex
  have hxl : xs.length ≤ 2199023255552 := by rw [hlx]; simp [pendI]; exact HM.out
  clear h1 f1 hsx hlx hex
  rcases hox with ⟨rfl, rfl⟩ | ⟨gx, cx, rfl, b1, b2, ⟨b3, b3p⟩, b4, b5, b6⟩
  · go_wp2_with fail
    refine (copied_any w1 (.slice a 64 cap) b V1.out (by simp [HB.out])).mono ?_
    rintro e w3 ⟨v3, rfl, o3, f3⟩
    have O3 := Lib.hid (o3.own (by simp [HB.out]))
    have F3 := Lib.hid f3
    have r3 := (f3.row lr (fun h => h)).trans hrow
    have l3 := (f3.liv lr (fun h => h)).trans l1
    obtain ⟨a3, c3, rfl⟩ := o3.shape
    clear o3 f3 hrow
    have hsz3 := F3.out.size
    go_wp2_with (at_builtin; refine wpList_append_one rfl (.tmp 43) (.tmp 48) 33 rfl 44 _ 2 32 Try.underlying33 ti44 (.slice none 0 0) [] w3.heap.size rfl (OwnRows.nil _ _ _) (by simp) w3.heap.size 1 rfl #[.int .i64 (n : Int), .slice a3 b.length c3] (by simp [go_sem]) (by simp [go_sem]) (by intro y hy; simp at hy; rcases hy with rfl | rfl <;> rfl) (by simp) (by simp [maxLen]) (fitsN (by simp) (by omega)) ?_; intro g' cap' w4 ho4 f4 hn4; have HO4 := Lib.hid ho4; have F4 := Lib.hid (((Fr.refl (fun _ => False) w3).alloc (.cells #[.int .i64 (n : Int), .slice a3 b.length c3] 44)).trans (f4.mono (fun _ _ e => by cases e)) (fun _ _ h => h)); have r4 := (F4.out.row (by omega) (fun h => h)).trans r3; have l4 := (F4.out.liv (by omega) (fun h => h)).trans l3; clear ho4 f4 hn4)
    go_ret
    exact ⟨rfl, rwrite_end H1.out F1.out (F3.out.trans F4.out (fun _ _ h => h)) LX.out EX.out (HO4.out.weaken hsz3) (O3.out.keep F4.out (fun _ _ h => h)) hnl HB.out⟩
  · have hxs : ∀ y ∈ xs, y.size = 2 := by
      intro y hy
      obtain ⟨i, hi, rfl⟩ := List.getElem_of_mem hy
      obtain ⟨vd, e1, _⟩ := EX.out i hi (by rw [← LX.out]; exact hi)
      rw [e1]; rfl
    have HXS := Lib.hid hxs
    have hgx := live_lt b2
    have hszx : 0 + xs.length * 2 ≤ (rowOf w1 gx).size := by rw [b5]; have := Nat.mul_le_mul_right 2 b3; omega
    obtain ⟨m, hm⟩ : ∃ m, xs.length = m := ⟨_, rfl⟩
    have HMM := Lib.hid hm
    rw [hm] at OX hxl b3p hszx hrow
    clear hm b4 b5 b6 b3 b1 hxs
    go_wp2_with (at_builtin; refine wpList_append_fresh rfl (.const (.slice none 0 0)) (.tmp 42) 33 rfl 44 _ 2 32 Try.underlying33 ti44 none gx 0 m cx rfl rfl (.inl rfl) b3p hszx (by simp only [maxLen]; omega) (by omega) ?_; intro capn curn k1 k2 k3 k4 k5; have K1 := Lib.hid k1; have K2 := Lib.hid k2; have K3 := Lib.hid k3; clear k1 k2 k3 k5)
    have hcn := K2.out
    obtain ⟨w2, hw2⟩ : ∃ w2, (w1.alloc (.cells curn 44)).drew = w2 := ⟨_, rfl⟩
    have F2 := Lib.hid (show Fr (fun _ => False) w1 w2 by rw [← hw2]; exact ((Fr.refl _ w1).alloc _).drew)
    have C2 := Lib.hid (show live w2 w1.heap.size = true ∧ rowOf w2 w1.heap.size = curn ∧ w2.heap.size = w1.heap.size + 1 by rw [← hw2]; simp [go_sem])
    rw [hw2]
    clear hw2
    have r2 := (F2.out.row lr (fun h => h)).trans hrow
    have l2 := (F2.out.liv lr (fun h => h)).trans l1
    refine (copied_any w2 (.slice a 64 cap) b (V1.out.later F2.out) (by simp [HB.out])).mono ?_
    rintro e w3 ⟨v3, rfl, o3, f3⟩
    have O3 := Lib.hid (o3.own (by simp [HB.out]))
    have F3 := Lib.hid f3
    have lr2 := live_lt l2
    have r3 := (f3.row lr2 (fun h => h)).trans r2
    have l3 := (f3.liv lr2 (fun h => h)).trans l2
    obtain ⟨a3, c3, rfl⟩ := o3.shape
    clear o3 f3 hrow r2
    have hs2 := F2.out.size
    have hs3 := F3.out.size
    have W2 := Lib.hid (show OwnRows w2 (.slice (some ⟨w1.heap.size, 0, none⟩) m capn) 2 xs w1.heap.size by
      have := copied_rows (w := w1) (w' := w2) (base := w1.heap.size) (HMM.out.symm ▸ OX.out) (Nat.le_refl _) C2.out.1 C2.out.2.1 (by rw [HMM.out]; exact K1.out) K2.out K3.out (by rw [HMM.out]; exact k4.out)
      rwa [HMM.out] at this)
    have W3 := Lib.hid (W2.out.keep F3.out (fun _ _ h => h))
    go_wp2_with (at_builtin; refine wpList_append_one rfl (.tmp 43) (.tmp 48) 33 rfl 44 _ 2 32 Try.underlying33 ti44 (.slice (some ⟨w1.heap.size, 0, none⟩) m capn) xs w1.heap.size rfl (W3.out.keep ((Fr.refl (fun _ => False) w3).alloc _) (fun _ _ h => h)) (by simp; omega) w3.heap.size 1 rfl #[.int .i64 (n : Int), .slice a3 b.length c3] (by simp [go_sem]) (by simp [go_sem]) (by intro y hy; simp at hy; rcases hy with rfl | rfl <;> rfl) HXS.out (by have := HMM.out; simp only [maxLen]; omega) (fitsN (by have := HMM.out; omega) (by omega)) ?_; intro g' cap' w4 ho4 f4 hn4; have HO4 := Lib.hid ho4; have F4 := Lib.hid (((Fr.refl (fun k => k = w1.heap.size) w3).alloc (.cells #[.int .i64 (n : Int), .slice a3 b.length c3] 44)).trans (f4.mono (fun k _ e => (Option.some.inj (show some w1.heap.size = some k from e)).symm)) (fun _ _ h => h)); have r4 := (F4.out.row (by omega) (by omega)).trans r3; have l4 := (F4.out.liv (by omega) (by omega)).trans l3; clear ho4 f4 hn4)
    go_ret
    have F14 : Fr (fun _ => False) w1 w4 := (F2.out.trans F3.out (fun _ _ h => h)).trans F4.out (fun k hk e => by omega)
    refine ⟨rfl, rwrite_end H1.out F1.out F14 LX.out EX.out HO4.out ((O3.out.weaken (by omega)).keep F4.out (fun k hk e => ?_)) hnl HB.out⟩
    have := (O3.out.lt hk).1
    have := C2.out.2.2
    omega

theorem rwrite_any (w : World) (f : Nat → Prop) (r gd gt : Nat) (S : DS) (h : RRep w f r gd gt S) (n : Int) (va : Value) (b : List UInt8) (hv : BytesAt w va b) (hsep : ∀ k, va.ownBlock = some k → k ≠ r) (hm : S.pend.length ≤ 2199023255552) :
    Calls Try.prog 33 #[.pointer (some ⟨r, 0, none⟩), .int .i64 n, va] w fun e w' => e = .returned (.int .i64 (S.write n b).1) ∧ ∃ f', RRep w' f' r gd gt (S.write n b).2 ∧ Moves f f' w w' := by
  by_cases h1 : S.ready n ≠ 0
  · refine (rwrite_bad1 w f r gd gt S h n va h1).mono ?_
    rintro e w' ⟨rfl, rfl⟩
    have e1 : S.write n b = (S.ready n, S) := by unfold DS.write; rw [if_pos h1]
    rw [e1]
    exact ⟨rfl, f, h, Moves.refl _ _⟩
  · have h1' : S.ready n = 0 := Classical.byContradiction h1
    obtain ⟨a, cap, rfl, _⟩ := id hv
    by_cases h2 : b.length ≠ 64
    · refine (rwrite_bad2 w f r gd gt S h n a b.length cap h1' h2).mono ?_
      rintro e w' ⟨rfl, rfl⟩
      have e1 : S.write n b = (21, S) := by unfold DS.write; rw [if_neg h1, if_pos h2]
      rw [e1]
      exact ⟨rfl, f, h, Moves.refl _ _⟩
    · have h2' : b.length = 64 := Classical.byContradiction h2
      by_cases h3 : S.goesB = false
      · rw [h2']
        refine (rwrite_bad3 w f r gd gt S h n a cap h1' h3).mono ?_
        rintro e w' ⟨rfl, r1, f1⟩
        have e1 : S.write n b = (22, S.goes) := by unfold DS.write; rw [if_neg h1, if_neg h2, if_pos h3]
        rw [e1]
        exact ⟨rfl, f, r1, ⟨f1.mono (fun k _ e => by rw [e]; exact h.fr), fun _ h => .inl h⟩⟩
      · have hn := (readyI_zero.1 (show readyI S.off n S.data.length = 0 from h1')).2.1
        obtain ⟨k, rfl⟩ : ∃ k : Nat, n = k := ⟨n.toNat, by omega⟩
        have e1 : S.write k b = (0, { S.goes with pend := S.pend ++ [(k, b)], wr := wrap64 (S.wr + 1) }) := by unfold DS.write; rw [if_neg h1, if_neg h2, if_neg h3]; rfl
        rw [e1]
        rw [h2'] at hv hsep ⊢
        exact rwrite_ok w f r gd gt S h k a cap b h1' (by simpa using h3) h2' hv hsep hm

end Go.Proofs.Ytflnlpbcmcfblaa
