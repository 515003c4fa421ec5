/-
  (*Disk).Write.
-/
import Derived.Test.YtflnlpbcmcfblaaMake
import Derived.Deep.RegionLaw
namespace Go.Proofs.Ytflnlpbcmcfblaa
open Go.RowKit

/-- A slice of bytes in memory. -/
def BytesAt (w : World) (v : Value) (b : List UInt8) : Prop :=
  ∃ a cap, v = .slice a b.length cap ∧ (b = [] ∨ ∃ g off, a = some ⟨g, off, none⟩ ∧ off + b.length ≤ (rowOf w g).size ∧ cut (rowOf w g) off b.length = bvA b)

theorem rowOf_lt {w : World} {g : Nat} (h : 0 < (rowOf w g).size) : g < w.heap.size := by
  by_cases hg : g < w.heap.size
  · exact hg
  · have : w.heap[g]? = none := by simp; omega
    simp [rowOf, this] at h

theorem BytesAt.keep {w w' : World} {v : Value} {b : List UInt8} (h : BytesAt w v b) {F : Nat → Prop} (hf : Fr F w w') (hF : ∀ k, v.ownBlock = some k → ¬ F k) : BytesAt w' v b := by
  obtain ⟨a, cap, rfl, h | ⟨g, off, rfl, h1, h2⟩⟩ := h
  · exact ⟨a, cap, rfl, .inl h⟩
  · by_cases hb : b = []
    · exact ⟨_, cap, rfl, .inl hb⟩
    · have hl : 0 < b.length := List.length_pos_iff.2 hb
      have hr := hf.row (rowOf_lt (w := w) (g := g) (by omega)) (hF g rfl)
      exact ⟨_, cap, rfl, .inr ⟨g, off, rfl, by rw [hr]; exact h1, by rw [hr]; exact h2⟩⟩

theorem fits72 {n cap : Nat} (h0 : n ≤ cap) (h1 : cap < n + 1) (hn : n ≤ 2199023255552) : Builtin.nextslicecap (n + 1) cap * 72 ≤ 281474976710656 := by
  obtain rfl : cap = n := by omega
  have : Builtin.nextslicecap (cap + 1) cap ≤ 3848290697216 := by
    unfold Builtin.nextslicecap
    split
    · omega
    · split
      · omega
      · rw [growBy_four]
        repeat' split
        all_goals omega
  omega

theorem info67 : (Try.prog.info? 112).map (fun i => (i.zero, i.size, i.bytes)) = some (some (.agg zero112), 65, 72) := info112

/-- The append of one write to the pending ones, as one step of a region. -/
theorem step_append67 {ops : Array Oper} {o : Oper} {a : Act} {w : World} {K : Act → World → Prop} {Q : Exit → Act → World → Prop} {E : Prop} (hgd : o.guard = none) (s x : Operand)
    (ho : o.op = .call { callee := .builtin .append, args := #[s, x], argTypes := #[67, 67] }) (v : Value) (l : List (Nat × List UInt8)) (hs : a.eval s = v) (hp : PendSl w v l)
    (gx : Nat) (hx : a.eval x = .slice (some ⟨gx, 0, none⟩) 1 1) (k : Nat) (b : List UInt8) (hrx : rowOf w gx = wrC k (bvA b)) (hb : b.length = 64) (hl : l.length ≤ 2199023255552)
    (h : ∀ g' cap' w', PendSl w' (.slice (some ⟨g', 0, none⟩) (l.length + 1) cap') (l ++ [(k, b)]) → Fr (fun i => v.ownBlock = some i) w w' → (v.ownBlock = some g' ∨ w.heap.size ≤ g') →
      K (a.put o.dst (.slice (some ⟨g', 0, none⟩) (l.length + 1) cap')) w') :
    if Region.wanted o (yielded ops a.tmps) = true then Oper.wp Try.prog o a w K Q else E := by
  have hw : Region.wanted o (yielded ops a.tmps) = true := by simp [Region.wanted, hgd]
  rw [if_pos hw]
  obtain ⟨i, hi, hz, hsz, hby⟩ := info_parts info112
  have hsx : (wrC (k : Int) (bvA b)).size = 65 := by rw [wrC_size, bvA_size, hb]
  obtain ⟨xs, hown, hxs⟩ : ∃ xs, OwnSl w 65 v l.length xs ∧ (v = .slice none 0 0 → xs = []) ∧ (∀ g cap, v = .slice (some ⟨g, 0, none⟩) l.length cap → xs = (rowOf w g).toList.take (l.length * 65)) := by
    rcases hp with ⟨rfl, rfl⟩ | ⟨g, cap, rfl, h1, ⟨h2, h2p⟩, h3, h4, h5⟩
    · exact ⟨[], ⟨by simp, .inl ⟨rfl, rfl⟩⟩, fun _ => rfl, by simp⟩
    · refine ⟨(rowOf w g).toList.take (l.length * 65), ⟨?_, .inr ⟨g, cap, rfl, h1, h2, h3, h4, rfl⟩⟩, by simp, ?_⟩
      rotate_left
      · intro g' cap' e
        simp only [Value.slice.injEq, Option.some.injEq, Addr.mk.injEq, and_true, true_and] at e
        rw [e.1]
      have := Nat.mul_le_mul_right 65 h2
      simp; omega
  obtain ⟨v', w', hrun, happ⟩ := run_append_row (P := Try.prog) w 67 o.type 112 i (.agg zero112) 65 72 Try.underlying67 hi hz hsz hby (by simp [Value.cells, zero112_size]) (by omega)
    v l.length xs hown (some ⟨gx, 0, none⟩) 1 1 (wrC k (bvA b)).toList (by simp [hsx])
    (.inr ⟨_, rfl, fun j u hu => by rw [Addr.add_lit, cell?_row, hrx]; simpa using hu⟩) (fun u hu => wrC_ones (bvA_ones b) u (by simpa using hu))
    (by simp only [maxLen]; omega) (fun cap h0 h1 => fits72 h0 h1 hl)
  obtain ⟨hex, hfr⟩ := happ
  rcases hex with ⟨h0, _⟩ | ⟨g', cap', rfl, e1, e2, e3, e4, e5, e6⟩
  · omega
  · unfold Oper.wp
    simp [execOp, ho, resolve, invoke, builtin, hs, hx, hrun, Result.andThen]
    refine h g' cap' w' ?_ hfr e6
    refine .inr ⟨g', cap', by simp, e3, ⟨by simpa using e1, by simp⟩, e2, e4, ?_⟩
    intro j hj
    simp only [List.length_append, List.length_cons, List.length_nil, Nat.zero_add] at hj
    have hsize : (l.length + 1) * 65 ≤ (rowOf w' g').size := by rw [e4]; exact Nat.mul_le_mul_right _ e1
    have hget : ∀ q, q < (l.length + 1) * 65 → (rowOf w' g')[q]? = (xs ++ (wrC (k : Int) (bvA b)).toList)[q]? := by
      intro q hq
      rw [← e5, List.getElem?_take, if_pos hq]; simp
    by_cases hjl : j < l.length
    · rw [List.getElem_append_left hjl]
      rcases hp with ⟨rfl, rfl⟩ | ⟨g, cap, rfl, h1, ⟨h2, h2p⟩, h3, h4, h5⟩
      · simp at hjl
      · rw [← h5 j hjl]
        have hj2 : j * 65 + 65 ≤ l.length * 65 := by omega
        have hc2 : l.length * 65 ≤ cap * 65 := Nat.mul_le_mul_right _ h2
        refine cut_ext (cut_size (by omega)) (by omega) (fun q hq => ?_)
        rw [hget _ (by omega), hxs.2 g cap rfl, cut_get (by omega) q hq, List.getElem?_append_left (by simp; omega), List.getElem?_take, if_pos (by omega)]
        simp
    · obtain rfl : j = l.length := by omega
      rw [List.getElem_append_right (by simp)]
      simp only [Nat.sub_self, List.getElem_cons_zero]
      refine cut_ext hsx (by omega) (fun q hq => ?_)
      rw [hget _ (by omega), List.getElem?_append_right (by rw [hown.1]; omega), hown.1]
      simp

theorem BytesAt.off64 {w : World} {v : Value} {b : List UInt8} (h : BytesAt w v b) (hb : b.length = 64) : ∃ g off cap, v = .slice (some ⟨g, off, none⟩) 64 cap ∧ off + 64 ≤ (rowOf w g).size ∧ cut (rowOf w g) off 64 = bvA b := by
  obtain ⟨a, cap, rfl, h | ⟨g, off, rfl, h1, h2⟩⟩ := h
  · subst h; simp at hb
  · rw [hb] at h1 h2 ⊢; exact ⟨g, off, cap, rfl, h1, h2⟩

set_option maxHeartbeats 1000000 in
theorem write_ok (w : World) (p : DP) (S : DS) (h : DiskRep w p S) (n : Nat) (va : Value) (b : List UInt8) (hv : BytesAt w va b) (hsep : ∀ k, va.ownBlock = some k → ¬ p.foot k)
    (hm : S.pend.length ≤ 2199023255552) (hb : b.length = 64) (hoff : S.off = false) (hn : n < S.data.length) (hg : S.goesB = true) :
    Calls Try.prog 27 #[.pointer (some ⟨p.d, 0, none⟩), .int .i64 (n : Int), va] w fun e w' => ∃ p', p'.d = p.d ∧ e = .returned (.int .i64 0) ∧
      DiskRep w' p' { S.goes with pend := S.pend ++ [(n, b)], wr := wrap64 (S.wr + 1) } ∧ Moves p.foot p'.foot w w' := by
  obtain ⟨gv, ov, capv, rfl, v1, v2⟩ := hv.off64 hb
  obtain ⟨cb, ct, hd, hx⟩ := h.ex
  have Hd := Lib.hid hd
  have Hr := Lib.hid h.rp
  have Hh := Lib.hid h
  have hr := Lib.hid (show readyI S.off n S.data.length = 0 by simp [readyI, hoff]; omega)
  have Hg := Lib.hid (show goesB S.pl S.left = true from hg)
  have hgv : gv < w.heap.size := rowOf_lt (by omega)
  have sgv : gv ≠ p.d := fun e => hsep gv rfl (.inl e)
  have n0 := h.ok.n0
  have l0 := h.ok.l0
  have l1 := h.ok.l1
  have hld := live_lt hd.liv
  clear h hx hg hoff hv hd
  go_enter Try.func27, Try.ntmps27
  go_wp2_with fail
  refine (ready_any _ _ _ _ _ _ _ _ _ _ _ _ Hd.out n0 _).mono ?_
  rintro e w' ⟨rfl, rfl⟩
  rw [hr.out]
  go_wp2_with fail
  refine (goes_any _ _ _ _ _ _ _ _ _ _ _ _ Hd.out l0 l1).mono ?_
  rintro e w1 ⟨rfl, hd1, f1⟩
  rw [Hg.out]
  have Hd1 := Lib.hid hd1
  obtain ⟨r1, lv1⟩ := hd1
  have v1' : ov + 64 ≤ (rowOf w1 gv).size := by rw [f1.row hgv sgv]; exact v1
  have v2' : cut (rowOf w1 gv) ov 64 = bvA b := by rw [f1.row hgv sgv]; exact v2
  have hgv1 : gv < w1.heap.size := Nat.lt_of_lt_of_le hgv f1.size
  have sz1 : (bvA b).size = 64 := by rw [bvA_size, hb]
  have sz2 : (wrC (n : Int) (bvA b)).size = 65 := by rw [wrC_size, sz1]
  have hld1 : p.d < w1.heap.size := live_lt lv1
  have Hr1 : Hid (PendSl w1 p.pv S.pend) := Hr.out.keep f1 (fun k hk e => Hh.out.n4.1 (by rw [hk, e]))
  have F1 := Lib.hid f1
  clear f1 v1 v2
  go_wp2
  have hmv : p.pv.ownBlock ≠ some p.d := Hh.out.n4.1
  go_region_law (refine step_append67 rfl (.tmp 24) (.tmp 30) rfl p.pv S.pend rfl (Hr1.out.keep (((Fr.refl (fun _ => False) w1).alloc _).drew) (fun _ _ h => h)) w1.heap.size rfl n b (by simp [go_sem]) hb hm ?_; intro g' cap' w2 hp2 f2 hn2; have r2 := (f2.row (g := p.d) (by simp; omega) hmv).trans ((by simp [go_sem, hld1] : _ = rowOf w1 p.d).trans r1); have lv2 := (f2.liv (g := p.d) (by simp; omega) hmv).trans ((by simp [go_sem, hld1] : _ = live w1 p.d).trans lv1))
  all_goals
    have F2 := Lib.hid f2
    have N2 := Lib.hid hn2
    have hld2 : p.d < w2.heap.size := live_lt lv2
    clear f2 hn2
    go_wp2
    go_ret
    have fr2 : Fr (fun i => i = p.d ∨ p.pv.ownBlock = some i) w w2 := (F1.out.mono (fun i _ hi => Or.inl hi)).trans ((((Fr.refl (fun i => i = p.d ∨ p.pv.ownBlock = some i) w1).alloc _).drew).trans F2.out (fun i _ hi => .inr hi)) (fun i hi hd => hd)
    have hg' : g' ≠ p.d ∧ g' ≠ p.gb ∧ g' ≠ p.gt := by
      have hgb := (live_lt Hh.out.lb)
      have hgt := (live_lt Hh.out.lt)
      rcases N2.out with e | e
      · obtain ⟨a1, a2, a3⟩ := Hh.out.n4
        exact ⟨fun e2 => a1 (e2 ▸ e), fun e2 => a2 (e2 ▸ e), fun e2 => a3 (e2 ▸ e)⟩
      · have s1 := F1.out.size
        have s2 : w1.heap.size + 1 ≤ g' := by simpa using e
        exact ⟨by omega, by omega, by omega⟩
    refine ⟨{ p with pv := .slice (some ⟨g', 0, none⟩) (S.pend.length + 1) cap' }, rfl, rfl, Hh.out.upd (fr2.setRow p.d _ (fun _ => .inl rfl)) ?_ ?_ Hd.out (cb := cb) (ct := ct) ⟨rowOf_setRow_same _ _ _ lv2, by rw [live_setRow]; exact lv2⟩
      (hp2.keep ((Fr.refl (fun i => i = p.d) w2).setRow _ _ (fun _ => rfl)) (fun k hk e => hg'.1 (by simp only [Value.ownBlock, Option.some.injEq] at hk; rw [hk, e]))) ?_ ?_ ?_ ?_, fr2.setRow p.d _ (fun _ => .inl rfl) |>.mono ?_, ?_⟩
    · exact fun e => e.elim (fun e => Hh.out.n1 e.symm) (fun e => Hh.out.n4.2.1 e)
    · exact fun e => e.elim (fun e => Hh.out.n2 e.symm) (fun e => Hh.out.n4.2.2 e)
    · simp only [Value.ownBlock, ne_eq, Option.some.injEq]; exact ⟨hg'.1, hg'.2.1, hg'.2.2⟩
    · intro q hq
      rcases List.mem_append.1 hq with hq | hq
      · exact Hh.out.ok.pe q hq
      · simp only [List.mem_cons, List.not_mem_nil, or_false] at hq; subst hq; exact ⟨hn, hb⟩
    · simp only [DS.goes, goesLeft]; split
      · rename_i hc; simp at hc; omega
      · exact l0
    · simp only [DS.goes, goesLeft]; split <;> omega
    · exact fun i _ hi => hi.elim (fun e => .inl e) (fun e => .inr (.inr (.inr e)))
    · rintro k (rfl | rfl | rfl | hk)
      · exact .inl (.inl rfl)
      · exact .inl (.inr (.inl rfl))
      · exact .inl (.inr (.inr (.inl rfl)))
      · simp only [Value.ownBlock, Option.some.injEq] at hk
        subst hk
        rcases N2.out with e | e
        · exact .inl (.inr (.inr (.inr e)))
        · refine .inr ?_
          have s1 := F1.out.size
          have s2 : w1.heap.size + 1 ≤ g' := by simpa using e
          omega

/-- The struct alone turns: power for one thing more. -/
theorem DiskRep.goes {w w1 : World} {p : DP} {S : DS} (h : DiskRep w p S) {cb ct : Nat}
    (hd0 : DStruct w p.d (.slice (some ⟨p.gb, 0, none⟩) S.data.length cb) (.slice (some ⟨p.gt, 0, none⟩) S.data.length ct) p.pv S.off S.pl S.left S.wr S.sy)
    (hd1 : DStruct w1 p.d (.slice (some ⟨p.gb, 0, none⟩) S.data.length cb) (.slice (some ⟨p.gt, 0, none⟩) S.data.length ct) p.pv (goesOff S.off S.pl S.left) (goesPl S.pl S.left) (goesLeft S.pl S.left) S.wr S.sy)
    (f1 : Fr (· = p.d) w w1) : DiskRep w1 p S.goes := by
  have l0 := h.ok.l0
  have l1 := h.ok.l1
  refine h.upd f1 (fun e => h.n1 e.symm) (fun e => h.n2 e.symm) hd0 hd1 (h.rp.keep f1 (fun k hk e => h.n4.1 (by rw [hk, e]))) h.n4 h.ok.pe ?_ ?_
  · simp only [goesLeft]; split
    · rename_i hc; simp at hc; omega
    · exact l0
  · simp only [goesLeft]; split <;> omega

set_option maxHeartbeats 400000 in
theorem write_bad1 (w : World) (p : DP) (S : DS) (h : DiskRep w p S) (n : Int) (va : Value) (hr0 : S.ready n ≠ 0) :
    Calls Try.prog 27 #[.pointer (some ⟨p.d, 0, none⟩), .int .i64 n, va] w fun e w' => e = .returned (.int .i64 (S.ready n)) ∧ w = w' := by
  obtain ⟨cb, ct, hd, hx⟩ := h.ex
  have Hd := Lib.hid hd
  have n0 := h.ok.n0
  have hr := Lib.hid (show readyI S.off n S.data.length = S.ready n from rfl)
  have hb : (S.ready n != 0) = true := by simpa using hr0
  generalize S.ready n = r at hr hb hr0 ⊢
  clear h hx hd hr0
  go_enter Try.func27, Try.ntmps27
  go_wp2_with fail
  refine (ready_any _ _ _ _ _ _ _ _ _ _ _ _ Hd.out n0 _).mono ?_
  rintro e w' ⟨rfl, rfl⟩
  rw [hr.out]
  go_wp2
  go_ret
  exact ⟨rfl, rfl⟩

set_option maxHeartbeats 400000 in
theorem write_bad2 (w : World) (p : DP) (S : DS) (h : DiskRep w p S) (n : Int) (a : Option Addr) (len cap : Nat) (hr0 : S.ready n = 0) (hl : len ≠ 64) :
    Calls Try.prog 27 #[.pointer (some ⟨p.d, 0, none⟩), .int .i64 n, .slice a len cap] w fun e w' => e = .returned (.int .i64 21) ∧ w = w' := by
  obtain ⟨cb, ct, hd, hx⟩ := h.ex
  have Hd := Lib.hid hd
  have n0 := h.ok.n0
  have hr := Lib.hid (show readyI S.off n S.data.length = 0 from hr0)
  have hb : ((len : Int) != 64) = true := by simp; omega
  clear h hx hd hr0
  go_enter Try.func27, Try.ntmps27
  go_wp2_with fail
  refine (ready_any _ _ _ _ _ _ _ _ _ _ _ _ Hd.out n0 _).mono ?_
  rintro e w' ⟨rfl, rfl⟩
  rw [hr.out]
  go_wp2
  go_ret
  exact ⟨rfl, rfl⟩

set_option maxHeartbeats 400000 in
theorem write_bad3 (w : World) (p : DP) (S : DS) (h : DiskRep w p S) (n : Int) (a : Option Addr) (cap : Nat) (hr0 : S.ready n = 0) (hg : S.goesB = false) :
    Calls Try.prog 27 #[.pointer (some ⟨p.d, 0, none⟩), .int .i64 n, .slice a 64 cap] w fun e w' => e = .returned (.int .i64 22) ∧ DiskRep w' p S.goes ∧ Fr (· = p.d) w w' := by
  obtain ⟨cb, ct, hd, hx⟩ := h.ex
  have Hd := Lib.hid hd
  have Hh := Lib.hid h
  have n0 := h.ok.n0
  have l0 := h.ok.l0
  have l1 := h.ok.l1
  have hr := Lib.hid (show readyI S.off n S.data.length = 0 from hr0)
  have Hg := Lib.hid (show goesB S.pl S.left = false from hg)
  clear h hx hd hr0 hg
  go_enter Try.func27, Try.ntmps27
  go_wp2_with fail
  refine (ready_any _ _ _ _ _ _ _ _ _ _ _ _ Hd.out n0 _).mono ?_
  rintro e w' ⟨rfl, rfl⟩
  rw [hr.out]
  go_wp2_with fail
  refine (goes_any _ _ _ _ _ _ _ _ _ _ _ _ Hd.out l0 l1).mono ?_
  rintro e w1 ⟨rfl, hd1, f1⟩
  rw [Hg.out]
  have Hd1 := Lib.hid hd1
  have F1 := Lib.hid f1
  clear hd1 f1
  go_wp2
  go_ret
  exact ⟨rfl, Hh.out.goes Hd.out Hd1.out F1.out, F1.out⟩

/-- Write, in every case. -/
theorem write_any (w : World) (p : DP) (S : DS) (h : DiskRep w p S) (n : Int) (va : Value) (b : List UInt8) (hv : BytesAt w va b) (hsep : ∀ k, va.ownBlock = some k → ¬ p.foot k)
    (hm : S.pend.length ≤ 2199023255552) :
    Calls Try.prog 27 #[.pointer (some ⟨p.d, 0, none⟩), .int .i64 n, va] w fun e w' => ∃ p', p'.d = p.d ∧ e = .returned (.int .i64 (S.write n b).1) ∧
      DiskRep w' p' (S.write n b).2 ∧ Moves p.foot p'.foot w w' := by
  by_cases h1 : S.ready n ≠ 0
  · refine (write_bad1 w p S h n va h1).mono ?_
    rintro e w' ⟨rfl, rfl⟩
    have e1 : S.write n b = (S.ready n, S) := by unfold DS.write; rw [if_pos h1]
    rw [e1]
    exact ⟨p, rfl, rfl, h, Moves.refl _ _⟩
  · have h1' : S.ready n = 0 := Classical.byContradiction h1
    by_cases h2 : b.length ≠ 64
    · obtain ⟨a, cap, rfl, _⟩ := hv
      refine (write_bad2 w p S h n a b.length cap h1' h2).mono ?_
      rintro e w' ⟨rfl, rfl⟩
      have e1 : S.write n b = (21, S) := by unfold DS.write; rw [if_neg h1, if_pos h2]
      rw [e1]
      exact ⟨p, rfl, rfl, h, Moves.refl _ _⟩
    · have h2' : b.length = 64 := Classical.byContradiction h2
      cases h3 : S.goesB with
      | false =>
        obtain ⟨a, cap, rfl, _⟩ := hv
        rw [h2']
        refine (write_bad3 w p S h n a cap h1' h3).mono ?_
        rintro e w' ⟨rfl, hr, f⟩
        have e1 : S.write n b = (22, S.goes) := by unfold DS.write; rw [if_neg h1, if_neg h2, if_pos h3]
        rw [e1]
        exact ⟨p, rfl, rfl, hr, f.mono (fun i _ e => .inl e), fun k hk => .inl hk⟩
      | true =>
        obtain ⟨hoff, hn⟩ := readyI_zero.1 h1'
        obtain ⟨k, rfl⟩ := Int.eq_ofNat_of_zero_le hn.1
        have hk : k < S.data.length := by omega
        refine (write_ok w p S h k va b hv hsep hm h2' hoff hk h3).mono ?_
        rintro e w' ⟨p', e1, rfl, hr, hmv⟩
        have e2 : S.write k b = (0, { S.goes with pend := S.pend ++ [(k, b)], wr := wrap64 (S.wr + 1) }) := by
          unfold DS.write; rw [if_neg h1, if_neg h2, if_neg (by rw [h3]; simp)]; rfl
        rw [e2]
        exact ⟨p', e1, rfl, hr, hmv⟩

end Go.Proofs.Ytflnlpbcmcfblaa
