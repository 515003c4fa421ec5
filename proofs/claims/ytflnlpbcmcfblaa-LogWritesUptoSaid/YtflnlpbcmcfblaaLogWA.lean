/-
  LogWrites: the walk.
-/
import Derived.Test.YtflnlpbcmcfblaaLX
namespace Go.Proofs.Ytflnlpbcmcfblaa
open Go.RowKit

/-- How many writes an operation may do. -/
def LOp.most (o : LOp) : Int := if o.d = 0 ∨ o.d = 1 then 4 + (recN o.data.length : Int) else 4

/-- The laws' world between operations, its disk and its count of writes. -/
def LSt (w0 w : World) (wb k dd : Nat) (r : Int) : Prop := ∃ p S bl bm V cnt vr vm us um R alt, (WI w0 w wb p S bl bm V cnt vr vm us um R alt k ∧ p.d = dd ∧ S.wr = r) ∨ (WD w0 w wb p S bl bm V cnt vr vm us um R alt k ∧ p.d = dd ∧ S.wr = r)

theorem LSt.state {w0 w : World} {wb k dd : Nat} {r : Int} (h : LSt w0 w wb k dd r) : LState w0 w wb k := by
  obtain ⟨p, S, bl, bm, V, cnt, vr, vm, us, um, R, alt, h⟩ := h
  exact ⟨p, S, bl, bm, V, cnt, vr, vm, us, um, R, alt, h.imp (·.1) (·.1)⟩
theorem LSt.mono {w0 w : World} {wb k k' dd : Nat} {r : Int} (h : LSt w0 w wb k dd r) (hk : k ≤ k') : LSt w0 w wb k' dd r := by
  obtain ⟨p, S, bl, bm, V, cnt, vr, vm, us, um, R, alt, h⟩ := h
  exact ⟨p, S, bl, bm, V, cnt, vr, vm, us, um, R, alt, h.imp (fun h => ⟨h.1.mono hk, h.2⟩) (fun h => ⟨h.1.mono hk, h.2⟩)⟩
theorem LSt.ci {w0 w : World} {wb k dd : Nat} {r : Int} (h : LSt w0 w wb k dd r) : ∃ p S bl vr vm us um R alt o, CI w0 w wb p S bl vr vm us um R alt o o k ∧ p.d = dd ∧ S.wr = r := by
  obtain ⟨p, S, bl, bm, V, cnt, vr, vm, us, um, R, alt, h | h⟩ := h
  · exact ⟨_, _, _, _, _, _, _, _, _, _, h.1.ci, h.2⟩
  · exact ⟨_, _, _, _, _, _, _, _, _, _, h.1.ci, h.2⟩
theorem LSt.fr' {w0 w w' : World} {wb k dd : Nat} {r : Int} (h : LSt w0 w wb k dd r) (f : Fr (fun _ => False) w w') : LSt w0 w' wb k dd r := by
  obtain ⟨p, S, bl, bm, V, cnt, vr, vm, us, um, R, alt, h⟩ := h
  have key : ∀ {o : Bool}, CI w0 w wb p S bl vr vm us um R alt o o k → CI w0 w' wb p S bl vr vm us um R alt o o k := fun h =>
    ⟨h.st.calm f (fun _ h => h.elim), by rw [f.row (live_lt h.liv) (fun h => h)]; exact h.row, by rw [f.liv (live_lt h.liv) (fun h => h)]; exact h.liv, h.nwb, h.wwb, h.rl.keep f (fun _ _ h => h), h.ml.keep f (fun _ _ h => h), h.rf, h.mf, h.dead, h.hR, h.hA, h.hs⟩
  refine ⟨p, S, bl, bm, V, cnt, vr, vm, us, um, R, alt, h.imp (fun h => ⟨?_, h.2⟩) (fun h => ⟨?_, h.2⟩)⟩
  · have h := h.1; exact ⟨key h.ci, h.log.keep f rfl (fun h => h) (fun h => h) (fun _ h => .inl h), h.on, h.wbl, h.nbl, h.nbm, h.rf2, h.mf2⟩
  · have h := h.1; exact ⟨key h.ci, h.log.keep f rfl (fun h => h) (fun h => h) (fun _ h => .inl h), h.vo, h.off, h.wbl, h.nbl, h.nbm, h.rf2, h.mf2⟩
theorem LSt.bound {w0 w : World} {wb k dd : Nat} {r : Int} (h : LSt w0 w wb k dd r) : 0 ≤ r ∧ r ≤ 20000 * k := by
  obtain ⟨p, S, bl, vr, vm, us, um, R, alt, o, hc, -, rfl⟩ := h.ci
  exact ⟨hc.dead.d.w0, hc.dead.d.w1⟩
theorem LSt.row {w0 w : World} {wb k dd : Nat} {r : Int} (h : LSt w0 w wb k dd r) : ∃ c1 c2 c3 c4 c5 c6, rowOf w wb = #[.pointer (some ⟨dd, 0, none⟩), c1, c2, c3, c4, c5, c6] ∧ live w wb = true := by
  obtain ⟨p, S, bl, vr, vm, us, um, R, alt, o, hc, rfl, -⟩ := h.ci
  exact ⟨_, _, _, _, _, _, hc.row, hc.liv⟩

theorem write_st {w0 w : World} {wb k dd : Nat} {r : Int} (h : LSt w0 w wb k dd r) (hk : k ≤ 8388608) (kind on : Int) (a : Option Addr) (c : Nat) (b : List UInt8) (ak : Option Addr) (nk ck : Nat) (hb : BytesAt w0 (.slice a b.length c) b) (hcap : b.length ≤ c) (hb2 : b.length ≤ 140737488355328) :
    Calls Try.prog 58 #[.pointer (some ⟨wb, 0, none⟩), .agg #[.int .i64 kind, .int .i64 on, .slice a b.length c, .slice ak nk ck]] w fun e w' => e = .returned (.bool true) ∧ ∃ r', LSt w0 w' wb (k + 1) dd r' ∧ r ≤ r' ∧ r' ≤ r + (recN b.length + 1 : Nat) := by
  have key : ∀ {p : DP} {S : DS} {over : Bool} {w' : World}, p.d = dd → S.wr = r → Wrote w0 w' wb p S over k (recN b.length + 1) → ∃ r', LSt w0 w' wb (k + 1) dd r' ∧ r ≤ r' ∧ r' ≤ r + (recN b.length + 1 : Nat) := by
    intro p S over w' h1 h2 hw
    subst h1 h2
    obtain ⟨p', S', bl, bm, V, cnt, vr, vm, us, um, R, alt, h3, h4, h5, h6, h7, h8⟩ := hw
    exact ⟨S'.wr, ⟨p', S', bl, bm, V, cnt, vr, vm, us, um, R, alt, h3.imp (fun h => ⟨h, h4, rfl⟩) (fun h => ⟨h.2, h4, rfl⟩)⟩, h6, h7⟩
  obtain ⟨p, S, bl, bm, V, cnt, vr, vm, us, um, R, alt, h | h⟩ := h
  · exact (write_on h.1 hk kind on a c b ak nk ck hb hcap hb2).mono fun e w' ⟨h1, h2⟩ => ⟨h1, key h.2.1 h.2.2 h2⟩
  · exact (write_dead h.1 kind on a c b ak nk ck hb hb2).mono fun e w' ⟨h1, h2⟩ => ⟨h1, key h.2.1 h.2.2 h2⟩

theorem calm_st {w0 w : World} {wb k dd : Nat} {r : Int} (h : LSt w0 w wb k dd r) (hk : k ≤ 8388608) (vk : Value) (l : List Int) (hkp : IntsAt w0 vk l) (n : Int) (hn : n < 0) (hn2 : -9223372036854775808 ≤ n) :
    Calls Try.prog 57 #[.pointer (some ⟨wb, 0, none⟩), vk, .int .i64 n] w fun e w' => e = .returned (.bool true) ∧ ∃ r', LSt w0 w' wb (k + 1) dd r' ∧ r ≤ r' ∧ r' ≤ r + 1 := by
  obtain ⟨p, S, bl, vr, vm, us, um, R, alt, o, hc, rfl, rfl⟩ := h.ci
  refine (crash_calm w0 w wb p S bl vr vm us um R alt o o k hc hk vk l hkp n hn hn2).mono ?_
  rintro e w' ⟨rfl, p', S', bl, bm, V, cnt, vr, vm, us, um, Q, alt', h1, h2, h3, h4, h5, h6, h7⟩
  exact ⟨rfl, S'.wr, ⟨p', S', bl, bm, V, cnt, vr, vm, us, um, Q, alt', .inl ⟨h1, h2, rfl⟩⟩, h4, h5⟩

theorem plan_st {w0 w : World} {wb k dd : Nat} {r : Int} (h : LSt w0 w wb k dd r) (pd : Nat) (hpd : ∃ c1 c2 c3 c4 c5 c6, rowOf w wb = #[.pointer (some ⟨pd, 0, none⟩), c1, c2, c3, c4, c5, c6]) (n : Int) (hn : n ≤ 9223372036854775807) :
    Calls Try.prog 32 #[.pointer (some ⟨pd, 0, none⟩), .int .i64 n] w fun e w' => ∃ q, e = .returned (.int .i64 q) ∧ LSt w0 w' wb k dd r ∧ Fr (fun j => j = pd) w w' := by
  obtain ⟨p, S, bl, bm, V, cnt, vr, vm, us, um, R, alt, h⟩ := h
  have hr : rowOf w wb = #[.pointer (some ⟨p.d, 0, none⟩), .pointer (some ⟨bl, 0, none⟩), .int .i64 S.oSize, vr, vm, .bool false, .bool false] ∨ rowOf w wb = #[.pointer (some ⟨p.d, 0, none⟩), .pointer (some ⟨bl, 0, none⟩), .int .i64 S.oSize, vr, vm, .bool true, .bool true] := h.imp (·.1.ci.row) (·.1.ci.row)
  obtain ⟨c1, c2, c3, c4, c5, c6, hpd⟩ := hpd
  obtain rfl : p.d = pd := by
    rcases hr with hr | hr <;> (rw [hpd] at hr; simp at hr; exact hr.1.symm)
  have rep : DiskRep w p S := by
    rcases h with h | h
    · exact h.1.ci.st.rep
    · exact h.1.ci.st.rep
  refine (plan_rep w p S rep n hn).mono ?_
  rintro e w' ⟨rfl, r, f⟩
  exact ⟨_, rfl, ⟨p, _, bl, bm, V, cnt, vr, vm, us, um, R, alt, h.imp (fun h => ⟨h.1.plan n f r, h.2.1, by rw [(plan_len S n).2]; exact h.2.2⟩) (fun h => ⟨h.1.plan n f r, h.2.1, by rw [(plan_len S n).2]; exact h.2.2⟩)⟩, f⟩

theorem counts_st {w0 w : World} {wb k dd : Nat} {r : Int} (h : LSt w0 w wb k dd r) :
    Calls Try.prog 42 #[.pointer (some ⟨dd, 0, none⟩)] w fun e w' => ∃ sy, e = .returned (.tuple #[.int .i64 r, .int .i64 sy]) ∧ Fr (fun _ => False) w w' := by
  obtain ⟨p, S, bl, vr, vm, us, um, R, alt, o, hc, rfl, rfl⟩ := h.ci
  refine (counts_rep w p S hc.st.rep).mono ?_
  rintro e w' ⟨rfl, f⟩
  exact ⟨_, rfl, f⟩

set_option maxRecDepth 20000 in
set_option maxHeartbeats 4000000 in
theorem does_wr {w0 w : World} {wb k dd : Nat} {r : Int} (h : LSt w0 w wb k dd r) (hk : k ≤ 8388600) (cs : Array Value) (o : LOp) (hop : LOpAt w0 cs o 140737488355328) (hcr : o.d = 3 → o.n < 0) :
    Calls Try.prog 56 #[.pointer (some ⟨wb, 0, none⟩), .agg cs] w fun e w' => e = .returned (.bool true) ∧ ∃ r', LSt w0 w' wb (k + 2) dd r' ∧ r ≤ r' ∧ r' ≤ r + o.most := by
  obtain ⟨a, c, ak, ck, rfl, hb, hcap, hb2, hkp, hn1, hn2⟩ := hop
  obtain ⟨kind, on, b, l⟩ := o
  simp only at *
  have MO := Lib.hid (show (⟨kind, on, b, l⟩ : LOp).most = if kind = 0 ∨ kind = 1 then 4 + (recN b.length : Int) else 4 from rfl)
  rw [MO.out]
  have HB := Lib.hid (And.intro hb (And.intro hcap (And.intro hb2 (And.intro hkp (And.intro hn1 hn2)))))
  obtain ⟨q, hq⟩ : ∃ q, b.length = q := ⟨_, rfl⟩
  have HQ := Lib.hid hq
  obtain ⟨ql, hql⟩ : ∃ q, l.length = q := ⟨_, rfl⟩
  have HQL := Lib.hid hql
  rw [hq, hql]
  by_cases hkind : kind < 0 ∨ 3 < kind
  · obtain ⟨p, S, bl, bm, V, cnt, vr, vm, us, um, R, alt, h1 | h1⟩ := h
    · refine (look_on h1.1 kind on hkind a q c ak ql ck).mono ?_
      rintro e w' ⟨rfl, f⟩
      exact ⟨rfl, r, (LSt.fr' ⟨p, S, bl, bm, V, cnt, vr, vm, us, um, R, alt, .inl h1⟩ f).mono (by omega), Int.le_refl _, by split <;> omega⟩
    · refine (look_dead h1.1 kind on hkind a q c ak ql ck).mono ?_
      rintro e w' ⟨rfl, f⟩
      exact ⟨rfl, r, (LSt.fr' ⟨p, S, bl, bm, V, cnt, vr, vm, us, um, R, alt, .inr h1⟩ f).mono (by omega), Int.le_refl _, by split <;> omega⟩
  · have hs : ∃ pd c1 c2 c3 c4 c5 c6, rowOf w wb = #[.pointer (some ⟨pd, 0, none⟩), c1, c2, c3, c4, c5, c6] ∧ wb < w.heap.size ∧ wb ≠ pd ∧ pd < w.heap.size := by
      obtain ⟨p, S, bl, vr, vm, us, um, R, alt, o, h⟩ := h.state.ci
      exact ⟨_, _, _, _, _, _, _, h.row, live_lt h.liv, fun e => h.nwb (.inl e), h.st.lt (.inl rfl)⟩
    obtain ⟨pd, c1, c2, c3, c4, c5, c6, hrow, hlt, hpd, hpd2⟩ := hs
    have HL := Lib.hid h
    have HROW := Lib.hid hrow
    obtain ⟨W1, hW1⟩ : ∃ W1, w.alloc (.cells #[.int .i64 kind, .int .i64 on, .slice a q c, .slice ak ql ck] 102) = W1 := ⟨_, rfl⟩
    obtain ⟨b3, hb3⟩ : ∃ b, w.heap.size = b := ⟨_, rfl⟩
    have F1 := Lib.hid (show Fr (fun _ => False) w W1 by rw [← hW1]; exact (Fr.refl _ w).alloc _)
    have r3 : rowOf W1 b3 = #[.int .i64 kind, .int .i64 on, .slice a q c, .slice ak ql ck] := by rw [← hW1, ← hb3]; exact rowOf_alloc_at _ _ _ _ _ rfl
    have lb3 : b3 < W1.heap.size := by rw [← hW1, ← hb3]; simp
    have hr1 := (F1.out.row hlt (fun h => h)).trans hrow
    have L1 := Lib.hid (LSt.fr' h F1.out)
    have HW := Lib.hid (And.intro hW1 hb3)
    have WRT := Lib.hid (show ∀ kd, Calls Try.prog 58 #[.pointer (some ⟨wb, 0, none⟩), .agg #[.int .i64 kd, .int .i64 on, .slice a q c, .slice ak ql ck]] W1 fun e w' => e = .returned (.bool true) ∧ ∃ r', LSt w0 w' wb (k + 1) dd r' ∧ r ≤ r' ∧ r' ≤ r + (recN q + 1 : Nat) from fun kd => by
      rw [← HQ.out]; exact write_st L1.out (by omega) kd on a c b ak ql ck HB.out.1 HB.out.2.1 HB.out.2.2.1)
    have CRS := Lib.hid (show kind = 3 → Calls Try.prog 57 #[.pointer (some ⟨wb, 0, none⟩), .slice ak ql ck, .int .i64 on] W1 fun e w' => e = .returned (.bool true) ∧ ∃ r', LSt w0 w' wb (k + 1) dd r' ∧ r ≤ r' ∧ r' ≤ r + 1 from fun hk3 => by
      rw [← HQL.out]; exact calm_st L1.out (by omega) _ l HB.out.2.2.2.1 on (hcr hk3) HB.out.2.2.2.2.1)
    have PLN := Lib.hid (show ∀ W, Fr (fun _ => False) W1 W → Calls Try.prog 32 #[.pointer (some ⟨pd, 0, none⟩), .int .i64 on] W fun e w' => ∃ q, e = .returned (.int .i64 q) ∧ LSt w0 w' wb k dd r ∧ Fr (fun j => j = pd) W w' from fun W f =>
      plan_st (LSt.fr' L1.out f) pd ⟨c1, c2, c3, c4, c5, c6, (f.row (Nat.lt_of_lt_of_le hlt F1.out.size) (fun h => h)).trans ((F1.out.row hlt (fun h => h)).trans HROW.out)⟩ on HB.out.2.2.2.2.2)
    have lt1 := Nat.lt_of_lt_of_le hlt F1.out.size
    have nb3 : ¬ b3 = pd := by rw [← hb3]; omega
    clear h hrow hcr hW1 hb3 hb hcap hb2 hkp hn1 hn2 hq hql
    rcases (show kind = 0 ∨ kind = 1 ∨ kind = 2 ∨ kind = 3 by omega) with rfl | rfl | rfl | rfl
    · go_enter Try.func56, Try.ntmps56
      go_wp2_with fail
      rw [HW.out.1]
      refine (WRT.out 0).mono ?_
      rintro e w2 ⟨rfl, r2, h2, q1, q2⟩
      have H2 := Lib.hid (And.intro (h2.mono (Nat.le_succ _)) (And.intro q1 q2))
      clear h2 q1 q2
      go_wp2
      go_ret
      exact ⟨rfl, r2, H2.out.1, H2.out.2.1, by have := H2.out.2.2; first | omega | (rw [if_pos (by simp)]; omega)⟩
    · go_enter Try.func56, Try.ntmps56
      go_wp2_with fail
      rw [HW.out.1]
      refine (WRT.out 1).mono ?_
      rintro e w2 ⟨rfl, r2, h2, q1, q2⟩
      have H2 := Lib.hid (And.intro (h2.mono (Nat.le_succ _)) (And.intro q1 q2))
      clear h2 q1 q2
      go_wp2
      go_ret
      exact ⟨rfl, r2, H2.out.1, H2.out.2.1, by have := H2.out.2.2; first | omega | (rw [if_pos (by simp)]; omega)⟩
    · go_enter Try.func56, Try.ntmps56
      go_upto_region 6 with fail
      rw [HW.out.1]
      rw [HW.out.2]
      go_region_held3 (fun w' => rowOf w' wb = #[.pointer (some ⟨pd, 0, none⟩), c1, c2, c3, c4, c5, c6] ∧ rowOf w' b3 = #[.int .i64 2, .int .i64 on, .slice a q c, .slice ak ql ck])
        (first | assumption | (refine ⟨?_, ?_⟩ <;> first | assumption | (rw [rowOf_drew]; assumption)))
        ((go_simp; go_at_call 32; refine (PLN.out _ (Fr.refl _ _).drew).mono ?_; rintro e w2 ⟨q2, rfl, h2, f2⟩; have H2 := Lib.hid (h2.mono (show k ≤ k + 2 by omega)); have kw2 := (f2.row (g := wb) lt1 hpd).trans ((rowOf_drew _ _).trans hr1); have kb2 := (f2.row (g := b3) lb3 nb3).trans ((rowOf_drew _ _).trans r3); clear h2 f2))
      all_goals
        go_wp2
        go_ret
        exact ⟨rfl, r, H2.out, Int.le_refl _, by first | omega | (rw [if_neg (by simp)]; omega)⟩
    · go_enter Try.func56, Try.ntmps56
      go_wp2_with fail
      rw [HW.out.1]
      refine (CRS.out (by simp)).mono ?_
      rintro e w2 ⟨rfl, r2, h2, q1, q2⟩
      have H2 := Lib.hid (And.intro (h2.mono (Nat.le_succ _)) (And.intro q1 q2))
      clear h2 q1 q2
      go_wp2
      go_ret
      exact ⟨rfl, r2, H2.out.1, H2.out.2.1, by have := H2.out.2.2; first | omega | (rw [if_neg (by simp)]; omega)⟩


set_option maxRecDepth 20000 in
set_option maxHeartbeats 2000000 in
theorem writes_none (w : World) (n : Int) (v : Value) (hb : Calls Try.prog 55 #[.int .i64 n] w fun e w' => e = .returned (.tuple #[.agg noWorld, .bool false, .bool true]) ∧ Fr (fun _ => False) w w') :
    Calls Try.prog 16 #[.int .i64 n, v] w fun e w' => e = .returned (.bool true) ∧ Below w.heap.size w w' := by
  have HB := Lib.hid hb
  clear hb
  go_enter Try.func16, Try.ntmps16
  go_wp2_with fail
  refine HB.out.mono ?_
  rintro e w1 ⟨rfl, f1⟩
  have F1 := Lib.hid f1
  unfold noWorld
  clear f1
  go_wp2_with fail
  refine (live_any _).mono ?_
  rintro e w3 ⟨rfl, rfl⟩
  go_wp2
  go_ret
  exact ⟨rfl, (F1.out.alloc _).below (Nat.le_refl _) (fun _ _ h => h)⟩

theorem Begun.lst {w w1 : World} {p : DP} {S : DS} {bl bm : Nat} {V : LogV} {cnt : Nat → Nat} (h : Begun w w1 p S bl bm V cnt) :
    LSt w (w1.alloc (.cells #[.pointer (some ⟨p.d, 0, none⟩), .pointer (some ⟨bl, 0, none⟩), .int .i64 S.oSize, .slice none 0 0, .slice none 0 0, .bool false, .bool false] 98)) w1.heap.size 1 p.d S.wr :=
  ⟨p, S, bl, bm, V, cnt, _, _, _, _, _, _, .inl ⟨wi_start h, rfl, rfl⟩⟩

set_option maxRecDepth 20000 in
set_option maxHeartbeats 4000000 in
theorem writes_ok (w : World) (n : Nat) (h6 : 6 ≤ n) (h2 : n ≤ 16384) (a : Option Addr) (L c : Nat) (l : List LOp) (hv : LOpsAt w (.slice a L c) l 1048576) (hl : l.length = L) (hA : L ≤ 1048576) :
    Calls Try.prog 16 #[.int .i64 n, .slice a L c] w fun e w' => e = .returned (.bool true) ∧ Below w.heap.size w w' := by
  have HV := Lib.hid hv
  have HL := Lib.hid hl
  clear hv hl
  go_enter Try.func16, Try.ntmps16
  go_wp2_with fail
  refine (begun_ok w n h6 h2).mono ?_
  rintro e w1 ⟨p, S, bl, bm, V, cnt, rfl, hbg⟩
  have O1 := Lib.hid hbg.lst
  obtain ⟨W1, hW1⟩ : ∃ W1, w1.alloc (.cells #[.pointer (some ⟨p.d, 0, none⟩), .pointer (some ⟨bl, 0, none⟩), .int .i64 S.oSize, .slice none 0 0, .slice none 0 0, .bool false, .bool false] 98) = W1 := ⟨_, rfl⟩
  obtain ⟨wb, hwb⟩ : ∃ b, w1.heap.size = b := ⟨_, rfl⟩
  obtain ⟨sz, hsz⟩ : ∃ sz, S.oSize = sz := ⟨_, rfl⟩
  rw [hsz] at hW1 O1 ⊢
  rw [hW1, hwb] at O1
  have HW := Lib.hid (And.intro hW1 hwb)
  clear hbg hW1 hwb hsz
  go_wp2_with fail
  rw [HW.out.1, HW.out.2]
  refine (live_any _).mono ?_
  rintro e w3 ⟨rfl, rfl⟩
  go_wp2
  go_loopw [9, 10, 11, 12, 13, 14, 31] (fun _ _ _ _ _ _ i wr => ∃ (k : Nat) (r : Int), k ≤ L ∧ i = .int .i64 k ∧ Hid (LSt w wr wb (1 + 2 * k) p.d r)) (fun _ _ _ _ _ _ i _ => L - (intOf i).toNat)
  case atStart => exact ⟨0, _, Nat.zero_le _, rfl, O1⟩
  case round =>
    obtain ⟨k, r, hk, rfl, OK⟩ := hrel
    by_cases hlt : k < L
    · have hki : (k : Int) < (L : Int) := by omega
      obtain ⟨g, off, d, on, ad, q, cd, ak, ql, ck, rfl, c0, c1, c2, c3, hd, hon, hq, hop⟩ := HV.out.op (k := k) (by rw [HL.out]; exact hlt)
      obtain ⟨o, ho⟩ : ∃ o, l[k]'(by rw [HL.out]; exact hlt) = o := ⟨_, rfl⟩
      rw [ho] at hd hon hq hop
      have HOP := Lib.hid hop
      have OD := Lib.hid (And.intro hd (And.intro hon hq))
      have hq20 : q ≤ 1048576 := by
        obtain ⟨_, _, _, _, _, _, _, h3, _⟩ := hop
        rw [hq]; exact h3
      have hg : g < w.heap.size := rowOf_lt (by obtain ⟨h, _⟩ := Array.getElem?_eq_some_iff.1 c0; omega)
      have er := OK.out.state.fr.row hg (fun h => h)
      rw [← er] at c0 c1 c2 c3
      obtain ⟨e1, e2, e3, e4, e5, e6, hrow, hliv⟩ := OK.out.row
      obtain ⟨b0, b1⟩ := OK.out.bound
      have hwl := live_lt hliv
      clear hop er ho hd hon hq
      go_wp2_with fail
      obtain ⟨W2, hW2⟩ : ∃ W2, wr.alloc (.cells #[.int .i64 d, .int .i64 on, .slice ad q cd, .slice ak ql ck] 102) = W2 := ⟨_, rfl⟩
      obtain ⟨b9, hb9⟩ : ∃ b, wr.heap.size = b := ⟨_, rfl⟩
      have F2 := Lib.hid (show Fr (fun _ => False) wr W2 by rw [← hW2]; exact (Fr.refl _ wr).alloc _)
      have R2 := Lib.hid (show rowOf W2 b9 = #[.int .i64 d, .int .i64 on, .slice ad q cd, .slice ak ql ck] ∧ live W2 b9 = true by rw [← hW2, ← hb9]; exact ⟨rowOf_alloc_at _ _ _ _ _ rfl, live_alloc_at _ _ _ _ rfl⟩)
      have NB := Lib.hid (show wb ≠ b9 ∧ wr.heap.size ≤ b9 from ⟨by omega, by omega⟩)
      rw [hW2, hb9]
      clear hW2 hb9
      refine (counts_st (LSt.fr' OK.out F2.out)).mono ?_
      rintro e w4 ⟨sy, rfl, f4⟩
      have F4 := Lib.hid (F2.out.trans f4 (fun _ _ h => h))
      have r9 := (f4.row (live_lt R2.out.2) (fun h => h)).trans R2.out.1
      have l9 := (f4.liv (live_lt R2.out.2) (fun h => h)).trans R2.out.2
      have rwb := (F4.out.row hwl (fun h => h)).trans hrow
      clear f4
      have ENDR := Lib.hid (show ∀ (W : World) (on' : Int), Fr (fun _ => False) wr W → (d = 3 → on' < 0) → LOpAt w #[.int .i64 d, .int .i64 on', .slice ad q cd, .slice ak ql ck] { o with n := on' } 140737488355328 → Calls Try.prog 56 #[.pointer (some ⟨wb, 0, none⟩), .agg #[.int .i64 d, .int .i64 on', .slice ad q cd, .slice ak ql ck]] W fun e w' => e = .returned (.bool true) ∧ ∃ r', LSt w w' wb (1 + 2 * k + 2) p.d r' ∧ r ≤ r' ∧ r' ≤ r + (if d = 0 ∨ d = 1 then 4 + (recN q : Int) else 4) from
        fun W on' f h3 hop => by
          have := does_wr (LSt.fr' OK.out f) (by omega) _ _ hop (fun h => h3 (by rw [OD.out.1]; exact h))
          have e : LOp.most { o with n := on' } = if d = 0 ∨ d = 1 then 4 + (recN q : Int) else 4 := by unfold LOp.most; simp only; rw [OD.out.1, OD.out.2.2]
          rw [e] at this; exact this)
      have OPN := Lib.hid (show LOpAt w #[.int .i64 d, .int .i64 on, .slice ad q cd, .slice ak ql ck] { o with n := on } 140737488355328 by
        obtain ⟨x1, x2, x3, x4, y1, y2, y3, y4, y5, y6, y7⟩ := HOP.out
        exact ⟨x1, x2, x3, x4, by rw [y1, OD.out.2.1], y2, y3, by show o.data.length ≤ _; omega, y5, by rw [OD.out.2.1]; exact y6, by rw [OD.out.2.1]; exact y7⟩)
      have OPM := Lib.hid (show LOpAt w #[.int .i64 d, .int .i64 (-1), .slice ad q cd, .slice ak ql ck] { o with n := -1 } 140737488355328 by
        obtain ⟨x1, x2, x3, x4, y1, y2, y3, y4, y5, y6, y7⟩ := HOP.out
        simp at y1
        exact ⟨x1, x2, x3, x4, by simp [y1], y2, y3, by show o.data.length ≤ _; omega, y5, by simp, by simp⟩)
      have BN := Lib.hid (blocksI_nat q)
      have hm26 : recN q ≤ 1048577 := by unfold recN; split <;> omega
      obtain ⟨m, hm⟩ : ∃ m, recN q = m := ⟨_, rfl⟩
      rw [hm] at ENDR hm26
      have HM := Lib.hid hm
      clear hm
      by_cases h01 : d = 0 ∨ d = 1
      · have RR := Lib.hid (show (if d = 0 ∨ d = 1 then 4 + (m : Int) else 4) = 4 + (m : Int) from if_pos h01)
        rcases h01 with rfl | rfl
        all_goals
          go_wp2_with fail
          refine (refBlocks_any _ (by omega) _).mono ?_
          rintro e w' ⟨rfl, rfl⟩
          rw [BN.out, HM.out]
          go_wp2_with fail
          refine (ENDR.out _ on F4.out (fun h => by omega) OPN.out).mono ?_
          rintro e w5 ⟨rfl, r2, h5, q1, q2⟩
          rw [RR.out] at q2
          have H5 := Lib.hid h5
          obtain ⟨x1, x2, x3, x4, x5, x6, hrow5, -⟩ := h5.row
          clear h5
          go_wp2_with fail
          refine (counts_st H5.out).mono ?_
          rintro e w6 ⟨sy2, rfl, f6⟩
          have H6 := Lib.hid (LSt.fr' H5.out f6)
          clear f6
          have hsub : ¬ (4 + (m : Int)) < r2 - r := by omega
          have hb2 := H6.out.bound
          go_wp2
          go_roundw
          case rel => exact ⟨k + 1, r2, by omega, by go_num, Lib.hid (by have := H6.out; rwa [show 1 + 2 * k + 2 = 1 + 2 * (k + 1) by omega] at this)⟩
          case measure => simp [intOf]; omega
      · have RR := Lib.hid (show (if d = 0 ∨ d = 1 then 4 + (m : Int) else 4) = 4 from if_neg h01)
        have d0 : (d == 0) = false := by simp; omega
        have d1 : (d == 1) = false := by simp; omega
        by_cases h3 : d = 3
        · subst h3
          go_wp2_with fail
          refine (ENDR.out _ (-1) (F4.out.setNew (g := b9) NB.out.2 _) (fun h => by omega) OPM.out).mono ?_
          rintro e w5 ⟨rfl, r2, h5, q1, q2⟩
          rw [RR.out] at q2
          have H5 := Lib.hid h5
          obtain ⟨x1, x2, x3, x4, x5, x6, hrow5, -⟩ := h5.row
          clear h5
          go_wp2_with fail
          refine (counts_st H5.out).mono ?_
          rintro e w6 ⟨sy2, rfl, f6⟩
          have H6 := Lib.hid (LSt.fr' H5.out f6)
          clear f6
          have hsub : ¬ (4 : Int) < r2 - r := by omega
          have hb2 := H6.out.bound
          go_wp2
          go_roundw
          case rel => exact ⟨k + 1, r2, by omega, by go_num, Lib.hid (by have := H6.out; rwa [show 1 + 2 * k + 2 = 1 + 2 * (k + 1) by omega] at this)⟩
          case measure => simp [intOf]; omega
        · have d3 : (d == 3) = false := by simp; omega
          go_wp2_with fail
          refine (ENDR.out _ on F4.out (fun h => absurd h h3) OPN.out).mono ?_
          rintro e w5 ⟨rfl, r2, h5, q1, q2⟩
          rw [RR.out] at q2
          have H5 := Lib.hid h5
          obtain ⟨x1, x2, x3, x4, x5, x6, hrow5, -⟩ := h5.row
          clear h5
          go_wp2_with fail
          refine (counts_st H5.out).mono ?_
          rintro e w6 ⟨sy2, rfl, f6⟩
          have H6 := Lib.hid (LSt.fr' H5.out f6)
          clear f6
          have hsub : ¬ (4 : Int) < r2 - r := by omega
          have hb2 := H6.out.bound
          go_wp2
          go_roundw
          case rel => exact ⟨k + 1, r2, by omega, by go_num, Lib.hid (by have := H6.out; rwa [show 1 + 2 * k + 2 = 1 + 2 * (k + 1) by omega] at this)⟩
          case measure => simp [intOf]; omega
    · obtain rfl : k = L := by omega
      go_wp2
      go_ret
      exact ⟨rfl, OK.out.state.fr.below (Nat.le_refl _) (fun _ _ h => h)⟩

theorem writes_all (w : World) (n : Int) (a : Option Addr) (L c : Nat) (l : List LOp) (hv : LOpsAt w (.slice a L c) l 1048576) (hA : l.length ≤ 1048576) :
    Calls Try.prog 16 #[.int .i64 n, .slice a L c] w fun e w' => e = .returned (.bool true) ∧ Below w.heap.size w w' := by
  by_cases h1 : n < 1 ∨ 16384 < n
  · exact writes_none w n _ (begun_bad w n h1)
  · obtain ⟨m, rfl⟩ : ∃ m : Nat, n = m := ⟨n.toNat, by omega⟩
    by_cases h6 : m < 6
    · exact writes_none w _ _ (begun_small w m (by omega) h6)
    · have hl : l.length = L := by
        obtain ⟨a', c', e, -⟩ := hv
        simp only [Value.slice.injEq] at e; exact e.2.1.symm
      exact writes_ok w m (by omega) (by omega) a L c l hv hl (by omega)

end Go.Proofs.Ytflnlpbcmcfblaa
