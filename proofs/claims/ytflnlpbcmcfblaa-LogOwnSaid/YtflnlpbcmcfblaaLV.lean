/-
  The laws' world of package log: write, does, begun.
-/
import Derived.Test.YtflnlpbcmcfblaaLW
namespace Go.Proofs.Ytflnlpbcmcfblaa
open Go.RowKit

/-! ### The laws' world of package log: write, does, begun. -/
section
variable {w0 w : World} {wb : Nat} {p : DP} {S : DS} {bl bm : Nat} {V : LogV} {cnt : Nat → Nat} {vr vm : Value} {us um : List Value} {R alt : List (List UInt8)} {k : Nat}

theorem write_on (H : WI w0 w wb p S bl bm V cnt vr vm us um R alt k) (hk : k ≤ 8388608) (kind on : Int) (a : Option Addr) (c : Nat) (b : List UInt8) (ak : Option Addr) (nk ck : Nat) (hb : BytesAt w0 (.slice a b.length c) b) (hcap : b.length ≤ c) (hb2 : b.length ≤ 140737488355328) :
    Calls Try.prog 58 #[.pointer (some ⟨wb, 0, none⟩), .agg #[.int .i64 kind, .int .i64 on, .slice a b.length c, .slice ak nk ck]] w fun e w' => e = .returned (.bool true) ∧ Wrote w0 w' wb p S false k (recN b.length + 1) := by
  refine write_walk w0 w wb p S bl bm V cnt vr vm us um R alt false k H.ci H.log H.wbl H.nbl H.nbm H.rf2 H.mf2 (fun h => by cases h) (fun _ => ⟨H.on.off, H.on⟩) kind on a c b ak nk ck hb hb2 (fun W f => ?_) (fun W f => ?_)
  · refine (log_append w0 W p S (H.ci.st.calm f (fun _ h => h.elim)) bl bm V cnt R k (H.log.keep f rfl (fun h => h) (fun h => h) (fun _ h => .inl h)) H.on hk H.wbl a c b ((hb.later H.ci.st.fr).later f) hcap).mono ?_
    rintro e w' ⟨p', S', V', got, rfl, lo, o⟩
    exact ⟨p', S', V', got, rfl, lo, .inr ⟨rfl, o⟩⟩
  · refine (log_check w0 W p S (H.ci.st.calm f (fun _ h => h.elim)) bl bm V cnt R k (H.log.keep f rfl (fun h => h) (fun h => h) (fun _ h => .inl h)) H.on hk H.wbl a c b ((hb.later H.ci.st.fr).later f) hcap).mono ?_
    rintro e w' ⟨p', S', V', got, rfl, lo, o⟩
    exact ⟨p', S', V', got, rfl, lo, .inr ⟨rfl, o⟩⟩

theorem write_dead (H : WD w0 w wb p S bl bm V cnt vr vm us um R alt k) (kind on : Int) (a : Option Addr) (c : Nat) (b : List UInt8) (ak : Option Addr) (nk ck : Nat) (hb : BytesAt w0 (.slice a b.length c) b) (hb2 : b.length ≤ 140737488355328) :
    Calls Try.prog 58 #[.pointer (some ⟨wb, 0, none⟩), .agg #[.int .i64 kind, .int .i64 on, .slice a b.length c, .slice ak nk ck]] w fun e w' => e = .returned (.bool true) ∧ Wrote w0 w' wb p S true k (recN b.length + 1) := by
  have hl : lookE V.over b.length = 7 := by unfold lookE; rw [H.vo]; rfl
  refine write_walk w0 w wb p S bl bm V cnt vr vm us um R alt true k H.ci H.log H.wbl H.nbl H.nbm H.rf2 H.mf2 (fun _ => ⟨H.vo, H.off⟩) (fun h => by cases h) kind on a c b ak nk ck hb hb2 (fun W f => ?_) (fun W f => ?_)
  · have L := H.log.keep (p' := p) f rfl (fun h => h) (fun h => h) (fun _ h => .inl h)
    refine (append_bad W p bl bm V _ cnt L a _ c (by rw [hl]; simp)).mono ?_
    rintro e w' ⟨rfl, rfl⟩
    rw [hl]
    exact ⟨p, S, V, 7, rfl, ⟨rfl, H.ci.st.calm f (fun _ h => h.elim), L, Moves.refl _ _⟩, .inl ⟨rfl, rfl, rfl, rfl⟩⟩
  · have L := H.log.keep (p' := p) f rfl (fun h => h) (fun h => h) (fun _ h => .inl h)
    refine (check_bad W p bl bm V _ cnt L a _ c (by rw [hl]; simp)).mono ?_
    rintro e w' ⟨rfl, rfl⟩
    rw [hl]
    exact ⟨p, S, V, 7, rfl, ⟨rfl, H.ci.st.calm f (fun _ h => h.elim), L, Moves.refl _ _⟩, .inl ⟨rfl, rfl, rfl, rfl⟩⟩

set_option maxRecDepth 20000 in
set_option maxHeartbeats 2000000 in
/-- Look, at a log that stands open. -/
theorem look_on (H : WI w0 w wb p S bl bm V cnt vr vm us um R alt k) (kind on : Int) (hkind : kind < 0 ∨ 3 < kind) (ad : Option Addr) (nd cd : Nat) (ak : Option Addr) (nk ck : Nat) :
    Calls Try.prog 56 #[.pointer (some ⟨wb, 0, none⟩), .agg #[.int .i64 kind, .int .i64 on, .slice ad nd cd, .slice ak nk ck]] w fun e w' => e = .returned (.bool true) ∧ Fr (fun _ => False) w w' := by
  have HH := Lib.hid H
  have hrow := H.ci.row
  have hlt := live_lt H.ci.liv
  obtain ⟨ar, nr, cr, rfl⟩ : ∃ a n c, vr = .slice a n c := by obtain ⟨a, c, e⟩ := H.ci.rl.list.shape; exact ⟨a, _, c, e⟩
  obtain ⟨am, nm, cm, rfl⟩ : ∃ a n c, vm = .slice a n c := by obtain ⟨a, c, e⟩ := H.ci.ml.list.shape; exact ⟨a, _, c, e⟩
  obtain ⟨sz, hsz⟩ : ∃ sz, S.oSize = sz := ⟨_, rfl⟩
  have hu := H.on.used
  have hv := H.on.vok
  have ho := H.on.live.vo
  have hvr := H.on.live.vr
  rw [hsz] at hrow hu
  have hnr : nr = R.length := by
    obtain ⟨a', c', e⟩ := H.ci.rl.list.shape
    simp only [Value.slice.injEq] at e; exact e.2.1
  have k0 : (kind == 0) = false := by simp; omega
  have k1 : (kind == 1) = false := by simp; omega
  have k2 : (kind == 2) = false := by simp; omega
  have k3 : (kind == 3) = false := by simp; omega
  have RM := Lib.hid (show ∀ W, Fr (fun _ => False) w W → Calls Try.prog 53 #[.pointer (some ⟨bl, 0, none⟩)] W fun e w' => e = .returned (.int .i64 (sz - sumN R : Nat)) ∧ Fr (fun _ => False) W w' from fun W f => by
    have L := HH.out.log.keep (p' := p) f rfl (fun h => h) (fun h => h) (fun _ h => .inl h)
    refine (room_any W bl p.d V.h V.slot V.size V.used V.records V.over bm L.row (by omega) (by have := hv.z; omega)).mono ?_
    rintro e w' ⟨rfl, f2, -⟩
    refine ⟨?_, f2⟩
    unfold roomN; rw [ho, hu.2.2, hu.1]; rfl)
  have CT := Lib.hid (show ∀ W, Fr (fun _ => False) w W → Calls Try.prog 54 #[.pointer (some ⟨bl, 0, none⟩)] W fun e w' => e = .returned (.int .i64 (nr : Nat)) ∧ W = w' from fun W f => by
    have L := HH.out.log.keep (p' := p) f rfl (fun h => h) (fun h => h) (fun _ h => .inl h)
    refine (count_any W bl p.d V.h V.slot V.size V.used V.records V.over bm L.row).mono ?_
    rintro e w' ⟨rfl, rfl⟩
    refine ⟨?_, rfl⟩
    rw [ho, hvr, hnr]; rfl)
  have hn1 := H.ci.dead.d.ok.n1
  have hszb : sz ≤ 16384 := by unfold DS.oSize at hsz; omega
  have RR := Lib.hid (show ∀ W, Fr (fun _ => False) w W → Calls Try.prog 60 #[.agg #[.int .i64 sz, .slice ar nr cr]] W fun e w' => e = .returned (.int .i64 (sz - sumN R : Nat)) ∧ Fr (fun _ => False) W w' from fun W f =>
    refRoom_any W sz _ R (HH.out.ci.rl.list.keep0 f) hszb (by rw [← hsz]; exact HH.out.ci.hs) HH.out.ci.hR)
  obtain ⟨r, hr⟩ : ∃ r, sz - sumN R = r := ⟨_, rfl⟩
  rw [hr] at RM RR
  clear H hu hv ho hvr hnr hsz hr hn1 hszb hkind
  go_enter Try.func56, Try.ntmps56
  go_upto_region 12 with fail
  obtain ⟨W1, hW1⟩ : ∃ W1, w.alloc (.cells #[.int .i64 kind, .int .i64 on, .slice ad nd cd, .slice ak nk ck] 102) = W1 := ⟨_, rfl⟩
  have F1 := Lib.hid (show Fr (fun _ => False) w W1 by rw [← hW1]; exact (Fr.refl _ w).alloc _)
  have r1 := (F1.out.row hlt (fun h => h)).trans hrow
  have hlt1 := Nat.lt_of_lt_of_le hlt F1.out.size
  rw [hW1]
  clear hW1
  go_region_held3 (fun w' => rowOf w' wb = #[.pointer (some ⟨p.d, 0, none⟩), .pointer (some ⟨bl, 0, none⟩), .int .i64 sz, .slice ar nr cr, .slice am nm cm, .bool false, .bool false])
    (first | assumption | (rw [rowOf_drew]; assumption))
    (first | (go_simp; go_at_call 53; refine (RM.out _ F1.out.drew).mono ?_; rintro e w2 ⟨rfl, f2⟩; have F2 := Lib.hid f2; have k2' := (f2.row (g := wb) hlt1 (fun h => h)).trans ((rowOf_drew _ _).trans r1); have hlt2 := Nat.lt_of_lt_of_le hlt1 f2.size; clear f2) | (go_simp; go_at_call 60; refine (RR.out _ (F1.out.drew.trans F2.out (fun _ _ h => h))).mono ?_; rintro e w3 ⟨rfl, f3⟩; have F3 := Lib.hid f3; have k3' := (f3.row (g := wb) hlt2 (fun h => h)).trans k2'; clear f3) | (go_simp; go_at_call 54; refine (CT.out _ ((F1.out.drew.trans F2.out (fun _ _ h => h)).trans F3.out (fun _ _ h => h))).mono ?_; rintro e w4 ⟨rfl, rfl⟩))
  all_goals
    go_wp2
    go_ret
    exact ⟨rfl, (F1.out.drew.trans F2.out (fun _ _ h => h)).trans F3.out (fun _ _ h => h)⟩
end

/-! ### The laws' world of package log: begun. -/
theorem size98 : (Try.prog.info? 98).map (·.size) = some 7 := by kernel_rfl
theorem results55 {w : World} {t : Array Value} {g : Nat} {q1 q2 : Bool} {c0 c1 c2 c3 c4 c5 c6 : Value} (h2 : t[2]?.getD undef = .pointer (some ⟨g, 0, none⟩)) (h3 : t[3]?.getD undef = .bool q1) (h4 : t[4]?.getD undef = .bool q2) (hr : rowOf w g = #[c0, c1, c2, c3, c4, c5, c6]) :
    (results Try.f55 t).run Try.prog w = .ok (.tuple #[.agg #[c0, c1, c2, c3, c4, c5, c6], .bool q1, .bool q2]) w := by
  cases hi : Try.prog.info? 98 with
  | none => have := size98; rw [hi] at this; cases this
  | some i =>
    have hs : i.size = 7 := by have := size98; rw [hi] at this; exact Option.some.inj this
    simp [results, Try.results55, go_sem, h2, h3, h4, isAgg, run_underlying Try.underlying98, sizeOf, typeInfo, hi, hs, hr]

def noWorld : Array Value := #[.pointer none, .pointer none, .int .i64 0, .slice none 0 0, .slice none 0 0, .bool false, .bool false]

set_option maxRecDepth 20000 in
set_option maxHeartbeats 2000000 in
theorem begun_bad (w : World) (n : Int) (h : n < 1 ∨ 16384 < n) :
    Calls Try.prog 55 #[.int .i64 n] w fun e w' => e = .returned (.tuple #[.agg noWorld, .bool false, .bool true]) ∧ Fr (fun _ => False) w w' := by
  have HN := Lib.hid h
  unfold noWorld
  rcases h with h | h
  · go_enter Try.func55, Try.ntmps55
    go_wp2_with fail
    refine (new_bad _ n HN.out).mono ?_
    rintro e w1 ⟨rfl, rfl⟩
    go_wp2
    exact bodyPost_ret (results55 rfl rfl rfl (rowOf_alloc_at _ _ _ _ _ (by simp))) rfl ⟨rfl, (Fr.refl _ w).alloc _⟩
  · have h1 : ¬ n < 1 := by omega
    go_enter Try.func55, Try.ntmps55
    go_wp2_with fail
    refine (new_bad _ n HN.out).mono ?_
    rintro e w1 ⟨rfl, rfl⟩
    go_wp2
    exact bodyPost_ret (results55 rfl rfl rfl (rowOf_alloc_at _ _ _ _ _ (by simp))) rfl ⟨rfl, (Fr.refl _ w).alloc _⟩

set_option maxRecDepth 20000 in
set_option maxHeartbeats 2000000 in
theorem begun_small (w : World) (n : Nat) (h1 : 1 ≤ n) (h6 : n < 6) :
    Calls Try.prog 55 #[.int .i64 n] w fun e w' => e = .returned (.tuple #[.agg noWorld, .bool false, .bool true]) ∧ Fr (fun _ => False) w w' := by
  unfold noWorld
  obtain ⟨m, hm⟩ : ∃ m, (n - 2) / 2 = m := ⟨_, rfl⟩
  have RN := Lib.hid (show ∀ W, Calls Try.prog 59 #[.int .i64 n] W fun e w' => e = .returned (.tuple #[.agg #[.int .i64 m, .slice none 0 0], .bool false]) ∧ Fr (fun _ => False) W w' from fun W => by
    have := refNew_any W n h1 (by omega)
    rw [hm, decide_eq_false (by omega)] at this; exact this)
  clear hm
  go_enter Try.func55, Try.ntmps55
  go_wp2_with fail
  obtain ⟨W1, hW1⟩ : ∃ W1, w.alloc (.cells #[.pointer none, .pointer none, .int .i64 0, .slice none 0 0, .slice none 0 0, .bool false, .bool false] 98) = W1 := ⟨_, rfl⟩
  obtain ⟨b2, hb2⟩ : ∃ b, w.heap.size = b := ⟨_, rfl⟩
  have F1 := Lib.hid (show Fr (fun _ => False) w W1 by rw [← hW1]; exact (Fr.refl _ w).alloc _)
  have R1 := Lib.hid (show rowOf W1 b2 = #[.pointer none, .pointer none, .int .i64 0, .slice none 0 0, .slice none 0 0, .bool false, .bool false] ∧ live W1 b2 = true by rw [← hW1, ← hb2]; exact ⟨rowOf_alloc_at _ _ _ _ _ rfl, live_alloc_at _ _ _ _ rfl⟩)
  have B2 := Lib.hid hb2
  rw [hW1, hb2]
  clear hW1 hb2
  refine (new_ok W1 n h1 (by omega)).mono ?_
  rintro e w2 ⟨p, rfl, r2, f2, hf2⟩
  have D2 := Lib.hid r2
  have F2 := Lib.hid f2
  clear r2 f2 hf2
  go_wp2_with fail
  refine (RN.out w2).mono ?_
  rintro e w3 ⟨rfl, f3⟩
  have F3 := Lib.hid f3
  clear f3
  go_wp2_with fail
  obtain ⟨W4, hW4⟩ : ∃ W4, w3.alloc (.cells #[.int .i64 m, .slice none 0 0] 96) = W4 := ⟨_, rfl⟩
  have F4 := Lib.hid (show Fr (fun _ => False) w2 W4 by rw [← hW4]; exact F3.out.alloc _)
  rw [hW4]
  clear hW4
  refine (format_small W4 p _ (D2.out.keep F4.out (fun _ _ h => h)) (by simp [DS.new]; exact h6)).mono ?_
  rintro e w5 ⟨rfl, rfl⟩
  have FA := Lib.hid ((F1.out.trans F2.out (fun _ _ h => h)).trans F4.out (fun _ _ h => h))
  have FB := F2.out.trans F4.out (fun _ _ h => h)
  have l2 := live_lt R1.out.2
  have r5 := (FB.row l2 (fun h => h)).trans R1.out.1
  have l5 := (FB.liv l2 (fun h => h)).trans R1.out.2
  clear FB
  go_wp2
  exact bodyPost_ret (results55 rfl rfl rfl (rowOf_setRow_same _ _ _ l5)) rfl ⟨rfl, FA.out.setNew (by have := B2.out; omega) _⟩

/-- A formatted disk. -/
structure Begun (w0 w : World) (p : DP) (S : DS) (bl bm : Nat) (V : LogV) (cnt : Nat → Nat) : Prop where
  st : St w0 w p S
  log : LogAt w p bl bm V S.data.length cnt
  on : OnS S V cnt [] 1
  pl : S.pl = false
  wbl : w0.heap.size ≤ bl
  wbm : w0.heap.size ≤ bm

set_option maxRecDepth 20000 in
set_option maxHeartbeats 2000000 in
theorem begun_ok (w : World) (n : Nat) (h6 : 6 ≤ n) (h2 : n ≤ 16384) :
    Calls Try.prog 55 #[.int .i64 n] w fun e w' => ∃ p S bl bm V cnt, e = .returned (.tuple #[.agg #[.pointer (some ⟨p.d, 0, none⟩), .pointer (some ⟨bl, 0, none⟩), .int .i64 S.oSize, .slice none 0 0, .slice none 0 0, .bool false, .bool false], .bool true, .bool true]) ∧ Begun w w' p S bl bm V cnt := by
  obtain ⟨m, hm⟩ : ∃ m, (n - 2) / 2 = m := ⟨_, rfl⟩
  have RN := Lib.hid (show ∀ W, Calls Try.prog 59 #[.int .i64 n] W fun e w' => e = .returned (.tuple #[.agg #[.int .i64 m, .slice none 0 0], .bool true]) ∧ Fr (fun _ => False) W w' from fun W => by
    have := refNew_any W n (by omega) h2
    rw [hm, decide_eq_true h6] at this; exact this)
  have hlen : (DS.new n).data.length = n := by simp [DS.new]
  have HM := Lib.hid hm
  have HL := Lib.hid hlen
  clear hm hlen
  go_enter Try.func55, Try.ntmps55
  go_wp2_with fail
  obtain ⟨W1, hW1⟩ : ∃ W1, w.alloc (.cells #[.pointer none, .pointer none, .int .i64 0, .slice none 0 0, .slice none 0 0, .bool false, .bool false] 98) = W1 := ⟨_, rfl⟩
  obtain ⟨b2, hb2⟩ : ∃ b, w.heap.size = b := ⟨_, rfl⟩
  have F1 := Lib.hid (show Fr (fun _ => False) w W1 by rw [← hW1]; exact (Fr.refl _ w).alloc _)
  have R1 := Lib.hid (show rowOf W1 b2 = #[.pointer none, .pointer none, .int .i64 0, .slice none 0 0, .slice none 0 0, .bool false, .bool false] ∧ live W1 b2 = true by rw [← hW1, ← hb2]; exact ⟨rowOf_alloc_at _ _ _ _ _ rfl, live_alloc_at _ _ _ _ rfl⟩)
  have B2 := Lib.hid hb2
  rw [hW1, hb2]
  clear hW1 hb2
  refine (new_ok W1 n (by omega) h2).mono ?_
  rintro e w2 ⟨p, rfl, r2, f2, hf2⟩
  have D2 := Lib.hid (show St w w2 p (DS.new n) from ⟨F1.out.trans f2 (fun _ _ h => h), r2, fun k hk => Nat.le_trans F1.out.size (hf2 k hk)⟩)
  have PF := Lib.hid hf2
  have F2 := Lib.hid f2
  clear r2 f2 hf2
  go_wp2_with fail
  refine (RN.out w2).mono ?_
  rintro e w3 ⟨rfl, f3⟩
  have F3 := Lib.hid f3
  clear f3
  go_wp2_with fail
  obtain ⟨W4, hW4⟩ : ∃ W4, w3.alloc (.cells #[.int .i64 m, .slice none 0 0] 96) = W4 := ⟨_, rfl⟩
  obtain ⟨b7, hb7⟩ : ∃ b, w3.heap.size = b := ⟨_, rfl⟩
  have F4 := Lib.hid (show Fr (fun _ => False) w2 W4 by rw [← hW4]; exact F3.out.alloc _)
  have R7 := Lib.hid (show rowOf W4 b7 = #[.int .i64 m, .slice none 0 0] by rw [← hW4, ← hb7]; exact rowOf_alloc_at _ _ _ _ _ rfl)
  have B7 := Lib.hid (show w2.heap.size ≤ b7 ∧ b7 < W4.heap.size by rw [← hW4, ← hb7]; exact ⟨F3.out.size, by simp⟩)
  rw [hW4, hb7]
  clear hW4 hb7
  have ST4 := Lib.hid (D2.out.calm F4.out (fun _ h => h.elim))
  obtain ⟨z1, z2, z3, z4⟩ := format_state (S := DS.new n) ST4.out.rep.ok (by rw [HL.out]; exact h6) rfl rfl rfl rfl
  have Z := Lib.hid (And.intro z2 (And.intro z3 z4))
  have FT := Lib.hid (format_any w W4 p (DS.new n) ST4.out (by rw [HL.out]; exact h6) rfl (by simp [DS.new]) z1)
  clear z1 z2 z3 z4
  refine FT.out.mono ?_
  rintro e w5 ⟨p5, bl, bm, hp5, rfl, st5, mv5, lg5, hbl, hbm⟩
  obtain ⟨S5, hS5⟩ : ∃ S5, (DS.new n).fDone.2 = S5 := ⟨_, rfl⟩
  rw [hS5] at st5 Z
  have ST5 := Lib.hid st5
  have LG5 := Lib.hid lg5
  have P5 := Lib.hid hp5
  have BB := Lib.hid (And.intro hbl hbm)
  have pf2 : ¬ p.foot b2 := fun e => by have := PF.out b2 e; have := live_lt R1.out.2; omega
  have pf7 : ¬ p.foot b7 := fun e => by have := D2.out.lt e; have := B7.out.1; omega
  have FB := F2.out.trans F4.out (fun _ _ h => h)
  have l2 := live_lt R1.out.2
  have l24 := Nat.lt_of_lt_of_le l2 FB.size
  have r5 := (mv5.fr.row l24 pf2).trans ((FB.row l2 (fun h => h)).trans R1.out.1)
  have l5 := (mv5.fr.liv l24 pf2).trans ((FB.liv l2 (fun h => h)).trans R1.out.2)
  have r75 := (mv5.fr.row B7.out.2 pf7).trans R7.out
  have NF := Lib.hid (show ¬ p5.foot b2 from fun e => (mv5.new b2 e).elim pf2 (fun h => by omega))
  clear FB hS5 st5 lg5 hp5 hbl hbm mv5
  go_wp2
  have FX := (Fr.refl (fun j => j = b2) w5).setRow b2 #[.pointer (some ⟨p.d, 0, none⟩), .pointer (some ⟨bl, 0, none⟩), .int .i64 m, .slice none 0 0, .slice none 0 0, .bool false, .bool false] (fun _ => rfl)
  have hz5 : S5.oSize = m := by unfold DS.oSize; rw [Z.out.2.2, HL.out]; exact HM.out
  have hw := F1.out.size
  have hw2 := F2.out.size
  have hw4 := F4.out.size
  have hb2 := B2.out
  refine bodyPost_ret (results55 rfl rfl rfl (rowOf_setRow_same _ _ _ l5)) rfl ⟨p5, S5, bl, bm, (DS.new n).fLog, genCnt (DS.new n).reads, by rw [P5.out, hz5], ?_⟩
  refine ⟨ST5.out.calm FX (fun j e => ⟨by omega, fun hj => NF.out (e ▸ hj)⟩), ?_, Z.out.1 ST5.out.rep.ok, Z.out.2.1, by have := BB.out.1; omega, by have := BB.out.2; omega⟩
  have := LG5.out.keep (p' := p5) FX rfl (fun e => by have := BB.out.1; omega) (fun e => by have := BB.out.2; omega) (fun k hk => .inl hk)
  rwa [Z.out.2.2]

/-! ### LogFits: the walk. -/
/-- Records that came in. -/
def BytesList (w : World) (v : Value) (A : List (List UInt8)) (B : Nat) : Prop :=
  ∃ a cap, v = .slice a A.length cap ∧ (A = [] ∨ ∃ g off, a = some ⟨g, off, none⟩ ∧ ∀ i (h : i < A.length), ∃ ai ci, (rowOf w g)[off + i]? = some (.slice ai A[i].length ci) ∧ BytesAt w (.slice ai A[i].length ci) A[i] ∧ A[i].length ≤ ci ∧ A[i].length ≤ B)

theorem wi_start {w w1 : World} {p : DP} {S : DS} {bl bm : Nat} {V : LogV} {cnt : Nat → Nat} (h : Begun w w1 p S bl bm V cnt) :
    WI w (w1.alloc (.cells #[.pointer (some ⟨p.d, 0, none⟩), .pointer (some ⟨bl, 0, none⟩), .int .i64 S.oSize, .slice none 0 0, .slice none 0 0, .bool false, .bool false] 98)) w1.heap.size p S bl bm V cnt (.slice none 0 0) (.slice none 0 0) [] [] [] [] 1 := by
  have f := (Fr.refl (fun _ => False) w1).alloc (.cells #[.pointer (some ⟨p.d, 0, none⟩), .pointer (some ⟨bl, 0, none⟩), .int .i64 S.oSize, .slice none 0 0, .slice none 0 0, .bool false, .bool false] 98)
  have nf : ∀ j, ¬ recsFoot (.slice none 0 0) [] j := fun j hj => hj.elim (fun h => by cases h) (fun ⟨_, h, _⟩ => by cases h)
  have h1 := live_lt h.log.liv
  have h2 := h.log.map.lt
  exact ⟨⟨h.st.calm f (fun _ h => h.elim), rowOf_alloc_at _ _ _ _ _ rfl, live_alloc_at _ _ _ _ rfl, fun e => by have := h.st.lt e; omega, h.st.fr.size, RefL.nil _, RefL.nil _, fun j hj => (nf j hj).elim, fun j hj => (nf j hj).elim, h.on.dead _ _, fun _ h => (by cases h), fun _ h => (by cases h), by simp [sumN]⟩,
    h.log.keep f rfl (fun h => h) (fun h => h) (fun _ h => .inl h), h.on, h.wbl, by omega, by omega, fun j hj => (nf j hj).elim, fun j hj => (nf j hj).elim⟩

/-- The laws' world with a log that stands open, whatever it holds. -/
def Open1 (w0 w : World) (wb : Nat) (k : Nat) : Prop := ∃ p S bl bm V cnt vr vm us um R alt, WI w0 w wb p S bl bm V cnt vr vm us um R alt k ∧ S.pl = false

theorem Wrote.open1 {w0 w' : World} {wb : Nat} {p : DP} {S : DS} {k q : Nat} (h : Wrote w0 w' wb p S false k q) (hp : S.pl = false) : Open1 w0 w' wb (k + 1) := by
  obtain ⟨p', S', bl, bm, V, cnt, vr, vm, us, um, R, alt, h1 | ⟨h1, -⟩, -, -, -, -, h2⟩ := h
  · exact ⟨p', S', bl, bm, V, cnt, vr, vm, us, um, R, alt, h1, h2 hp⟩
  · rw [hp] at h1; rcases h1 with h1 | h1 <;> cases h1
theorem Crashed.open1 {w0 w' : World} {wb : Nat} {p : DP} {S : DS} {k : Nat} {R alt : List (List UInt8)} {met : Bool} (h : Crashed w0 w' wb p S k R alt met) : Open1 w0 w' wb (k + 1) := by
  obtain ⟨p', S', bl, bm, V, cnt, vr, vm, us, um, Q, alt', h1, -, -, -, -, h2, -⟩ := h
  exact ⟨p', S', bl, bm, V, cnt, vr, vm, us, um, Q, alt', h1, h2⟩

theorem write_open {w0 w : World} {wb k : Nat} (h : Open1 w0 w wb k) (hk : k ≤ 8388608) (kind on : Int) (a : Option Addr) (c : Nat) (b : List UInt8) (ak : Option Addr) (nk ck : Nat) (hb : BytesAt w0 (.slice a b.length c) b) (hcap : b.length ≤ c) (hb2 : b.length ≤ 140737488355328) :
    Calls Try.prog 58 #[.pointer (some ⟨wb, 0, none⟩), .agg #[.int .i64 kind, .int .i64 on, .slice a b.length c, .slice ak nk ck]] w fun e w' => e = .returned (.bool true) ∧ Open1 w0 w' wb (k + 1) := by
  obtain ⟨p, S, bl, bm, V, cnt, vr, vm, us, um, R, alt, h1, h2⟩ := h
  refine (write_on h1 hk kind on a c b ak nk ck hb hcap hb2).mono ?_
  rintro e w' ⟨rfl, hw⟩
  exact ⟨rfl, hw.open1 h2⟩
theorem crash_open {w0 w : World} {wb k : Nat} (h : Open1 w0 w wb k) (hk : k ≤ 8388608) :
    Calls Try.prog 57 #[.pointer (some ⟨wb, 0, none⟩), .slice none 0 0, .int .i64 (-1)] w fun e w' => e = .returned (.bool true) ∧ Open1 w0 w' wb (k + 1) := by
  obtain ⟨p, S, bl, bm, V, cnt, vr, vm, us, um, R, alt, h1, h2⟩ := h
  refine (crash_calm w0 w wb p S bl vr vm us um R alt false false k h1.ci hk (.slice none 0 0) [] ⟨none, 0, rfl, by simp, .inl rfl⟩ (-1) (by omega) (by omega)).mono ?_
  rintro e w' ⟨rfl, hw⟩
  exact ⟨rfl, hw.open1⟩
theorem look_open {w0 w : World} {wb k : Nat} (h : Open1 w0 w wb k) :
    Calls Try.prog 56 #[.pointer (some ⟨wb, 0, none⟩), .agg #[.int .i64 4, .int .i64 0, .slice none 0 0, .slice none 0 0]] w fun e w' => e = .returned (.bool true) ∧ Fr (fun _ => False) w w' := by
  obtain ⟨p, S, bl, bm, V, cnt, vr, vm, us, um, R, alt, h1, h2⟩ := h
  exact look_on h1 4 0 (.inr (by omega)) none 0 0 none 0 0
theorem Open1.fr {w0 w : World} {wb k : Nat} (h : Open1 w0 w wb k) : Fr (fun _ => False) w0 w := by
  obtain ⟨p, S, bl, bm, V, cnt, vr, vm, us, um, R, alt, h1, h2⟩ := h
  exact h1.ci.st.fr

theorem Begun.world {w w1 : World} {p : DP} {S : DS} {bl bm : Nat} {V : LogV} {cnt : Nat → Nat} (h : Begun w w1 p S bl bm V cnt) :
    Open1 w (w1.alloc (.cells #[.pointer (some ⟨p.d, 0, none⟩), .pointer (some ⟨bl, 0, none⟩), .int .i64 S.oSize, .slice none 0 0, .slice none 0 0, .bool false, .bool false] 98)) w1.heap.size 1 :=
  ⟨p, S, bl, bm, V, cnt, _, _, _, _, _, _, wi_start h, h.pl⟩

set_option maxRecDepth 20000 in
set_option maxHeartbeats 2000000 in
theorem fits_none (w : World) (n : Int) (v : Value) (hb : Calls Try.prog 55 #[.int .i64 n] w fun e w' => e = .returned (.tuple #[.agg noWorld, .bool false, .bool true]) ∧ Fr (fun _ => False) w w') :
    Calls Try.prog 15 #[.int .i64 n, v] w fun e w' => e = .returned (.bool true) ∧ Below w.heap.size w w' := by
  have HB := Lib.hid hb
  clear hb
  go_enter Try.func15, Try.ntmps15
  go_wp2_with fail
  refine HB.out.mono ?_
  rintro e w1 ⟨rfl, f1⟩
  have F1 := Lib.hid f1
  unfold noWorld
  clear f1
  go_wp2_with fail
  refine (live_any _).mono ?_
  rintro e w3 ⟨rfl, rfl⟩
  go_wp2
  go_ret
  exact ⟨rfl, (F1.out.alloc _).below (Nat.le_refl _) (fun _ _ h => h)⟩

set_option maxRecDepth 20000 in
set_option maxHeartbeats 4000000 in
theorem fits_ok (w : World) (n : Nat) (h6 : 6 ≤ n) (h2 : n ≤ 16384) (v : Value) (A : List (List UInt8)) (hv : BytesList w v A 140737488355328) (hA : A.length ≤ 1048576) :
    Calls Try.prog 15 #[.int .i64 n, v] w fun e w' => e = .returned (.bool true) ∧ Below w.heap.size w w' := by
  obtain ⟨av, cv, rfl, hcells⟩ := hv
  have HC := Lib.hid hcells
  obtain ⟨L, hL⟩ : ∃ L, A.length = L := ⟨_, rfl⟩
  have HL := Lib.hid hL
  rw [hL] at hA ⊢
  clear hcells hL
  go_enter Try.func15, Try.ntmps15
  go_wp2_with fail
  refine (begun_ok w n h6 h2).mono ?_
  rintro e w1 ⟨p, S, bl, bm, V, cnt, rfl, hbg⟩
  have O1 := Lib.hid hbg.world
  have L1 := Lib.hid (show w.heap.size ≤ w1.heap.size from hbg.st.fr.size)
  obtain ⟨W1, hW1⟩ : ∃ W1, w1.alloc (.cells #[.pointer (some ⟨p.d, 0, none⟩), .pointer (some ⟨bl, 0, none⟩), .int .i64 S.oSize, .slice none 0 0, .slice none 0 0, .bool false, .bool false] 98) = W1 := ⟨_, rfl⟩
  obtain ⟨wb, hwb⟩ : ∃ b, w1.heap.size = b := ⟨_, rfl⟩
  obtain ⟨sz, hsz⟩ : ∃ sz, S.oSize = sz := ⟨_, rfl⟩
  rw [hsz] at hW1 O1 ⊢
  rw [hW1, hwb] at O1
  have HW := Lib.hid (And.intro hW1 hwb)
  clear hbg hW1 hwb hsz
  go_wp2_with fail
  rw [HW.out.1, HW.out.2]
  refine (live_any _).mono ?_
  rintro e w3 ⟨rfl, rfl⟩
  go_wp2
  go_loopw [9, 26] (fun _ i wr => ∃ k : Nat, k ≤ L ∧ i = .int .i64 k ∧ Hid (Open1 w wr wb (1 + 3 * k))) (fun _ i _ => L - (intOf i).toNat)
  case atStart => exact ⟨0, Nat.zero_le _, rfl, O1⟩
  case round =>
    obtain ⟨k, hk, rfl, OK⟩ := hrel
    by_cases hlt : k < L
    · have hki : (k : Int) < (L : Int) := by omega
      have hkl : k < A.length := by rw [HL.out]; exact hlt
      obtain ⟨g, off, rfl, hall⟩ := HC.out.resolve_left (fun e => by rw [e] at hkl; simp at hkl)
      obtain ⟨ai, ci, c0, bb, hcap, hbd⟩ := hall k hkl
      have c1 := (congrArg (fun z : Array Value => z[off + k]?) (OK.out.fr.row (g := g) (rowOf_lt (by obtain ⟨h, _⟩ := Array.getElem?_eq_some_iff.1 c0; omega)) (fun h => h))).trans c0
      obtain ⟨b, hb⟩ : ∃ b, A[k] = b := ⟨_, rfl⟩
      rw [hb] at c1 bb hcap hbd
      have BB := Lib.hid (And.intro bb (And.intro hcap hbd))
      clear hb c0 bb hcap hbd hall
      obtain ⟨q, hq⟩ : ∃ q, b.length = q := ⟨_, rfl⟩
      have HQ := Lib.hid hq
      rw [hq] at c1
      have WR := Lib.hid (show ∀ W j kind, Open1 w W wb j → j ≤ 8388608 → Calls Try.prog 58 #[.pointer (some ⟨wb, 0, none⟩), .agg #[.int .i64 kind, .int .i64 0, .slice ai q ci, .slice none 0 0]] W fun e w' => e = .returned (.bool true) ∧ Open1 w w' wb (j + 1) from
        fun W j kind h hj => by rw [← HQ.out]; exact write_open h hj kind 0 ai ci b none 0 0 BB.out.1 BB.out.2.1 BB.out.2.2)
      clear hq
      go_wp2_with fail
      refine (WR.out wr _ 0 OK.out (by omega)).mono ?_
      rintro e w4 ⟨rfl, o4⟩
      have O4 := Lib.hid o4
      clear o4
      go_wp2_with fail
      refine (WR.out w4 _ 1 O4.out (by omega)).mono ?_
      rintro e w5 ⟨rfl, o5⟩
      have O5 := Lib.hid o5
      clear o5
      go_wp2_with fail
      refine (WR.out w5 _ 0 O5.out (by omega)).mono ?_
      rintro e w6 ⟨rfl, o6⟩
      have O6 := Lib.hid o6
      clear o6
      go_wp2
      go_roundw
      case rel => exact ⟨k + 1, by omega, by go_num, Lib.hid (by have := O6.out; rwa [show 1 + 3 * k + 1 + 1 + 1 = 1 + 3 * (k + 1) by omega] at this)⟩
      case measure => simp [intOf]; omega
    · obtain rfl : k = L := by omega
      go_wp2_with fail
      refine (crash_open OK.out (by omega)).mono ?_
      rintro e w4 ⟨rfl, o4⟩
      have O4 := Lib.hid o4
      clear o4
      go_wp2_with fail
      refine (look_open O4.out).mono ?_
      rintro e w5 ⟨rfl, f5⟩
      have F5 := Lib.hid (O4.out.fr.trans f5 (fun _ _ h => h))
      clear f5
      go_wp2
      go_ret
      exact ⟨rfl, F5.out.below (Nat.le_refl _) (fun _ _ h => h)⟩

theorem fits_any (w : World) (n : Int) (v : Value) (A : List (List UInt8)) (hv : BytesList w v A 140737488355328) (hA : A.length ≤ 1048576) :
    Calls Try.prog 15 #[.int .i64 n, v] w fun e w' => e = .returned (.bool true) ∧ Below w.heap.size w w' := by
  by_cases h1 : n < 1 ∨ 16384 < n
  · exact fits_none w n v (begun_bad w n h1)
  · obtain ⟨m, rfl⟩ : ∃ m : Nat, n = m := ⟨n.toNat, by omega⟩
    by_cases h6 : m < 6
    · exact fits_none w _ v (begun_small w m (by omega) h6)
    · exact fits_ok w m (by omega) (by omega) v A hv hA

end Go.Proofs.Ytflnlpbcmcfblaa
