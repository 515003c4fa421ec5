/-
  DiskDoes: the walk.
-/
import Derived.Test.YtflnlpbcmcfblaaStep
import Derived.Test.YtflnlpbcmcfblaaClone
import Derived.Test.YtflnlpbcmcfblaaCutsP
namespace Go.Proofs.Ytflnlpbcmcfblaa
open Go.RowKit

/-- A disk that is no more asked, beside the two. -/
structure Old (w0 w : World) (po : DP) (So : DS) (p : DP) (f : Nat → Prop) (b : Nat) : Prop where
  rep : DiskRep w po So
  ne : ∀ k, po.foot k → w0.heap.size ≤ k ∧ ¬ p.foot k ∧ ¬ f k ∧ k ≠ b

theorem Old.two {w0 w wj : World} {po po' p : DP} {So S R : DS} {f : Nat → Prop} {b r gd gt : Nat} (h : Old w0 w po So p f b) (t : Two w0 w p S f r gd gt R) (m : Moves po.foot po'.foot w wj) : Two w0 wj p S f r gd gt R :=
  t.calm m.fr (fun k hk => ⟨(h.ne k hk).1, (h.ne k hk).2.1, (h.ne k hk).2.2.1⟩)
theorem Old.move {w0 w wj : World} {po po' p : DP} {So So' S R : DS} {f : Nat → Prop} {b r gd gt : Nat} (h : Old w0 w po So p f b) (t : Two w0 w p S f r gd gt R) (hb : b < w.heap.size) (m : Moves po.foot po'.foot w wj) (rep : DiskRep wj po' So') : Old w0 wj po' So' p f b :=
  ⟨rep, fun k hk => (m.new k hk).elim (h.ne k) (fun e => ⟨by have := t.d.fr.size; omega, fun e2 => by have := t.d.lt e2; omega, fun e2 => by have := t.r.lt' k e2; omega, by omega⟩)⟩
theorem Old.aside {w0 w wj : World} {po po' p : DP} {So : DS} {f : Nat → Prop} {b : Nat} {row : Array Value} (h : Old w0 w po So p f b) (a : Aside w p f b row) (m : Moves po.foot po'.foot w wj) : Aside wj p f b row :=
  ⟨Nat.lt_of_lt_of_le a.lt m.fr.size, a.nd, a.nf, by rw [m.fr.row a.lt (fun e => (h.ne b e).2.2.2 rfl)]; exact a.row⟩

theorem clone_two {w0 w : World} {p : DP} {S : DS} {f : Nat → Prop} {r gd gt b : Nat} {row : Array Value} (h : Two w0 w p S f r gd gt S) (a : Aside w p f b row) (hm : S.pend.length ≤ 2199023255552) :
    Calls Try.prog 40 #[.pointer (some ⟨p.d, 0, none⟩)] w fun e w' => ∃ p' : DP, e = .returned (.pointer (some ⟨p'.d, 0, none⟩)) ∧ Two w0 w' p' S f r gd gt S ∧ Old w0 w' p S p' f b ∧ Aside w' p' f b row := by
  refine (clone_any w p S h.d.rep hm).mono ?_
  rintro e w' ⟨p', rfl, h1, h2, h3⟩
  have sz := h.d.fr.size
  refine ⟨p', rfl, ⟨⟨h.d.fr.trans h2 (fun _ _ h => h), h1, fun k hk => by have := h3 k hk; omega⟩, h.r.keep h2 (fun _ _ h => h), fun k hk => ⟨(h.fr k hk).1, fun e => by have := h3 k e; have := h.r.lt' k hk; omega⟩⟩,
    ⟨h.d.rep.keep h2 (fun _ _ h => h), fun k hk => ⟨h.d.foot k hk, fun e => by have := h3 k e; have := h.d.lt hk; omega, fun e => (h.fr k e).2 hk, fun e => a.nd (e ▸ hk)⟩⟩,
    ⟨Nat.lt_of_lt_of_le a.lt h2.size, fun e => by have := h3 b e; have := a.lt; omega, a.nf, by rw [h2.row a.lt (fun h => h)]; exact a.row⟩⟩

set_option maxRecDepth 20000 in
set_option maxHeartbeats 4000000 in
theorem does_bad (w : World) (b : Int) (vo : Value) (hb : b < 1 ∨ 16384 < b) :
    Calls Try.prog 7 #[.int .i64 b, vo] w fun e w' => e = .returned (.bool true) ∧ Below w.heap.size w w' := by
  have HB := Lib.hid hb
  clear hb
  go_enter Try.func7, Try.ntmps7
  go_wp2_with fail
  refine (new_bad w b HB.out).mono ?_
  rintro e w2 ⟨rfl, rfl⟩
  go_wp2_with fail
  refine (rnew_bad w b HB.out).mono ?_
  rintro e w3 ⟨rfl, f3⟩
  have F3 := Lib.hid f3
  clear f3
  unfold zero50
  go_wp2
  go_ret
  exact ⟨rfl, ((F3.out.alloc _)).below (Nat.le_refl _) (fun _ _ h => h)⟩

set_option maxRecDepth 20000 in
set_option maxHeartbeats 4000000 in
theorem does_ok (w : World) (b : Nat) (vo : Value) (l : List OpV) (ho : OpsAt w vo l) (hnb : ∀ o ∈ l, o.n ≤ 9223372036854775807) (h1 : 1 ≤ b) (h2 : b ≤ 16384) :
    Calls Try.prog 7 #[.int .i64 (b : Int), vo] w fun e w' => e = .returned (.bool true) ∧ Below w.heap.size w w' := by
  obtain ⟨a, cap, rfl, hl, hops⟩ := ho
  obtain ⟨q, hq⟩ : ∃ q, l.length = q := ⟨_, rfl⟩
  have HQ := Lib.hid hq
  have HO := Lib.hid hops
  have HNB := Lib.hid hnb
  rw [hq] at hl ⊢
  clear hq hops hnb
  go_enter Try.func7, Try.ntmps7
  go_wp2_with fail
  refine (new_ok w b h1 h2).mono ?_
  rintro e w2 ⟨p, rfl, r2, f2, hf2⟩
  have S2 := Lib.hid (show St w w2 p (DS.new b) from ⟨f2, r2, hf2⟩)
  clear r2 f2 hf2
  go_wp2_with fail
  refine (rnew_ok w2 b h1 h2).mono ?_
  rintro e w3 ⟨gd, gt, cd, ct, rfl, v3, f3⟩
  obtain ⟨w4, hw4⟩ : ∃ w4, w3.alloc (.cells #[.bool true, .bool false, .int .i64 (-1), .slice (some ⟨gd, 0, none⟩) b cd, .slice (some ⟨gt, 0, none⟩) b ct, .slice none 0 0, .int .i64 0, .int .i64 0] 50) = w4 := ⟨_, rfl⟩
  obtain ⟨r, hrr⟩ : ∃ r, w3.heap.size = r := ⟨_, rfl⟩
  have HT4 := Lib.hid (show Two w w4 p (DS.new b) (fun k => (w2.heap.size ≤ k ∧ k < w3.heap.size) ∨ k = r) r gd gt (DS.new b) by
    subst hrr
    have f4 : Fr (fun _ => False) w3 w4 := by rw [← hw4]; exact (Fr.refl _ w3).alloc _
    have s2 := S2.out.fr.size
    have s3 := f3.size
    have rr : rowOf w4 w3.heap.size = #[.bool true, .bool false, .int .i64 (-1), .slice (some ⟨gd, 0, none⟩) b cd, .slice (some ⟨gt, 0, none⟩) b ct, .slice none 0 0, .int .i64 0, .int .i64 0] := by rw [← hw4]; exact rowOf_alloc_at _ _ _ _ _ rfl
    refine ⟨(S2.out.calm f3 (fun _ h => h.elim)).calm f4 (fun _ h => h.elim), (v3.keep f4 (fun _ _ h => h)).box (by omega) rr (by rw [← hw4]; exact live_alloc_at _ _ _ _ rfl), fun k hk => ?_⟩
    rcases hk with hk | rfl
    · exact ⟨by omega, fun e => by have := S2.out.lt e; omega⟩
    · exact ⟨by omega, fun e => by have := S2.out.lt e; omega⟩)
  clear v3 f3
  have HR := Lib.hid hrr
  have HW4 := Lib.hid hw4
  clear hw4 hrr
  obtain ⟨S0, hS0⟩ : ∃ S0, DS.new b = S0 := ⟨_, rfl⟩
  have P0 := Lib.hid (show S0.pend.length ≤ 0 by rw [← hS0]; simp [DS.new])
  rw [hS0] at HT4
  obtain ⟨f0, hf0⟩ : ∃ f0 : Nat → Prop, (fun k => (w2.heap.size ≤ k ∧ k < w3.heap.size) ∨ k = r) = f0 := ⟨_, rfl⟩
  rw [hf0] at HT4
  clear hf0 hS0 S2
  go_wp2
  rw [HW4.out, HR.out]
  go_loopw [5, 10, 11, 36] (fun d _ _ i wr => ∃ (k : Nat) (pk : DP) (fk : Nat → Prop) (S : DS), k ≤ q ∧ i = .int .i64 k ∧ d = .pointer (some ⟨pk.d, 0, none⟩) ∧ Two w wr pk S fk r gd gt S ∧ Hid (S.pend.length ≤ k)) (fun _ _ _ i _ => q - (intOf i).toNat)
  case atStart => exact ⟨0, p, f0, S0, Nat.zero_le _, rfl, rfl, HT4.out, P0⟩
  case round =>
    obtain ⟨k, pk, fk, S, hk, rfl, rfl, htw, hpn⟩ := hrel
    have HT := Lib.hid htw
    have HP := Lib.hid hpn
    clear htw hpn
    by_cases hlt : k < q
    · have hki : (k : Int) < (q : Int) := by omega
      rcases HO.out with hnil | ⟨g, off, hax, hall⟩
      · exfalso; have := HQ.out; rw [hnil] at this; simp at this; omega
      subst hax
      have hkl : k < l.length := by rw [HQ.out]; exact hlt
      obtain ⟨vd, vk, e1, e2, e3, e4⟩ := hall k hkl
      obtain ⟨ak, ck, rfl, -⟩ := id e4
      have hg0 : g < w.heap.size := rowOf_lt (by omega)
      have rg := HT.out.d.fr.row hg0 (fun h => h)
      rw [← rg] at e1 e2
      have E3 := Lib.hid e3
      have E4 := Lib.hid e4
      have EN := Lib.hid (HNB.out _ (List.getElem_mem hkl))
      obtain ⟨o, hox⟩ : ∃ o, l[k] = o := ⟨_, rfl⟩
      rw [hox] at e2 E3 E4 EN
      clear hall e3 e4 hox rg hkl
      unfold opC at e2
      obtain ⟨od, on, ob, okk⟩ := o
      simp only at e2 E3 E4 EN
      obtain ⟨ad, capd, hvd, hbd⟩ := E3.out
      subst hvd
      clear hbd
      have o4 : ones #[Value.int IntKind.i64 od, Value.int IntKind.i64 on, Value.slice ad ob.length capd, .slice ak okk.length ck] := by intro v hv; simp at hv; rcases hv with rfl | rfl | rfl | rfl <;> rfl
      have hwl := HT.out.d.fr.size
      have HX := Lib.hid (show Two w (wr.alloc (.cells #[Value.int IntKind.i64 od, Value.int IntKind.i64 on, Value.slice ad ob.length capd, .slice ak okk.length ck] 55)) pk S fk r gd gt S from HT.out.still ((Fr.refl _ wr).alloc _))
      have HBX := Lib.hid (show Aside (wr.alloc (.cells #[Value.int IntKind.i64 od, Value.int IntKind.i64 on, Value.slice ad ob.length capd, .slice ak okk.length ck] 55)) pk fk wr.heap.size #[Value.int IntKind.i64 od, Value.int IntKind.i64 on, Value.slice ad ob.length capd, .slice ak okk.length ck] from
        ⟨by simp, fun e => by have := HT.out.d.lt e; omega, fun e => by have := HT.out.r.lt' _ e; omega, rowOf_alloc_at _ _ _ _ _ rfl⟩)
      have PM := Lib.hid (show S.pend.length ≤ 2199023255552 by have := HP.out.out; omega)
      by_cases hd9 : od = 9
      · subst hd9
        go_wp2_with fail
        obtain ⟨w4, hw4⟩ : ∃ w4, wr.alloc (.cells #[Value.int IntKind.i64 9, Value.int IntKind.i64 on, Value.slice ad ob.length capd, .slice ak okk.length ck] 55) = w4 := ⟨_, rfl⟩
        rw [hw4] at HBX HX ⊢
        clear hw4
        refine (clone_two HX.out HBX.out PM.out).mono ?_
        rintro e w5 ⟨pc, rfl, t5, o5, a5⟩
        have fa : ∀ X, Fr (fun _ => False) w5 (w5.alloc X) := fun X => (Fr.refl _ w5).alloc X
        have T5 := Lib.hid (fun X => t5.still (fa X))
        have O5 := Lib.hid (show ∀ X, Old w (w5.alloc X) pk S pc fk wr.heap.size from fun X => ⟨o5.rep.keep (fa X) (fun _ _ h => h), o5.ne⟩)
        have A5 := Lib.hid (fun X => a5.still (fa X))
        have L5 := Lib.hid (show ∀ k, pk.foot k → k < w5.heap.size from fun k hk => live_lt (o5.rep.live_foot hk))
        clear t5 o5 a5 fa
        go_wp2_with fail
        refine (write_any _ pk S (O5.out _).rep 0 _ (List.replicate 64 0) (bytesAt_new w5 64) (fun k hk hf => by have := L5.out k hf; simp [Value.ownBlock] at hk; omega) PM.out).mono ?_
        rintro e w6 ⟨p6, hp6, rfl, r6, m6⟩
        have T6 := Lib.hid ((O5.out _).two (T5.out _) m6)
        have A6 := Lib.hid ((O5.out _).aside (A5.out _) m6)
        have O6 := Lib.hid ((O5.out _).move (T5.out _) (A5.out _).lt m6 r6)
        rw [← hp6]
        clear r6 m6 hp6
        go_wp2_with fail
        refine (plan_rep w6 p6 _ O6.out.rep 0 (by omega)).mono ?_
        rintro e w7 ⟨rfl, r7, m7⟩
        have M7 : Moves p6.foot p6.foot w6 w7 := ⟨m7.mono (fun _ _ e => .inl e), fun _ h => .inl h⟩
        have T7 := Lib.hid (O6.out.two T6.out M7)
        have A7 := Lib.hid (O6.out.aside A6.out M7)
        have O7 := Lib.hid (O6.out.move T6.out A6.out.lt M7 r7)
        clear r7 m7 M7
        go_wp2_with fail
        refine (sync_any w7 p6 _ O7.out.rep).mono ?_
        rintro e w8 ⟨p8, hp8, rfl, r8, m8⟩
        have T8 := Lib.hid (O7.out.two T7.out m8)
        have A8 := Lib.hid (O7.out.aside A7.out m8)
        have hbx := A8.out.row
        clear r8 m8 hp8
        go_wp2_with fail
        refine (step_any w w8 pc S fk r gd gt T8.out on _ _ ob okk PM.out 9 E3.out E4.out EN.out).mono ?_
        rintro e w9 ⟨rfl, p9, f9, S9, hp9, t9, hl9⟩
        have T9 := Lib.hid t9
        have L9 := Lib.hid hl9
        rw [← hp9]
        clear t9 hl9 hp9 hbx
        go_wp2
        go_roundw
        case rel => exact ⟨k + 1, p9, f9, S9, by omega, by go_num, rfl, T9.out, Lib.hid (by have := L9.out; have := HP.out.out; omega)⟩
        case measure => simp [intOf]; omega
      · have hd9b : (od == 9) = false := by simpa using hd9
        go_wp2_with fail
        obtain ⟨w4, hw4⟩ : ∃ w4, wr.alloc (.cells #[Value.int IntKind.i64 od, Value.int IntKind.i64 on, Value.slice ad ob.length capd, .slice ak okk.length ck] 55) = w4 := ⟨_, rfl⟩
        rw [hw4] at HBX HX ⊢
        clear hw4
        refine (step_any w w4 pk S fk r gd gt HX.out on _ _ ob okk PM.out od E3.out E4.out EN.out).mono ?_
        rintro e w9 ⟨rfl, p9, f9, S9, hp9, t9, hl9⟩
        have T9 := Lib.hid t9
        have L9 := Lib.hid hl9
        rw [← hp9]
        clear t9 hl9 hp9
        go_wp2
        go_roundw
        case rel => exact ⟨k + 1, p9, f9, S9, by omega, by go_num, rfl, T9.out, Lib.hid (by have := L9.out; have := HP.out.out; omega)⟩
        case measure => simp [intOf]; omega
    · obtain rfl : k = q := by omega
      go_wp2_with fail
      refine (images_same wr pk S HT.out.d.rep fk r gd gt HT.out.r (by have := HP.out.out; omega)).mono ?_
      rintro e w8 ⟨rfl, f8⟩
      have F8 := Lib.hid (HT.out.d.fr.trans f8 (fun _ _ h => h))
      clear f8
      go_wp2
      go_ret
      exact ⟨rfl, F8.out.below (Nat.le_refl _) (fun _ _ h => h)⟩

theorem does_any (w : World) (b : Int) (vo : Value) (l : List OpV) (ho : OpsAt w vo l) (hnb : ∀ o ∈ l, o.n ≤ 9223372036854775807) :
    Calls Try.prog 7 #[.int .i64 b, vo] w fun e w' => e = .returned (.bool true) ∧ Below w.heap.size w w' := by
  by_cases hb : b < 1 ∨ 16384 < b
  · exact does_bad w b vo hb
  · obtain ⟨m, rfl⟩ : ∃ m : Nat, b = m := ⟨b.toNat, by omega⟩
    exact does_ok w m vo l ho hnb (by omega) (by omega)

end Go.Proofs.Ytflnlpbcmcfblaa
