/-
  DiskLoads: the walk.
-/
import Derived.Test.YtflnlpbcmcfblaaStep
import Derived.Test.YtflnlpbcmcfblaaRef15
import Derived.Test.YtflnlpbcmcfblaaLoadBad
namespace Go.Proofs.Ytflnlpbcmcfblaa
open Go.RowKit

set_option maxRecDepth 20000 in
set_option maxHeartbeats 4000000 in
theorem loads_bad (w : World) (v0 v1 v2 : Value) (hb : ∀ w', Fr (fun _ => False) w w' → Calls Try.prog 30 #[v0, v1] w' fun e w2 => e = .returned (.tuple #[.pointer none, .int .i64 1]) ∧ Fr (fun _ => False) w' w2)
    (hr : ∀ w', Fr (fun _ => False) w w' → Calls Try.prog 43 #[v0, v1] w' fun e w2 => e = .returned (.tuple #[.agg zero50, .int .i64 1]) ∧ Fr (fun _ => False) w' w2) :
    Calls Try.prog 9 #[v0, v1, v2] w fun e w' => e = .returned (.bool true) ∧ Below w.heap.size w w' := by
  have HB := Lib.hid hb
  have HR := Lib.hid hr
  clear hb hr
  go_enter Try.func9, Try.ntmps9
  go_wp2_with fail
  refine (HB.out w (Fr.refl _ _)).mono ?_
  rintro e w2 ⟨rfl, f2⟩
  have F2 := Lib.hid f2
  clear f2
  go_wp2_with fail
  refine (HR.out w2 F2.out).mono ?_
  rintro e w3 ⟨rfl, f3⟩
  have F3 := Lib.hid (F2.out.trans f3 (fun _ _ h => h))
  clear f3
  unfold zero50
  go_wp2
  go_ret
  exact ⟨rfl, ((F3.out.alloc _)).below (Nat.le_refl _) (fun _ _ h => h)⟩

set_option maxRecDepth 20000 in
set_option maxHeartbeats 4000000 in
theorem loads_ok (w : World) (gi oi cap : Nat) (image : List UInt8) (tv : Value) (torn : List Int) (n : Nat) (hn : image.length = n * 64) (hcap : image.length ≤ cap) (h1 : 1 ≤ n) (h2 : n ≤ 16384)
    (hx : oi + image.length ≤ (rowOf w gi).size) (hc : cut (rowOf w gi) oi image.length = bvA image) (ht : IntsAt w tv torn) (hok : ∀ t ∈ torn, 0 ≤ t ∧ t < n)
    (vo : Value) (l : List OpV) (ho : OpsAt w vo l) (hnb : ∀ o ∈ l, o.n ≤ 9223372036854775807) :
    Calls Try.prog 9 #[.slice (some ⟨gi, oi, none⟩) image.length cap, tv, vo] w fun e w' => e = .returned (.bool true) ∧ Below w.heap.size w w' := by
  obtain ⟨a, cap2, rfl, hl, hops⟩ := ho
  obtain ⟨q, hq⟩ : ∃ q, l.length = q := ⟨_, rfl⟩
  have HQ := Lib.hid hq
  have HO := Lib.hid hops
  have HNB := Lib.hid hnb
  rw [hq] at hl ⊢
  have C1 := Lib.hid (load_ok w gi oi cap image tv torn n hn hcap h1 h2 hx hc ht hok)
  have C2 := Lib.hid (show ∀ w', Fr (fun _ => False) w w' → _ from fun w' f => by
    have hg := f.row (rowOf_lt (w := w) (g := gi) (by omega)) (fun h => h)
    exact rload_ok w' gi oi cap image tv torn n hn hcap h1 h2 (by rw [hg]; exact hx) (by rw [hg]; exact hc) (ht.later f) hok)
  have SF := Lib.hid (show (DS.load image torn).pend = [] by
    unfold DS.load
    rw [(tearAll_fields _ _).2.2.1]
    exact (laidUpto_fields _ _ _).2.2.1)
  obtain ⟨L, hL⟩ : ∃ L, image.length = L := ⟨_, rfl⟩
  rw [hL] at C1 C2 ⊢
  obtain ⟨S0, hS0⟩ : ∃ S0, DS.load image torn = S0 := ⟨_, rfl⟩
  rw [hS0] at C1 C2 SF
  clear hq hops hnb hn hcap hx hc ht hok hL hS0
  go_enter Try.func9, Try.ntmps9
  go_wp2_with fail
  refine C1.out.mono ?_
  rintro e w2 ⟨p, rfl, r2, f2, hf2⟩
  have S2 := Lib.hid (show St w w2 p S0 from ⟨f2, r2, hf2⟩)
  clear r2 f2 hf2
  go_wp2_with fail
  refine (C2.out w2 S2.out.fr).mono ?_
  rintro e w3 ⟨gd, gt, cd, ct, f0, rfl, v3, f3, hf3⟩
  obtain ⟨w4, hw4⟩ : ∃ w4, w3.alloc (.cells #[.bool true, .bool false, .int .i64 (-1), .slice (some ⟨gd, 0, none⟩) n cd, .slice (some ⟨gt, 0, none⟩) n ct, .slice none 0 0, .int .i64 0, .int .i64 0] 50) = w4 := ⟨_, rfl⟩
  obtain ⟨r, hrr⟩ : ∃ r, w3.heap.size = r := ⟨_, rfl⟩
  have HT4 := Lib.hid (show Two w w4 p S0 (fun k => f0 k ∨ k = r) r gd gt S0 by
    subst hrr
    have f4 : Fr (fun _ => False) w3 w4 := by rw [← hw4]; exact (Fr.refl _ w3).alloc _
    have s2 := S2.out.fr.size
    have s3 := f3.size
    have rr : rowOf w4 w3.heap.size = #[.bool true, .bool false, .int .i64 (-1), .slice (some ⟨gd, 0, none⟩) n cd, .slice (some ⟨gt, 0, none⟩) n ct, .slice none 0 0, .int .i64 0, .int .i64 0] := by rw [← hw4]; exact rowOf_alloc_at _ _ _ _ _ rfl
    refine ⟨(S2.out.calm f3 (fun _ h => h.elim)).calm f4 (fun _ h => h.elim), (v3.keep f4 (fun _ _ h => h)).box (fun e => by have := v3.lt' _ e; omega) rr (by rw [← hw4]; exact live_alloc_at _ _ _ _ rfl), fun k hk => ?_⟩
    rcases hk with hk | rfl
    · have := hf3 k hk
      exact ⟨by omega, fun e => by have := S2.out.lt e; omega⟩
    · exact ⟨by omega, fun e => by have := S2.out.lt e; omega⟩)
  clear v3 f3 hf3
  have HR := Lib.hid hrr
  have HW4 := Lib.hid hw4
  clear hw4 hrr
  obtain ⟨f1, hf1⟩ : ∃ f1 : Nat → Prop, (fun k => f0 k ∨ k = r) = f1 := ⟨_, rfl⟩
  rw [hf1] at HT4
  clear hf1 S2 C1 C2
  go_wp2_with fail
  rw [HW4.out, HR.out]
  refine (images_same w4 p S0 HT4.out.d.rep f1 r gd gt HT4.out.r (by rw [SF.out]; simp)).mono ?_
  rintro e w5 ⟨rfl, f5⟩
  have HT5 := Lib.hid (HT4.out.still f5)
  clear f5
  go_wp2
  go_loopw [12, 42] (fun _ i wr => ∃ (k : Nat) (pk : DP) (fk : Nat → Prop) (S : DS), k ≤ q ∧ i = .int .i64 k ∧ pk.d = p.d ∧ Two w wr pk S fk r gd gt S ∧ Hid (S.pend.length ≤ k)) (fun _ i _ => q - (intOf i).toNat)
  case atStart => exact ⟨0, p, f1, S0, Nat.zero_le _, rfl, rfl, HT5.out, Lib.hid (by rw [SF.out]; simp)⟩
  case round =>
    obtain ⟨k, pk, fk, S, hk, rfl, hpd, htw, hpn⟩ := hrel
    have HT := Lib.hid htw
    have HP := Lib.hid hpn
    have HPD := Lib.hid hpd
    clear htw hpn hpd
    by_cases hlt : k < q
    · have hki : (k : Int) < (q : Int) := by omega
      rcases HO.out with hnil | ⟨g, off, hax, hall⟩
      · exfalso; have := HQ.out; rw [hnil] at this; simp at this; omega
      subst hax
      have hkl : k < l.length := by rw [HQ.out]; exact hlt
      obtain ⟨vd, vk, e1, e2, e3, e4⟩ := hall k hkl
      obtain ⟨ak, ck, rfl, -⟩ := id e4
      have hg0 : g < w.heap.size := rowOf_lt (by omega)
      have rg := HT.out.d.fr.row hg0 (fun h => h)
      rw [← rg] at e1 e2
      have E3 := Lib.hid e3
      have E4 := Lib.hid e4
      have EN := Lib.hid (HNB.out _ (List.getElem_mem hkl))
      obtain ⟨o, hox⟩ : ∃ o, l[k] = o := ⟨_, rfl⟩
      rw [hox] at e2 E3 E4 EN
      clear hall e3 e4 hox rg hkl
      unfold opC at e2
      obtain ⟨od, on, ob, okk⟩ := o
      simp only at e2 E3 E4 EN
      obtain ⟨ad, capd, hvd, hbd⟩ := E3.out
      subst hvd
      clear hbd
      have o4 : ones #[Value.int IntKind.i64 od, Value.int IntKind.i64 on, Value.slice ad ob.length capd, .slice ak okk.length ck] := by intro v hv; simp at hv; rcases hv with rfl | rfl | rfl | rfl <;> rfl
      have hwl := HT.out.d.fr.size
      have HX := Lib.hid (show Two w (wr.alloc (.cells #[Value.int IntKind.i64 od, Value.int IntKind.i64 on, Value.slice ad ob.length capd, .slice ak okk.length ck] 55)) pk S fk r gd gt S from HT.out.still ((Fr.refl _ wr).alloc _))
      have PM := Lib.hid (show S.pend.length ≤ 2199023255552 by have := HP.out.out; omega)
      go_wp2_with fail
      obtain ⟨w6, hw6⟩ : ∃ w6, wr.alloc (.cells #[Value.int IntKind.i64 od, Value.int IntKind.i64 on, Value.slice ad ob.length capd, .slice ak okk.length ck] 55) = w6 := ⟨_, rfl⟩
      rw [hw6] at HX ⊢
      clear hw6
      rw [← HPD.out]
      refine (step_any w w6 pk S fk r gd gt HX.out on _ _ ob okk PM.out od E3.out E4.out EN.out).mono ?_
      rintro e w9 ⟨rfl, p9, f9, S9, hp9, t9, hl9⟩
      have T9 := Lib.hid t9
      have L9 := Lib.hid hl9
      have HP9 := Lib.hid (hp9.trans HPD.out)
      rw [HPD.out]
      clear t9 hl9 hp9
      go_wp2
      go_roundw
      case rel => exact ⟨k + 1, p9, f9, S9, by omega, by go_num, HP9.out, T9.out, Lib.hid (by have := L9.out; have := HP.out.out; omega)⟩
      case measure => simp [intOf]; omega
    · obtain rfl : k = q := by omega
      go_wp2_with fail
      rw [← HPD.out]
      refine (images_same wr pk S HT.out.d.rep fk r gd gt HT.out.r (by have := HP.out.out; omega)).mono ?_
      rintro e w8 ⟨rfl, f8⟩
      have F8 := Lib.hid (HT.out.d.fr.trans f8 (fun _ _ h => h))
      clear f8
      go_wp2
      go_ret
      exact ⟨rfl, F8.out.below (Nat.le_refl _) (fun _ _ h => h)⟩

theorem loads_any (w : World) (a : Option Addr) (cap : Nat) (image : List UInt8) (tv : Value) (torn : List Int) (vo : Value) (l : List OpV) (hi : BytesAt w (.slice a image.length cap) image) (hcap : image.length ≤ cap) (hL : image.length ≤ 140737488355328)
    (ht : IntsAt w tv torn) (ho : OpsAt w vo l) (hnb : ∀ o ∈ l, o.n ≤ 9223372036854775807) :
    Calls Try.prog 9 #[.slice a image.length cap, tv, vo] w fun e w' => e = .returned (.bool true) ∧ Below w.heap.size w w' := by
  by_cases hA : image.length % 64 ≠ 0 ∨ image.length / 64 < 1 ∨ 16384 < image.length / 64
  · exact loads_bad w _ _ _ (fun w' _ => (load_bad1 w' a image.length cap tv (by omega) hA).mono fun _ _ h => ⟨h.1, by rw [h.2]; exact Fr.refl _ _⟩) (fun w' _ => rload_bad1 w' a image.length cap tv (by omega) hA)
  · have hn : image.length = (image.length / 64) * 64 := by omega
    have hne : image ≠ [] := by intro e; rw [e] at hA; simp at hA
    obtain ⟨a', cap', he, hnil | ⟨g, off, hax, hx, hc⟩⟩ := hi
    · exact absurd hnil hne
    simp only [Value.slice.injEq] at he
    obtain ⟨rfl, -, rfl⟩ := he
    subst hax
    have hgl := rowOf_lt (w := w) (g := g) (show 0 < (rowOf w g).size by have : 0 < image.length := List.length_pos_iff.2 hne; omega)
    by_cases hT : ∀ t ∈ torn, 0 ≤ t ∧ t < (image.length / 64 : Nat)
    · exact loads_ok w g off cap image tv torn (image.length / 64) hn hcap (by omega) (by omega) hx hc ht hT vo l ho hnb
    · refine loads_bad w _ _ _ (fun w' f => ?_) (fun w' f => rload_bad2 w' (some ⟨g, off, none⟩) image.length cap tv torn (by omega) (by omega) (by omega) (ht.later f) hT)
      have hg := f.row hgl (fun h => h)
      exact load_bad3 w' g off cap image tv torn (image.length / 64) hn hcap (by omega) (by omega) (by rw [hg]; exact hx) (by rw [hg]; exact hc) (ht.later f) hT

theorem loads_args (w : World) (a0 : Option Addr) (len0 cap0 : Nat) (z0 : List Int) (a1 : Option Addr) (len1 cap1 : Nat) (z1 : List Int) (vo : Value) (l : List OpV) (w0 : Came .u8 w a0 len0 cap0 z0) (s0 : cap0 * 1 ≤ 140737488351232) (w1 : Came .i64 w a1 len1 cap1 z1)
    (ho : OpsAt w vo l) (hnb : ∀ o ∈ l, o.n ≤ 9223372036854775807) :
    Calls Try.prog 9 #[.slice a0 len0 cap0, .slice a1 len1 cap1, vo] w fun e w' => e = .returned (.bool true) ∧ Below w.heap.size w w' := by
  have h0 := w0.le
  obtain ⟨A, rfl, hA⟩ := bytes_of_row w0
  obtain ⟨K, rfl, hK⟩ := ints_of_row w1
  exact loads_any w a0 cap0 A _ K vo l hA h0 (by omega) hK ho hnb

end Go.Proofs.Ytflnlpbcmcfblaa
