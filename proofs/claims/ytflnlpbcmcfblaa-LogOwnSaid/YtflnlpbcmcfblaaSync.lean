/-
  (*Disk).Sync.
-/
import Derived.Test.YtflnlpbcmcfblaaDisk3
namespace Go.Proofs.Ytflnlpbcmcfblaa
open Go.RowKit

@[go_sem] theorem cut_full (c : Array Value) (n : Nat) (h : c.size = n) : cut c 0 n = c := cut_ext h (by omega) (fun i _ => by simp)

theorem setIf_get {cur : Array Value} {k i : Nat} {v u : Value} (h : cur[i]? = some u) : (cur.setIfInBounds k v)[i]? = some (if k = i then v else u) := by
  have hi := (Array.getElem?_eq_some_iff.1 h).1
  by_cases hk : k = i
  · subst hk; simp [hi]
  · rw [Array.getElem?_setIfInBounds_ne hk, h]; simp [hk]

/-- A write laid: the rep behind it. -/
theorem DiskRep.laid {w w' : World} {p : DP} {S : DS} (h : DiskRep w p S) {k : Nat} {b : List UInt8} (hk : k < S.data.length) (hb : b.length = 64)
    (rb : rowOf w' p.gb = blit (rowOf w p.gb) (k * 64) (bvA b)) (rt : rowOf w' p.gt = (rowOf w p.gt).setIfInBounds k (.bool false)) (f : Fr (fun i => i = p.gb ∨ i = p.gt) w w') (lb : live w' p.gb = true) (lt : live w' p.gt = true) :
    DiskRep w' p (S.lay (k, b)) := by
  obtain ⟨cb, ct, hs, h1, h2, h3, h4⟩ := h.ex
  have hsz : k * 64 + (bvA b).size ≤ (rowOf w p.gb).size := by rw [bvA_size, hb, h3]; have := Nat.mul_le_mul_right 64 (Nat.le_trans hk h1); omega
  have hsz2 : (bvA b).size = 64 := by rw [bvA_size, hb]
  refine ⟨⟨by simp [DS.lay]; exact h.ok.n0, by simpa [DS.lay] using h.ok.n1, by simp [DS.lay, h.ok.tl], ?_, by simpa [DS.lay] using h.ok.pe, h.ok.l0, h.ok.l1⟩, ⟨cb, ct, ?_⟩, lb, lt, ?_, ?_, ?_, h.n1, h.n2, h.n3, h.n4⟩
  · intro x hx
    simp only [DS.lay] at hx
    rcases List.mem_or_eq_of_mem_set hx with hx | rfl
    · exact h.ok.dl x hx
    · exact hb
  · simp only [DS.lay, List.length_set]
    exact ⟨hs.keep f (fun e => e.elim h.n1 h.n2), h1, h2, by rw [rb, blit_size hsz]; exact h3, by rw [rt]; simpa using h4⟩
  · intro i hi
    simp only [DS.lay, List.length_set] at hi
    simp only [DS.lay, List.getElem_set, rb]
    by_cases e : k = i
    · subst e
      rw [if_pos rfl, cut_blit_same hsz2 (by omega)]
    · rw [if_neg e, cut_blit_other hsz (by rw [h3]; have := Nat.mul_le_mul_right 64 (Nat.le_trans hi h1); omega) (by rw [hsz2]; omega)]
      exact h.rb i hi
  · intro i hi
    simp only [DS.lay, List.length_set] at hi
    simp only [DS.lay, List.getElem_set, rt]
    rw [setIf_get (h.rt i hi)]
    by_cases e : k = i <;> simp [e]
  · exact h.rp.keep f (fun j hj e => e.elim (fun e => h.n4.2.1 (by rw [hj, e])) (fun e => h.n4.2.2 (by rw [hj, e])))

theorem lay_rep (w : World) (p : DP) (S : DS) (h : DiskRep w p S) (k : Nat) (b : List UInt8) (hk : k < S.data.length) (hb : b.length = 64) :
    Calls Try.prog 63 #[.pointer (some ⟨p.d, 0, none⟩), .agg (wrC (k : Int) (bvA b))] w fun e w' => e = .returned (.tuple #[]) ∧ DiskRep w' p (S.lay (k, b)) ∧ Fr (fun i => i = p.gb ∨ i = p.gt) w w' := by
  obtain ⟨cb, ct, hs, h1, h2, h3, h4⟩ := h.ex
  refine (lay_any w p.d p.gb p.gt S.data.length cb S.data.length ct p.pv S.off S.pl S.left S.wr S.sy hs h.lb h.lt h.n1 h.n2 h.n3 k hk hk (bvA b) (by rw [bvA_size, hb]) (bvA_ones b)
    (by rw [h3]; have := Nat.mul_le_mul_right 64 (Nat.le_trans hk h1); omega) _ (h.rt k (by rw [h.ok.tl]; exact hk))).mono ?_
  rintro e w' ⟨rfl, rb, rt, l1, l2, f⟩
  exact ⟨rfl, h.laid hk hb rb rt f l1 l2, f⟩

theorem layAll_fields (l : List (Nat × List UInt8)) : ∀ S : DS, (S.layAll l).pend = S.pend ∧ (S.layAll l).off = S.off ∧ (S.layAll l).pl = S.pl ∧ (S.layAll l).left = S.left ∧ (S.layAll l).wr = S.wr ∧ (S.layAll l).sy = S.sy ∧ (S.layAll l).data.length = S.data.length ∧ (S.layAll l).torn.length = S.torn.length := by
  induction l with
  | nil => intro S; simp [DS.layAll]
  | cons x l ih =>
    intro S
    have := ih (S.lay x)
    simpa [DS.layAll, DS.lay] using this

theorem layAll_take_succ (S : DS) (l : List (Nat × List UInt8)) (k : Nat) (h : k < l.length) : S.layAll (l.take (k + 1)) = (S.layAll (l.take k)).lay l[k] := by
  unfold DS.layAll
  rw [List.take_succ_eq_append_getElem h, List.foldl_append]
  rfl

/-- The slice of the pending writes, read off. -/
theorem PendSl.get {w : World} {g n cap : Nat} {l : List (Nat × List UInt8)} (h : PendSl w (.slice (some ⟨g, 0, none⟩) n cap) l) :
    l.length = n ∧ live w g = true ∧ (n ≤ cap ∧ n ≤ 9223372036854775807) ∧ (rowOf w g).size = cap * 65 ∧ ∀ i (hi : i < l.length), cut (rowOf w g) (i * 65) 65 = wrC l[i].1 (bvA l[i].2) := by
  rcases h with ⟨h, _⟩ | ⟨g', cap', h, h1, ⟨h2, h2p⟩, h3, h4, h5⟩
  · cases h
  · simp only [Value.slice.injEq, Option.some.injEq, Addr.mk.injEq, and_true] at h
    obtain ⟨rfl, rfl, rfl⟩ := h
    exact ⟨rfl, h1, ⟨h2, by simp only [maxLen] at h3; omega⟩, h4, h5⟩

set_option maxHeartbeats 1000000 in
set_option maxRecDepth 20000 in
theorem sync_ok1 (w : World) (p : DP) (S : DS) (h : DiskRep w p S) (g cap : Nat) (hpv : p.pv = .slice (some ⟨g, 0, none⟩) S.pend.length cap) (ho : S.off = false) (hg : S.goesB = true) :
    Calls Try.prog 21 #[.pointer (some ⟨p.d, 0, none⟩)] w fun e w' => e = .returned (.int .i64 0) ∧
      DiskRep w' { p with pv := .slice none 0 0 } { S.goes.layAll S.pend with pend := [], sy := wrap64 (S.sy + 1) } ∧ Fr p.foot w w' := by
  obtain ⟨cb, ct, hd, hx⟩ := h.ex
  have Hd := Lib.hid hd
  have Hh := Lib.hid h
  have Hpv := Lib.hid hpv
  have hr := Lib.hid (show readyI S.off 0 S.data.length = 0 from ready0 h.ok ho)
  have Hg := Lib.hid (show goesB S.pl S.left = true from hg)
  have n0 := h.ok.n0
  have l0 := h.ok.l0
  have l1 := h.ok.l1
  obtain ⟨hcap, hmx⟩ := (PendSl.get (hpv ▸ h.rp)).2.2.1
  clear h hx hg ho hd hpv
  go_enter Try.func21, Try.ntmps21
  go_wp2_with fail
  refine (ready_any _ _ _ _ _ _ _ _ _ _ _ _ Hd.out n0 _).mono ?_
  rintro e w' ⟨rfl, rfl⟩
  rw [hr.out]
  go_wp2_with fail
  refine (goes_any _ _ _ _ _ _ _ _ _ _ _ _ Hd.out l0 l1).mono ?_
  rintro e w1 ⟨rfl, hd1, f1⟩
  rw [Hg.out]
  have H1 := Lib.hid (Hh.out.goes Hd.out hd1 f1)
  rw [Hpv.out] at hd1
  obtain ⟨r1, lv1⟩ := hd1
  have F1 := Lib.hid f1
  clear f1
  go_wp2
  go_loopw [19] (fun i wr => ∃ k : Nat, k ≤ S.pend.length ∧ i = .int .i64 k ∧ DiskRep wr p (S.goes.layAll (S.pend.take k)) ∧ Fr p.foot w1 wr) (fun i _ => S.pend.length - (intOf i).toNat)
  case atStart => exact ⟨0, Nat.zero_le _, rfl, by simpa [DS.layAll] using H1.out, Fr.refl _ _⟩
  case round =>
    obtain ⟨k, hk, rfl, hrep, hf⟩ := hrel
    have HF := Lib.hid hf
    have HR := Lib.hid hrep
    have hfl := layAll_fields (S.pend.take k) S.goes
    have hpd : (S.goes.layAll (S.pend.take k)).pend = S.pend := hfl.1
    have hdl : (S.goes.layAll (S.pend.take k)).data.length = S.data.length := hfl.2.2.2.2.2.2.1
    have hrp := hrep.rp
    rw [hpd, Hpv.out] at hrp
    obtain ⟨-, lw, ⟨hc, -⟩, hsz, hct⟩ := hrp.get
    have HFL := Lib.hid hfl
    have HDL := Lib.hid hdl
    clear hfl hdl hpd hrp hf r1 lv1 H1
    by_cases hlt : k < S.pend.length
    · have ct := hct k hlt
      have hsz2 : k * 65 + 65 ≤ (rowOf wr g).size := by rw [hsz]; have := Nat.mul_le_mul_right 65 (Nat.le_trans hlt hc); omega
      obtain ⟨q1, q2⟩ := Hh.out.ok.pe _ (List.getElem_mem hlt)
      have TS := Lib.hid (layAll_take_succ S.goes S.pend k hlt)
      obtain ⟨⟨ka, b⟩, hq⟩ : ∃ q, S.pend[k] = q := ⟨_, rfl⟩
      rw [hq] at ct q1 q2
      have HQ := Lib.hid hq
      simp only at ct q1 q2
      have s65 : (wrC (ka : Int) (bvA b)).size = 65 := by rw [wrC_size, bvA_size, q2]
      have o65 : ones (wrC (ka : Int) (bvA b)) := wrC_ones (bvA_ones b)
      have hgl : g < wr.heap.size := live_lt lw
      have hki : (k : Int) < (S.pend.length : Int) := by omega
      clear hq hct hsz hrep
      go_wp2_with fail
      have fa : Fr (fun _ => False) wr (wr.alloc (.cells (wrC (ka : Int) (bvA b)) 112)) := (Fr.refl _ _).alloc _
      refine (lay_rep _ p _ (HR.out.keep fa (fun _ _ h => h)) ka b (by rw [HDL.out]; exact q1) q2).mono ?_
      rintro e w2 ⟨rfl, hr2, f2⟩
      have HR2 := Lib.hid hr2
      have F2 : Hid (Fr p.foot wr w2) := (fa.mono (fun _ _ h => h.elim)).trans f2 (fun i _ h => h.elim (fun e => .inr (.inl e)) (fun e => .inr (.inr (.inl e))))
      clear hr2 f2 ct
      go_wp2
      go_roundw
      case rel =>
        refine ⟨k + 1, by omega, by go_num, ?_, HF.out.trans F2.out (fun _ _ h => h)⟩
        rw [TS.out, HQ.out]; exact HR2.out
      case measure => simp [intOf]; omega
    · obtain rfl : k = S.pend.length := by omega
      obtain ⟨cb2, ct2, hd2, -⟩ := hrep.ex
      have HD2 := Lib.hid hd2
      obtain ⟨r2, lv2⟩ := hd2
      clear hct hsz hrep lw
      go_wp2
      go_ret
      have HX : DiskRep wr p (S.goes.layAll S.pend) := by have := HR.out; rwa [List.take_of_length_le (Nat.le_refl _)] at this
      have FX : Fr p.foot w wr := (F1.out.mono (fun _ _ e => Or.inl e)).trans HF.out (fun _ _ h => h)
      have HD3 := HD2.out
      rw [List.take_of_length_le (Nat.le_refl _)] at HD3
      have e7 := (layAll_fields S.pend S.goes).2.2.2.2.2.2.1
      obtain ⟨e1, e2, e3, e4, e5, e6, _⟩ := layAll_fields S.pend S.goes
      refine ⟨rfl, HX.upd ((Fr.refl (· = p.d) wr).setRow p.d _ (fun _ => rfl)) (fun e => HX.n1 e.symm) (fun e => HX.n2 e.symm) HD3 ⟨?_, by rw [live_setRow]; exact lv2⟩ (.inl ⟨rfl, rfl⟩) (by simp [Value.ownBlock]) (by simp) ?_ ?_, FX.setRow p.d _ (fun _ => .inl rfl)⟩
      · rw [rowOf_setRow_same _ _ _ lv2]
        rw [e6]
        rfl
      · rw [e4]; exact (HX.ok.l0 |> fun h => by rw [e4] at h; exact h)
      · rw [e4]; exact (HX.ok.l1 |> fun h => by rw [e4] at h; exact h)

set_option maxRecDepth 20000 in
set_option maxHeartbeats 1000000 in
theorem sync_ok0 (w : World) (p : DP) (S : DS) (h : DiskRep w p S) (hpv : p.pv = .slice none 0 0) (hpd : S.pend = []) (ho : S.off = false) (hg : S.goesB = true) :
    Calls Try.prog 21 #[.pointer (some ⟨p.d, 0, none⟩)] w fun e w' => e = .returned (.int .i64 0) ∧
      DiskRep w' { p with pv := .slice none 0 0 } { S.goes.layAll S.pend with pend := [], sy := wrap64 (S.sy + 1) } ∧ Fr p.foot w w' := by
  obtain ⟨cb, ct, hd, hx⟩ := h.ex
  have Hd := Lib.hid hd
  have Hh := Lib.hid h
  have Hpv := Lib.hid hpv
  have Hpd := Lib.hid hpd
  have hr := Lib.hid (show readyI S.off 0 S.data.length = 0 from ready0 h.ok ho)
  have Hg := Lib.hid (show goesB S.pl S.left = true from hg)
  have n0 := h.ok.n0
  have l0 := h.ok.l0
  have l1 := h.ok.l1
  clear h hx hg ho hd hpv hpd
  go_enter Try.func21, Try.ntmps21
  go_wp2_with fail
  refine (ready_any _ _ _ _ _ _ _ _ _ _ _ _ Hd.out n0 _).mono ?_
  rintro e w' ⟨rfl, rfl⟩
  rw [hr.out]
  go_wp2_with fail
  refine (goes_any _ _ _ _ _ _ _ _ _ _ _ _ Hd.out l0 l1).mono ?_
  rintro e w1 ⟨rfl, hd1, f1⟩
  rw [Hg.out]
  have H1 := Lib.hid (Hh.out.goes Hd.out hd1 f1)
  have HD1 := Lib.hid hd1
  rw [Hpv.out] at hd1
  obtain ⟨r1, lv1⟩ := hd1
  have F1 := Lib.hid f1
  clear f1
  go_wp2
  refine wp_loop_once ?_
  go_wp2
  go_ret
  have e0 : S.goes.layAll S.pend = S.goes := by rw [Hpd.out]; rfl
  rw [e0]
  have HX := H1.out
  refine ⟨rfl, HX.upd ((Fr.refl (· = p.d) w1).setRow p.d _ (fun _ => rfl)) (fun e => HX.n1 e.symm) (fun e => HX.n2 e.symm) HD1.out ⟨?_, by rw [live_setRow]; exact lv1⟩ (.inl ⟨rfl, rfl⟩) (by simp [Value.ownBlock]) (by simp) HX.ok.l0 HX.ok.l1,
    (F1.out.mono (fun _ _ e => Or.inl e)).setRow p.d _ (fun _ => .inl rfl)⟩
  rw [rowOf_setRow_same _ _ _ lv1]
  rfl

set_option maxHeartbeats 400000 in
theorem sync_bad1 (w : World) (p : DP) (S : DS) (h : DiskRep w p S) (hr0 : S.ready 0 ≠ 0) :
    Calls Try.prog 21 #[.pointer (some ⟨p.d, 0, none⟩)] w fun e w' => e = .returned (.int .i64 (S.ready 0)) ∧ w = w' := by
  obtain ⟨cb, ct, hd, hx⟩ := h.ex
  have Hd := Lib.hid hd
  have n0 := h.ok.n0
  have hr := Lib.hid (show readyI S.off 0 S.data.length = S.ready 0 from rfl)
  have hb : (S.ready 0 != 0) = true := by simpa using hr0
  generalize S.ready 0 = r at hr hb hr0 ⊢
  clear h hx hd hr0
  go_enter Try.func21, Try.ntmps21
  go_wp2_with fail
  refine (ready_any _ _ _ _ _ _ _ _ _ _ _ _ Hd.out n0 _).mono ?_
  rintro e w' ⟨rfl, rfl⟩
  rw [hr.out]
  go_wp2
  go_ret
  exact ⟨rfl, rfl⟩

set_option maxHeartbeats 400000 in
theorem sync_bad2 (w : World) (p : DP) (S : DS) (h : DiskRep w p S) (hr0 : S.ready 0 = 0) (hg : S.goesB = false) :
    Calls Try.prog 21 #[.pointer (some ⟨p.d, 0, none⟩)] w fun e w' => e = .returned (.int .i64 22) ∧ DiskRep w' p S.goes ∧ Fr (· = p.d) w w' := by
  obtain ⟨cb, ct, hd, hx⟩ := h.ex
  have Hd := Lib.hid hd
  have Hh := Lib.hid h
  have n0 := h.ok.n0
  have l0 := h.ok.l0
  have l1 := h.ok.l1
  have hr := Lib.hid (show readyI S.off 0 S.data.length = 0 from hr0)
  have Hg := Lib.hid (show goesB S.pl S.left = false from hg)
  clear h hx hd hr0 hg
  go_enter Try.func21, Try.ntmps21
  go_wp2_with fail
  refine (ready_any _ _ _ _ _ _ _ _ _ _ _ _ Hd.out n0 _).mono ?_
  rintro e w' ⟨rfl, rfl⟩
  rw [hr.out]
  go_wp2_with fail
  refine (goes_any _ _ _ _ _ _ _ _ _ _ _ _ Hd.out l0 l1).mono ?_
  rintro e w1 ⟨rfl, hd1, f1⟩
  rw [Hg.out]
  have Hd1 := Lib.hid hd1
  have F1 := Lib.hid f1
  clear hd1 f1
  go_wp2
  go_ret
  exact ⟨rfl, Hh.out.goes Hd.out Hd1.out F1.out, F1.out⟩

/-- Sync, in every case. -/
theorem sync_any (w : World) (p : DP) (S : DS) (h : DiskRep w p S) :
    Calls Try.prog 21 #[.pointer (some ⟨p.d, 0, none⟩)] w fun e w' => ∃ p', p'.d = p.d ∧ e = .returned (.int .i64 S.sync.1) ∧ DiskRep w' p' S.sync.2 ∧ Moves p.foot p'.foot w w' := by
  by_cases h1 : S.ready 0 ≠ 0
  · refine (sync_bad1 w p S h h1).mono ?_
    rintro e w' ⟨rfl, rfl⟩
    have e1 : S.sync = (S.ready 0, S) := by unfold DS.sync; rw [if_pos h1]
    rw [e1]
    exact ⟨p, rfl, rfl, h, Moves.refl _ _⟩
  · have h1' : S.ready 0 = 0 := Classical.byContradiction h1
    cases h3 : S.goesB with
    | false =>
      refine (sync_bad2 w p S h h1' h3).mono ?_
      rintro e w' ⟨rfl, hr, f⟩
      have e1 : S.sync = (22, S.goes) := by unfold DS.sync; rw [if_neg h1, if_pos h3]
      rw [e1]
      exact ⟨p, rfl, rfl, hr, f.mono (fun i _ e => .inl e), fun k hk => .inl hk⟩
    | true =>
      have hoff := (readyI_zero.1 h1').1
      have e2 : S.sync = (0, { S.goes.layAll S.pend with pend := [], sy := wrap64 (S.sy + 1) }) := by
        unfold DS.sync; rw [if_neg h1, if_neg (by rw [h3]; simp)]
      rw [e2]
      have fin : ∀ (e : Ending) (w' : World), (e = .returned (.int .i64 0) ∧ DiskRep w' { p with pv := .slice none 0 0 } { S.goes.layAll S.pend with pend := [], sy := wrap64 (S.sy + 1) } ∧ Fr p.foot w w') →
          ∃ p', p'.d = p.d ∧ e = .returned (.int .i64 0) ∧ DiskRep w' p' { S.goes.layAll S.pend with pend := [], sy := wrap64 (S.sy + 1) } ∧ Moves p.foot p'.foot w w' := by
        rintro e w' ⟨rfl, hr, f⟩
        refine ⟨{ p with pv := .slice none 0 0 }, rfl, rfl, hr, f, ?_⟩
        rintro k (rfl | rfl | rfl | hk)
        · exact .inl (.inl rfl)
        · exact .inl (.inr (.inl rfl))
        · exact .inl (.inr (.inr (.inl rfl)))
        · cases hk
      rcases h.rp with ⟨hpv, hpd⟩ | ⟨g, cap, hpv, _⟩
      · exact (sync_ok0 w p S h hpv hpd hoff h3).mono fin
      · exact (sync_ok1 w p S h g cap hpv hoff h3).mono fin

end Go.Proofs.Ytflnlpbcmcfblaa
