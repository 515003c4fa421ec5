/-
  (*Disk).Pending.
-/
import Derived.Test.YtflnlpbcmcfblaaImage
namespace Go.Proofs.Ytflnlpbcmcfblaa
open Go.RowKit

theorem OwnBytes.weaken {w : World} {v : Value} {b : List UInt8} {base base' : Nat} (h : OwnBytes w v b base) (hb : base' ≤ base) : OwnBytes w v b base' := by
  obtain ⟨g, ext, rfl, h1, h2, h3, h4⟩ := h
  exact ⟨g, ext, rfl, by omega, h2, h3, h4⟩

/-- One told write: its block, its bytes in a row of their own. -/
def PRow (w : World) (v : Value) (base : Nat) (x : Array Value) (q : Int × List UInt8) : Prop :=
  ∃ vd, x = #[.int .i64 q.1, vd] ∧ OwnBytes w vd q.2 base ∧ vd.ownBlock ≠ v.ownBlock

/-- No two of them share their bytes. -/
def PDist (xs : List (Array Value)) : Prop := ∀ i j (hi : i < xs.length) (hj : j < xs.length), i < j → ∀ u v, xs[i][1]? = some u → xs[j][1]? = some v → u.ownBlock ≠ v.ownBlock

theorem PDist.snoc {xs : List (Array Value)} (h : PDist xs) {x : Array Value} (hx : ∀ i (hi : i < xs.length) u v, xs[i][1]? = some u → x[1]? = some v → u.ownBlock ≠ v.ownBlock) : PDist (xs ++ [x]) := by
  intro i j hi hj hij u v hu hv
  simp only [List.length_append, List.length_cons, List.length_nil] at hi hj
  rw [List.getElem_append_left (by omega)] at hu
  by_cases hjl : j < xs.length
  · rw [List.getElem_append_left hjl] at hv
    exact h i j _ hjl hij u v hu hv
  · rw [List.getElem_append_right (by omega)] at hv
    have : j - xs.length = 0 := by omega
    simp only [this, List.getElem_cons_zero] at hv
    exact hx i _ u v hu hv

/-- The told writes. -/
def PendRows (w : World) (v : Value) (l : List (Int × List UInt8)) (base : Nat) : Prop :=
  ∃ xs, OwnRows w v 2 xs base ∧ xs.length = l.length ∧ (∀ i (h1 : i < xs.length) (h2 : i < l.length), PRow w v base xs[i] l[i]) ∧ PDist xs

theorem PendRows.nil (w : World) (base : Nat) : PendRows w (.slice none 0 0) [] base := ⟨[], OwnRows.nil _ _ _, rfl, fun i h => by simp at h, fun i j hi => by simp at hi⟩

theorem PendRows.keep {w w' : World} {v : Value} {l : List (Int × List UInt8)} {base : Nat} (h : PendRows w v l base) {F : Nat → Prop} (hf : Fr F w w') (hF : ∀ k, base ≤ k → k < w.heap.size → ¬ F k) : PendRows w' v l base := by
  obtain ⟨xs, h1, h2, h3, h4⟩ := h
  refine ⟨xs, h1.keep hf (fun k hk => hF k (h1.lt hk).1 (h1.lt hk).2), h2, fun i a b => ?_, h4⟩
  obtain ⟨vd, e1, e2, e3⟩ := h3 i a b
  exact ⟨vd, e1, e2.keep hf (fun k hk => hF k (e2.lt hk).1 (e2.lt hk).2), e3⟩

theorem PendRows.sizes {xs : List (Array Value)} {w : World} {v : Value} {l : List (Int × List UInt8)} {base : Nat} (h2 : xs.length = l.length) (h3 : ∀ i (h1 : i < xs.length) (h2 : i < l.length), PRow w v base xs[i] l[i]) : ∀ y ∈ xs, y.size = 2 := by
  intro y hy
  obtain ⟨i, hi, rfl⟩ := List.getElem_of_mem hy
  obtain ⟨vd, e1, _⟩ := h3 i hi (by omega)
  rw [e1]; rfl

theorem PendRows.snoc {w w' : World} {v : Value} {l : List (Int × List UInt8)} {base : Nat} {xs : List (Array Value)} (_h1 : OwnRows w v 2 xs base) (h2 : xs.length = l.length) (h3 : ∀ i (_h1 : i < xs.length) (_h2 : i < l.length), PRow w v base xs[i] l[i]) (h4 : PDist xs)
    {g' cap' : Nat} {n : Int} {vd : Value} {b : List UInt8} (hb : OwnBytes w vd b base) (hv : vd.ownBlock ≠ v.ownBlock) (ho : OwnRows w' (.slice (some ⟨g', 0, none⟩) (xs.length + 1) cap') 2 (xs ++ [#[.int .i64 n, vd]]) base)
    (hf : Fr (fun i => v.ownBlock = some i) w w') (hn : v.ownBlock = some g' ∨ w.heap.size ≤ g') (hd : ∀ i (hi : i < xs.length) u, xs[i][1]? = some u → u.ownBlock ≠ vd.ownBlock) : PendRows w' (.slice (some ⟨g', 0, none⟩) (xs.length + 1) cap') (l ++ [(n, b)]) base := by
  have other : ∀ (u : Value) (c : List UInt8), OwnBytes w u c base → u.ownBlock ≠ v.ownBlock → OwnBytes w' u c base ∧ u.ownBlock ≠ (.slice (some ⟨g', 0, none⟩) (xs.length + 1) cap' : Value).ownBlock := by
    intro u c hu hne
    refine ⟨hu.keep hf (fun k hk e => hne (by rw [hk, e])), fun e => ?_⟩
    rcases hn with e2 | e2
    · exact hne (e.trans (by rw [e2]; rfl))
    · have := (hu.lt (k := g') (by rw [e]; rfl)).2
      omega
  refine ⟨_, ho, by simp [h2], fun i a b' => ?_, h4.snoc (fun i hi u v' hu hv' => (show vd = v' by simpa using hv') ▸ hd i hi u hu)⟩
  by_cases hi : i < xs.length
  · rw [List.getElem_append_left hi, List.getElem_append_left (by omega)]
    obtain ⟨u, e1, e2, e3⟩ := h3 i hi (by omega)
    obtain ⟨f1, f2⟩ := other u _ e2 e3
    exact ⟨u, e1, f1, f2⟩
  · have hi2 : i = xs.length := by simp at a; omega
    subst hi2
    rw [List.getElem_append_right (by simp), List.getElem_append_right (by omega)]
    simp only [Nat.sub_self, List.getElem_cons_zero, h2]
    obtain ⟨f1, f2⟩ := other vd b hb hv
    exact ⟨vd, rfl, f1, f2⟩

def pendI (l : List (Nat × List UInt8)) : List (Int × List UInt8) := l.map (fun p => ((p.1 : Int), p.2))
theorem pendI_take_succ (l : List (Nat × List UInt8)) (k : Nat) (h : k < l.length) : pendI (l.take (k + 1)) = pendI (l.take k) ++ [((l[k].1 : Int), l[k].2)] := by
  rw [List.take_succ_eq_append_getElem h]; unfold pendI; rw [List.map_append]; rfl

set_option maxHeartbeats 1000000 in
theorem pending_nil (w : World) (p : DP) (S : DS) (h : DiskRep w p S) (hpv : p.pv = .slice none 0 0) :
    Calls Try.prog 22 #[.pointer (some ⟨p.d, 0, none⟩)] w fun e w' => e = .returned (.slice none 0 0) ∧ w = w' := by
  obtain ⟨cb, ct, hd, hx⟩ := h.ex
  have H := Lib.hid h
  obtain ⟨r, lv⟩ := hd
  rw [hpv] at r
  clear h hx hpv
  go_enter Try.func22, Try.ntmps22
  go_wp2_with (go_at_call 64; refine (none_rep _ _ _ H.out).mono ?_; rintro e w' ⟨rfl, rfl⟩)
  refine wp_loop_once ?_
  go_wp2
  go_ret
  exact ⟨rfl, rfl⟩

set_option maxRecDepth 20000 in
set_option maxHeartbeats 2000000 in
theorem pending_some (w : World) (p : DP) (S : DS) (h : DiskRep w p S) (gp cap : Nat) (hpv : p.pv = .slice (some ⟨gp, 0, none⟩) S.pend.length cap) (hm : S.pend.length * 32 ≤ 70368744177664) :
    Calls Try.prog 22 #[.pointer (some ⟨p.d, 0, none⟩)] w fun e w' => ∃ v, e = .returned v ∧ PendRows w' v (pendI S.pend) w.heap.size ∧ Fr (fun _ => False) w w' := by
  obtain ⟨cb, ct, hd, hx⟩ := h.ex
  have H := Lib.hid h
  have HP := Lib.hid (hpv ▸ h.rp)
  obtain ⟨r, lv⟩ := hd
  rw [hpv] at r
  have hld := live_lt lv
  obtain ⟨-, hmx⟩ := HP.out.get.2.2.1
  clear h hx hpv
  go_enter Try.func22, Try.ntmps22
  go_wp2_with (go_at_call 64; refine (none_rep _ _ _ H.out).mono ?_; rintro e w' ⟨rfl, rfl⟩)
  go_loopw [3, 13] (fun t i wr => ∃ (k : Nat) (v : Value), k ≤ S.pend.length ∧ i = .int .i64 k ∧ v = t ∧ PendRows wr v (pendI (S.pend.take k)) w.heap.size ∧ Fr (fun _ => False) w wr) (fun _ i _ => S.pend.length - (intOf i).toNat)
  case atStart => exact ⟨0, _, Nat.zero_le _, rfl, rfl, PendRows.nil _ _, Fr.refl _ _⟩
  case round =>
    obtain ⟨k, v, hk, rfl, rfl, ho, hf⟩ := hrel
    have HF := Lib.hid hf
    have HO := Lib.hid ho
    obtain ⟨-, lw0, ⟨hc, -⟩, hsz0, hct0⟩ := HP.out.get
    have hgp := live_lt lw0
    have lw : live wr gp = true := by rw [hf.liv hgp (fun h => h)]; exact lw0
    have hgr := hf.row hgp (fun h => h)
    clear r lv ho
    by_cases hlt : k < S.pend.length
    · have ct0 : cut (rowOf wr gp) (k * 65) 65 = _ := (congrArg (fun c => cut c (k * 65) 65) hgr).trans (hct0 k hlt)
      have hsz2 : k * 65 + 65 ≤ (rowOf wr gp).size := by rw [hgr, hsz0]; have := Nat.mul_le_mul_right 65 (Nat.le_trans hlt hc); omega
      obtain ⟨q1, q2⟩ := H.out.ok.pe _ (List.getElem_mem hlt)
      have TS := Lib.hid (pendI_take_succ S.pend k hlt)
      obtain ⟨⟨ka, b⟩, hq⟩ : ∃ q, S.pend[k] = q := ⟨_, rfl⟩
      rw [hq] at ct0 q1 q2
      have HQ := Lib.hid hq
      simp only at ct0 q1 q2
      have s65 : (wrC (ka : Int) (bvA b)).size = 65 := by rw [wrC_size, bvA_size, q2]
      have o65 : ones (wrC (ka : Int) (bvA b)) := wrC_ones (bvA_ones b)
      have hgl : gp < wr.heap.size := live_lt lw
      have hki : (k : Int) < (S.pend.length : Int) := by omega
      clear hq hct0 hsz0 hgr hf
      go_wp2
      obtain ⟨xs, hox, hxl, hxr, hxd⟩ := HO.out
      have hxl2 : xs.length = k := by rw [hxl]; simp [pendI]; omega
      have HX := Lib.hid hox
      have HXL := Lib.hid hxl
      have HXR := Lib.hid hxr
      have HXD := Lib.hid hxd
      have HXK := Lib.hid hxl2
      have hsz0 := HF.out.size
      clear hox hxl hxr hxl2 ct0 lw0 hxd
      go_region_law (first | (refine step_append_one rfl (.tmp 17) (.tmp 24) 33 rfl 44 _ 2 32 Try.underlying33 ti44 v xs w.heap.size rfl (HX3.out.keep (((Fr.refl (fun _ => False) w3).alloc _)) (fun _ _ h => h)) (by simp; omega) w3.heap.size 1 rfl #[.int .i64 (ka : Int), .slice (some ⟨g3, 0, none⟩) 64 (64 + ext)] (by simp [go_sem]) (by simp [go_sem]) (by intro y hy; simp at hy; rcases hy with rfl | rfl <;> rfl) (PendRows.sizes HXL.out HXR.out) (by have := HXK.out; simp only [maxLen]; omega) (fitsN (by have := HXK.out; omega) (by omega)) ?_; intro g' cap' w4 ho4 f4 hn4; have HO4 := Lib.hid ho4; have F4 := Lib.hid f4; have N4 := Lib.hid hn4; clear ho4 f4 hn4) | (go_simp; go_at_call 65; refine (clone36_64 _ wr.heap.size 1 64 b q2 (by simp [go_sem, s65]) (by simp [go_sem, wrC_cut, bvA_size, q2])).mono ?_; rintro e w3 ⟨g3, ext, rfl, hb3, f3⟩; have r3 := (f3.row (g := wr.heap.size) (by simp) (fun h => h)).trans ((by simp [go_sem]) : _ = wrC (ka : Int) (bvA b)); have hs3 := f3.size; simp only [World.size_drew, World.size_alloc] at hs3; have HX3 := Lib.hid ((HX.out.keep (((Fr.refl (fun _ => False) wr).alloc _).drew) (fun _ _ h => h)).keep f3 (fun _ _ h => h)); have HB3 := Lib.hid hb3; have F3 := Lib.hid f3; clear f3 hb3))
      all_goals (go_wp2; go_roundw)
      all_goals first
        | (simp only [intOf]; omega)
        | (refine ⟨k + 1, _, by omega, by go_num, rfl, ?_, ?_⟩
           · have FR3 : Fr (fun _ => False) wr w3 := (((Fr.refl (fun _ => False) wr).alloc _).drew).trans F3.out (fun _ _ h => h)
             have hb3 := HB3.out
             have hlo := (hb3.lt (k := g3) rfl).1
             simp only [World.size_drew, World.size_alloc] at hlo
             rw [TS.out, HQ.out]
             refine PendRows.snoc HX3.out HXL.out (fun i a b => ?_) HXD.out (OwnBytes.weaken hb3 (by simp; omega)) (fun e => ?_) HO4.out (((Fr.refl (fun i => v.ownBlock = some i) w3).alloc _).trans F4.out (fun _ _ h => h)) (N4.out.imp id (fun h => by simp only [World.size_alloc] at h; omega)) (fun i hi u hu e => ?_)
             · obtain ⟨vd, e1, e2, e3⟩ := HXR.out i a b
               exact ⟨vd, e1, e2.keep FR3 (fun _ _ h => h), e3⟩
             · have := (HX.out.lt (k := g3) (by rw [← e]; rfl)).2
               omega
             · obtain ⟨vd, e1, e2, e3⟩ := HXR.out i hi (by rw [← HXL.out]; exact hi)
               obtain rfl : vd = u := by rw [e1] at hu; simpa using hu
               have := (e2.lt (k := g3) (by rw [e]; rfl)).2
               omega
           · have FR3 : Fr (fun _ => False) wr w3 := (((Fr.refl (fun _ => False) wr).alloc _).drew).trans F3.out (fun _ _ h => h)
             have FR4 : Fr (fun i => v.ownBlock = some i) w3 w4 := ((Fr.refl (fun i => v.ownBlock = some i) w3).alloc _).trans F4.out (fun _ _ h => h)
             refine HF.out.trans ((FR3.mono (fun _ _ h => h.elim)).trans FR4 (fun _ _ h => h)) (fun i hi e => ?_)
             have := (HX.out.lt e).1
             omega)
    · obtain rfl : k = S.pend.length := by omega
      clear hct0 hsz0 hgr hf
      go_wp2
      go_ret
      exact ⟨v, rfl, by have := HO.out; rwa [List.take_of_length_le (Nat.le_refl _)] at this, HF.out⟩

theorem pending_any (w : World) (p : DP) (S : DS) (h : DiskRep w p S) (hm : S.pend.length * 32 ≤ 70368744177664) :
    Calls Try.prog 22 #[.pointer (some ⟨p.d, 0, none⟩)] w fun e w' => ∃ v, e = .returned v ∧ PendRows w' v (pendI S.pend) w.heap.size ∧ Fr (fun _ => False) w w' := by
  rcases h.rp with ⟨hpv, hn⟩ | ⟨gp, cap, hpv, _⟩
  · refine (pending_nil w p S h hpv).mono ?_
    rintro e w' ⟨rfl, rfl⟩
    refine ⟨_, rfl, ?_, Fr.refl _ _⟩
    rw [hn]; exact PendRows.nil _ _
  · exact pending_some w p S h gp cap hpv hm

end Go.Proofs.Ytflnlpbcmcfblaa
