/-
  disk.Clone.
-/
import Derived.Test.YtflnlpbcmcfblaaImages
namespace Go.Proofs.Ytflnlpbcmcfblaa
open Go.RowKit

theorem cut_sub {A B : Array Value} {off N o m : Nat} (hA : N ≤ A.size) (hB : off + N ≤ B.size) (h : cut A 0 N = cut B off N) (hm : o + m ≤ N) : cut A o m = cut B (off + o) m := by
  refine cut_ext (cut_size (by omega)) (by omega) (fun i hi => ?_)
  rw [cut_get (by omega) i hi]
  have e1 := cut_get (cur := A) (off := 0) (n := N) (by omega) (o + i) (by omega)
  have e2 := cut_get (cur := B) (off := off) (n := N) (by omega) (o + i) (by omega)
  rw [Nat.zero_add] at e1
  rw [← e1, h, e2, Nat.add_assoc]

section
variable {w W : World} {p : DP} {S : DS} {n cb ct : Nat}

theorem clone66_disk (h : DiskRep w p S) (hn : S.data.length = n) (hcb : n ≤ cb) (hs : (rowOf w p.gb).size = cb * 64) (f : Fr (fun _ => False) w W) :
    Calls Try.prog 73 #[.slice (some ⟨p.gb, 0, none⟩) n cb] W fun e w' => ∃ g' cap', e = .returned (.slice (some ⟨g', 0, none⟩) n cap') ∧ W.heap.size ≤ g' ∧ live w' g' = true ∧ n ≤ cap' ∧ (rowOf w' g').size = cap' * 64 ∧
      (∀ i (h : i < S.data.length), cut (rowOf w' g') (i * 64) 64 = bvA S.data[i]) ∧ Fr (fun _ => False) W w' := by
  have e : rowOf W p.gb = rowOf w p.gb := f.row (live_lt h.lb) (fun h => h)
  have n0 := h.ok.n0
  have n1 := h.ok.n1
  have hm := Nat.mul_le_mul_right 64 hcb
  refine (clone66_any W p.gb 0 n cb (by omega) (by rw [e]; omega) (by omega)).mono ?_
  rintro x w' ⟨g', cap', rfl, a1, a2, a3, a4, a5, a6, a7⟩
  refine ⟨g', cap', rfl, a1, a2, a3, a5, fun i hi => ?_, a7⟩
  have hm2 := Nat.mul_le_mul_right 64 a3
  have hm3 := Nat.mul_le_mul_right 64 (show i + 1 ≤ n by omega)
  have := cut_sub (o := i * 64) (m := 64) (by omega) (by rw [e]; omega) a6 (by omega)
  rw [this, e, Nat.zero_add, h.rb i hi]

theorem clone48_disk (h : DiskRep w p S) (hn : S.data.length = n) (hct : n ≤ ct) (hs : (rowOf w p.gt).size = ct) (f : Fr (fun _ => False) w W) :
    Calls Try.prog 74 #[.slice (some ⟨p.gt, 0, none⟩) n ct] W fun e w' => ∃ g' cap', e = .returned (.slice (some ⟨g', 0, none⟩) n cap') ∧ W.heap.size ≤ g' ∧ live w' g' = true ∧ n ≤ cap' ∧ (rowOf w' g').size = cap' ∧
      (∀ i (h : i < S.torn.length), (rowOf w' g')[i]? = some (.bool S.torn[i])) ∧ Fr (fun _ => False) W w' := by
  have e : rowOf W p.gt = rowOf w p.gt := f.row (live_lt h.lt) (fun h => h)
  have n0 := h.ok.n0
  have n1 := h.ok.n1
  refine (clone48_any W p.gt 0 n ct (by omega) (by rw [e]; omega) (by omega)).mono ?_
  rintro x w' ⟨g', cap', rfl, a1, a2, a3, a4, a5, a6, a7⟩
  refine ⟨g', cap', rfl, a1, a2, a3, a5, fun i hi => ?_, a7⟩
  have hi2 : i < n := by rw [h.ok.tl, hn] at hi; exact hi
  have e1 := cut_get (cur := rowOf w' g') (off := 0) (n := n) (by omega) i hi2
  have e2 := cut_get (cur := rowOf W p.gt) (off := 0) (n := n) (by rw [e]; omega) i hi2
  rw [Nat.zero_add] at e1 e2
  rw [← e1, a6, e2, e, h.rt i hi]

theorem clone67_disk (h : DiskRep w p S) {v0 : Value} (hv : p.pv = v0) (hm : S.pend.length ≤ 2199023255552) (f : Fr (fun _ => False) w W) :
    Calls Try.prog 75 #[v0] W fun e w' => ∃ v, e = .returned v ∧ PendSl w' v S.pend ∧ (∀ k, v.ownBlock = some k → W.heap.size ≤ k) ∧ Fr (fun _ => False) W w' := by
  subst hv
  rcases h.rp with ⟨e, hn⟩ | ⟨g, cap, e, hl, ⟨h1, h1p⟩, h2, h3, h4⟩
  · rw [e]
    refine (clone67_nil W 0 0).mono ?_
    rintro x w' ⟨rfl, rfl⟩
    exact ⟨_, rfl, .inl ⟨rfl, hn⟩, (fun k hk => by cases hk), Fr.refl _ _⟩
  · have e2 : rowOf W g = rowOf w g := f.row (live_lt hl) (fun h => h)
    rw [e]
    have hm1 := Nat.mul_le_mul_right 65 h1
    refine (clone67_any W g 0 S.pend.length cap h1p (by rw [e2]; omega) (by omega)).mono ?_
    rintro x w' ⟨g', cap', rfl, a1, a2, a3, a4, a5, a6, a7⟩
    refine ⟨_, rfl, .inr ⟨g', cap', rfl, a2, ⟨a3, h1p⟩, a4, a5, fun i hi => ?_⟩, (fun k hk => by simp [Value.ownBlock] at hk; omega), a7⟩
    have hm2 := Nat.mul_le_mul_right 65 a3
    have hm3 := Nat.mul_le_mul_right 65 (show i + 1 ≤ S.pend.length by omega)
    have := cut_sub (o := i * 65) (m := 65) (by omega) (by rw [e2]; omega) a6 (by omega)
    rw [this, e2, Nat.zero_add, h4 i hi]
end

theorem PendSl.shape {w : World} {v : Value} {l : List (Nat × List UInt8)} (h : PendSl w v l) : ∃ a m c, v = .slice a m c := by
  rcases h with ⟨rfl, _⟩ | ⟨g, cap, rfl, _⟩
  · exact ⟨_, _, _, rfl⟩
  · exact ⟨_, _, _, rfl⟩

set_option maxRecDepth 20000 in
set_option maxHeartbeats 2000000 in
theorem clone_any (w : World) (p : DP) (S : DS) (h : DiskRep w p S) (hm : S.pend.length ≤ 2199023255552) :
    Calls Try.prog 40 #[.pointer (some ⟨p.d, 0, none⟩)] w fun e w' => ∃ p' : DP, e = .returned (.pointer (some ⟨p'.d, 0, none⟩)) ∧ DiskRep w' p' S ∧ Fr (fun _ => False) w w' ∧ ∀ k, p'.foot k → w.heap.size ≤ k := by
  obtain ⟨cb, ct, hd, hcb, hct, hsb, hst⟩ := h.ex
  obtain ⟨hrow, hlive⟩ := hd
  have H := Lib.hid h
  have HM := Lib.hid hm
  obtain ⟨n, hn⟩ : ∃ n, S.data.length = n := ⟨_, rfl⟩
  have HN := Lib.hid hn
  rw [hn] at hrow hcb hct
  have HCB := Lib.hid hcb
  have HCT := Lib.hid hct
  have HSB := Lib.hid hsb
  have HST := Lib.hid hst
  have lr := live_lt hlive
  have hne : ¬ p.d = w.heap.size := by omega
  obtain ⟨ap, mp, cp, hpv⟩ := h.rp.shape
  rw [hpv] at hrow
  have HPV := Lib.hid hpv
  clear hpv
  clear h hm hn hsb hst hcb hct
  go_enter Try.func40, Try.ntmps40
  go_wp2_with fail
  refine (none_rep w p S H.out).mono ?_
  rintro e w' ⟨rfl, rfl⟩
  go_wp2
  have drow : Hid (rowOf w p.d = #[.slice (some ⟨p.gb, 0, none⟩) n cb, .slice (some ⟨p.gt, 0, none⟩) n ct, .slice ap mp cp, .bool S.off, .bool S.pl, .int .i64 S.left, .int .i64 S.wr, .int .i64 S.sy]) := Lib.hid hrow
  obtain ⟨W1, hW1⟩ : ∃ W1, (w.alloc (.cells #[.slice (some ⟨p.gb, 0, none⟩) n cb, .slice (some ⟨p.gt, 0, none⟩) n ct, .slice ap mp cp, .bool S.off, .bool S.pl, .int .i64 S.left, .int .i64 S.wr, .int .i64 S.sy] 69)) = W1 := ⟨_, rfl⟩
  have C1 : rowOf W1.drew w.heap.size = #[.slice (some ⟨p.gb, 0, none⟩) n cb, .slice (some ⟨p.gt, 0, none⟩) n ct, .slice ap mp cp, .bool S.off, .bool S.pl, .int .i64 S.left, .int .i64 S.wr, .int .i64 S.sy] := by rw [← hW1, rowOf_drew]; exact rowOf_alloc_at _ _ _ _ _ rfl
  have L1 : live W1.drew w.heap.size = true := by rw [← hW1, live_drew]; exact live_alloc_at _ _ _ _ rfl
  have F1 : Fr (fun _ => False) w W1.drew := by rw [← hW1]; exact ((Fr.refl _ w).alloc _).drew
  have Z1 : w.heap.size < W1.drew.heap.size := by rw [← hW1]; simp
  have D1 : rowOf W1.drew p.d = #[.slice (some ⟨p.gb, 0, none⟩) n cb, .slice (some ⟨p.gt, 0, none⟩) n ct, .slice ap mp cp, .bool S.off, .bool S.pl, .int .i64 S.left, .int .i64 S.wr, .int .i64 S.sy] := (F1.row lr (fun h => h)).trans hrow
  rw [hW1]
  clear hW1 hrow
  obtain ⟨c, hc⟩ : ∃ c, w.heap.size = c := ⟨_, rfl⟩
  have HCC := Lib.hid hc
  rw [hc] at C1 L1 hne Z1 ⊢
  clear hc
  go_region_held3 (fun w' => rowOf w' p.d = #[.slice (some ⟨p.gb, 0, none⟩) n cb, .slice (some ⟨p.gt, 0, none⟩) n ct, .slice ap mp cp, .bool S.off, .bool S.pl, .int .i64 S.left, .int .i64 S.wr, .int .i64 S.sy])
    (first | assumption | (rw [rowOf_setRow_ne _ _ _ _ hne]; assumption) | (simp only [rowOf_setRow_ne _ _ _ _ hne]; assumption))
    (first | (go_simp; go_at_call 73; refine (clone66_disk H.out HN.out HCB.out HSB.out F1).mono ?_; rintro e w4 ⟨g4, cap4, rfl, a1, a2, a3, a4, a5, f4⟩; have G4 := Lib.hid (And.intro a1 (And.intro a2 (And.intro a3 (And.intro a4 a5)))); have F4 := F1.trans f4 (fun _ _ h => h); have C4 := (f4.row Z1 (fun h => h)).trans C1; have L4 := (f4.liv Z1 (fun h => h)).trans L1; have Z4 := Nat.lt_of_lt_of_le Z1 f4.size; have D4 := (f4.row (Nat.lt_of_lt_of_le lr F1.size) (fun h => h)).trans D1; clear a1 a2 a3 a4 a5) | (go_simp; go_at_call 74; refine (clone48_disk H.out HN.out HCT.out HST.out F4).mono ?_; rintro e w5 ⟨g5, cap5, rfl, a1, a2, a3, a4, a5, f5⟩; have G5 := Lib.hid (And.intro a1 (And.intro a2 (And.intro a3 (And.intro a4 a5)))); have F5 := F4.trans f5 (fun _ _ h => h); have C5 := (f5.row Z4 (fun h => h)).trans C4; have L5 := (f5.liv Z4 (fun h => h)).trans L4; have Z5 := Nat.lt_of_lt_of_le Z4 f5.size; have D5 := (f5.row (Nat.lt_of_lt_of_le lr F4.size) (fun h => h)).trans D4; clear a1 a2 a3 a4 a5) | (go_simp; go_at_call 75; refine (clone67_disk H.out HPV.out HM.out F5).mono ?_; rintro e w6 ⟨v6, rfl, p6, n6, f6⟩; have P6 := Lib.hid p6; have N6 := Lib.hid n6; obtain ⟨a6, m6, c6, rfl⟩ := p6.shape; have F6 := F5.trans f6 (fun _ _ h => h); have C6 := (f6.row Z5 (fun h => h)).trans C5; have L6 := (f6.liv Z5 (fun h => h)).trans L5; have Z6 := Nat.lt_of_lt_of_le Z5 f6.size; have D6 := (f6.row (Nat.lt_of_lt_of_le lr F5.size) (fun h => h)).trans D5; clear p6 n6))
  all_goals
    go_wp2
    go_ret
    obtain ⟨b1, b2, b3, b4, b5⟩ := G4.out
    obtain ⟨d1, d2, d3, d4, d5⟩ := G5.out
    have FX := (Fr.refl (fun k => k = c) w6).setRow c #[.slice (some ⟨g4, 0, none⟩) n cap4, .slice (some ⟨g5, 0, none⟩) n cap5, .slice a6 m6 c6, .bool S.off, .bool S.pl, .int .i64 S.left, .int .i64 S.wr, .int .i64 S.sy] (fun _ => rfl)
    have f46 := f5.trans f6 (fun _ _ h => h)
    have l4 := live_lt b2
    have l5 := live_lt d2
    have s56 := f6.size
    have s45 := f5.size
    have k4 := (FX.row (by omega) (by omega)).trans (f46.row l4 (fun h => h))
    have k5 := (FX.row (by omega) (by omega)).trans (f6.row l5 (fun h => h))
    have v4 := (FX.liv (by omega) (by omega)).trans (f46.liv l4 (fun h => h))
    have v5 := (FX.liv (by omega) (by omega)).trans (f6.liv l5 (fun h => h))
    have hc := HCC.out
    have hn := HN.out
    refine ⟨⟨c, g4, g5, .slice a6 m6 c6⟩, rfl, ⟨H.out.ok, ⟨cap4, cap5, ⟨by rw [hn]; exact rowOf_setRow_same _ _ _ L6, by rw [live_setRow]; exact L6⟩, by rw [hn]; exact b3, by rw [hn]; exact d3, by rw [k4]; exact b4, by rw [k5]; exact d4⟩, v4.trans b2, v5.trans d2,
      by rw [k4]; exact b5, by rw [k5]; exact d5, P6.out.keep FX (fun k hk e => by have := N6.out k hk; omega), by show c ≠ g4; omega, by show c ≠ g5; omega, by show g4 ≠ g5; omega, ⟨fun e => ?_, fun e => ?_, fun e => ?_⟩⟩, ?_, fun k hk => ?_⟩
    · have := N6.out _ e; have : c < w5.heap.size := Z5; simp at *; omega
    · have := N6.out _ e; simp at *; omega
    · have := N6.out _ e; simp at *; omega
    · exact F6.trans FX (fun i hi e => by omega)
    · rcases hk with hk | hk | hk | hk
      · have hk2 : k = c := hk; omega
      · have hk2 : k = g4 := hk; omega
      · have hk2 : k = g5 := hk; omega
      · have := N6.out k hk; omega

end Go.Proofs.Ytflnlpbcmcfblaa
