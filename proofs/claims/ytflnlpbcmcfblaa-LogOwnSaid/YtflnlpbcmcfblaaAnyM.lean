/-
  LogAny: the walk.
-/
import Derived.Test.YtflnlpbcmcfblaaOpenL
import Derived.Test.YtflnlpbcmcfblaaLoadBad
namespace Go.Proofs.Ytflnlpbcmcfblaa
open Go.RowKit

set_option maxRecDepth 20000 in
set_option maxHeartbeats 2000000 in
theorem open_small (w : World) (p : DP) (S : DS) (h : DiskRep w p S) (hn : S.data.length < 6) :
    Calls Try.prog 47 #[.pointer (some ⟨p.d, 0, none⟩)] w fun e w' => e = .returned (.tuple #[.pointer none, .slice none 0 0, .int .i64 1]) ∧ w = w' := by
  have LK := Lib.hid (look_small w p S h hn)
  clear h hn
  go_enter Try.func47, Try.ntmps47
  go_wp2_with fail
  refine LK.out.mono ?_
  rintro e w' ⟨rfl, rfl⟩
  go_wp2
  go_ret3
  exact ⟨rfl, rfl⟩

theorem layAll_dlen (l : List (Nat × List UInt8)) : ∀ S : DS, (S.layAll l).data.length = S.data.length := by
  induction l with
  | nil => intro S; rfl
  | cons x l ih =>
    intro S
    have e : S.layAll (x :: l) = (S.lay x).layAll l := rfl
    rw [e, ih]
    simp [DS.lay]
theorem write_dlen (S : DS) (n : Int) (b : List UInt8) : (S.write n b).2.data.length = S.data.length := by
  unfold DS.write
  split
  · rfl
  · split
    · rfl
    · split
      · rfl
      · rfl
theorem sync_dlen (S : DS) : S.sync.2.data.length = S.data.length := by
  unfold DS.sync
  split
  · rfl
  · split
    · rfl
    · exact layAll_dlen _ _
theorem writeSeq_len (bs : List (List UInt8)) : ∀ (S : DS) (fr : Int), (S.writeSeq fr bs).2.data.length = S.data.length := by
  induction bs with
  | nil => intro S fr; exact sync_dlen S
  | cons b bs ih =>
    intro S fr
    unfold DS.writeSeq
    split
    · exact write_dlen _ _ _
    · rw [ih]; exact write_dlen _ _ _

theorem done_zero {S : DS} (h : S.Ok) (ho : S.off = false) (hp : S.pl = false) (i : Nat) (hi : i < S.data.length) (b : List UInt8) (hb : b.length = 64) : (S.writeSeq i [b]).1 = 0 := by
  have hr : S.ready i = 0 := readyI_zero.2 ⟨ho, by omega, by omega⟩
  have hg : S.goesB = true := by simp [DS.goesB, goesB, hp]
  have hw : S.write i b = (0, { S.goes with pend := S.pend ++ [((i : Int).toNat, b)], wr := wrap64 (S.wr + 1) }) := by
    unfold DS.write
    rw [if_neg (by rw [hr]; simp), if_neg (by simp [hb]), if_neg (by simp [hg])]
  unfold DS.writeSeq
  rw [hw]
  simp only [ne_eq, not_true_eq_false, if_false]
  unfold DS.writeSeq DS.sync
  have hr2 : DS.ready { S.goes with pend := S.pend ++ [((i : Int).toNat, b)], wr := wrap64 (S.wr + 1) } 0 = 0 := readyI_zero.2 ⟨by simp [DS.goes, goesOff, hp, ho], by omega, by simp [DS.goes]; have := h.n0; omega⟩
  have hg2 : DS.goesB { S.goes with pend := S.pend ++ [((i : Int).toNat, b)], wr := wrap64 (S.wr + 1) } = true := by simp [DS.goesB, goesB, DS.goes, goesPl, hp]
  rw [if_neg (by rw [hr2]; simp), if_neg (by rw [hg2]; simp)]

set_option maxRecDepth 20000 in
set_option maxHeartbeats 4000000 in
theorem any_bad (w : World) (v0 v1 : Value) (hb : Calls Try.prog 30 #[v0, v1] w fun e w2 => e = .returned (.tuple #[.pointer none, .int .i64 1]) ∧ Fr (fun _ => False) w w2) :
    Calls Try.prog 11 #[v0, v1] w fun e w' => e = .returned (.bool true) ∧ Below w.heap.size w w' := by
  have HB := Lib.hid hb
  clear hb
  go_enter Try.func11, Try.ntmps11
  go_wp2_with fail
  refine HB.out.mono ?_
  rintro e w2 ⟨rfl, f2⟩
  have F2 := Lib.hid f2
  clear f2
  go_wp2_with fail
  refine (live_any w2).mono ?_
  rintro e w3 ⟨rfl, rfl⟩
  go_wp2_with fail
  refine (live_any w2).mono ?_
  rintro e w3 ⟨rfl, rfl⟩
  go_wp2
  go_ret
  exact ⟨rfl, F2.out.below (Nat.le_refl _) (fun _ _ h => h)⟩

set_option maxRecDepth 20000 in
set_option maxHeartbeats 4000000 in
theorem any_ok (w : World) (v0 v1 : Value) (S0 : DS) (ho : S0.off = false) (hp : S0.pl = false) (hpe : S0.pend = []) (hb : Calls Try.prog 30 #[v0, v1] w fun e w' => ∃ p : DP, e = .returned (.tuple #[.pointer (some ⟨p.d, 0, none⟩), .int .i64 0]) ∧ DiskRep w' p S0 ∧ Fr (fun _ => False) w w' ∧ ∀ k, p.foot k → w.heap.size ≤ k) :
    Calls Try.prog 11 #[v0, v1] w fun e w' => e = .returned (.bool true) ∧ Below w.heap.size w w' := by
  have HB := Lib.hid hb
  have SO := Lib.hid (And.intro ho (And.intro hp hpe))
  clear hb ho hp hpe
  go_enter Try.func11, Try.ntmps11
  go_wp2_with fail
  refine HB.out.mono ?_
  rintro e w2 ⟨p, rfl, r2, f2, hf2⟩
  have S2 := Lib.hid (show St w w2 p S0 from ⟨f2, r2, hf2⟩)
  have n0 := r2.ok.n0
  clear r2 f2 hf2 HB
  go_wp2_with fail
  refine (live_any w2).mono ?_
  rintro e w3 ⟨rfl, rfl⟩
  by_cases hn : S0.data.length < 6
  · go_wp2_with fail
    refine (open_small w2 p S0 S2.out.rep hn).mono ?_
    rintro e w3 ⟨rfl, rfl⟩
    go_wp2_with fail
    refine (blocks_rep w2 p S0 S2.out.rep).mono ?_
    rintro e w3 ⟨rfl, rfl⟩
    have hni : (S0.data.length : Int) < 6 := by omega
    go_wp2
    go_ret
    exact ⟨rfl, S2.out.fr.below (Nat.le_refl _) (fun _ _ h => h)⟩
  · have hni : ¬ (S0.data.length : Int) < 6 := by omega
    go_wp2_with fail
    refine (open_any w w2 p S0 S2.out (by omega) SO.out.1 (by rw [SO.out.2.2]; simp)).mono ?_
    rintro e w3 hpost
    obtain ⟨o, hox⟩ : ∃ o, headPick S0.reads 2 = o := ⟨_, rfl⟩
    rw [hox] at hpost
    cases o with
    | none =>
      obtain ⟨rfl, s3, f3⟩ := hpost
      have S3 := Lib.hid s3
      clear s3 f3
      go_wp2_with fail
      refine (blocks_rep w3 p S0 S3.out.rep).mono ?_
      rintro e w4 ⟨rfl, rfl⟩
      go_wp2
      go_ret
      exact ⟨rfl, S3.out.fr.below (Nat.le_refl _) (fun _ _ h => h)⟩
    | some x =>
      obtain ⟨s, h⟩ := x
      have hs := (headPick_ok hox).1
      obtain ⟨p', hp', s3, m3, hres⟩ := hpost
      have hz : (S0.oDone s h).1 = 0 := done_zero S2.out.rep.ok SO.out.1 SO.out.2.1 _ (by omega) _ (headB_len _)
      rw [if_pos hz] at hres
      obtain ⟨bl, vr, us, bm, rfl, rs, -⟩ := hres
      have S3 := Lib.hid s3
      have LN := Lib.hid (show (S0.oDone s h).2.data.length = S0.data.length from writeSeq_len _ _ _)
      have hni3 : ¬ ((S0.oDone s h).2.data.length : Int) < 6 := by rw [LN.out]; omega
      clear s3 m3 rs
      go_wp2_with fail
      rw [← hp']
      refine (blocks_rep w3 p' _ S3.out.rep).mono ?_
      rintro e w4 ⟨rfl, rfl⟩
      go_wp2
      go_ret
      exact ⟨rfl, S3.out.fr.below (Nat.le_refl _) (fun _ _ h => h)⟩

theorem any_any (w : World) (a : Option Addr) (cap : Nat) (image : List UInt8) (tv : Value) (torn : List Int) (hi : BytesAt w (.slice a image.length cap) image) (hcap : image.length ≤ cap) (hL : image.length ≤ 140737488355328) (ht : IntsAt w tv torn) :
    Calls Try.prog 11 #[.slice a image.length cap, tv] w fun e w' => e = .returned (.bool true) ∧ Below w.heap.size w w' := by
  by_cases hA : image.length % 64 ≠ 0 ∨ image.length / 64 < 1 ∨ 16384 < image.length / 64
  · exact any_bad w _ _ ((load_bad1 w a image.length cap tv (by omega) hA).mono fun _ _ h => ⟨h.1, by rw [h.2]; exact Fr.refl _ _⟩)
  · have hn : image.length = (image.length / 64) * 64 := by omega
    have hne : image ≠ [] := by intro e; rw [e] at hA; simp at hA
    obtain ⟨a', cap', he, hnil | ⟨g, off, hax, hx, hc⟩⟩ := hi
    · exact absurd hnil hne
    simp only [Value.slice.injEq] at he
    obtain ⟨rfl, -, rfl⟩ := he
    subst hax
    by_cases hT : ∀ t ∈ torn, 0 ≤ t ∧ t < (image.length / 64 : Nat)
    · have h1 := tearAll_fields torn (DS.laidUpto image (image.length / 64) (image.length / 64))
      have h2 := laidUpto_fields image (image.length / 64) (image.length / 64)
      refine any_ok w _ _ (DS.load image torn) ?_ ?_ ?_ (load_ok w g off cap image tv torn (image.length / 64) hn hcap (by omega) (by omega) hx hc ht hT)
      · unfold DS.load; rw [h1.2.2.2.1]; exact h2.2.2.2.1
      · unfold DS.load; rw [h1.2.2.2.2.1]; exact h2.2.2.2.2.1
      · unfold DS.load; rw [h1.2.2.1]; exact h2.2.2.1
    · exact any_bad w _ _ (load_bad3 w g off cap image tv torn (image.length / 64) hn hcap (by omega) (by omega) hx hc ht hT)

theorem any_args (w : World) (a0 : Option Addr) (len0 cap0 : Nat) (z0 : List Int) (a1 : Option Addr) (len1 cap1 : Nat) (z1 : List Int) (w0 : Came .u8 w a0 len0 cap0 z0) (s0 : cap0 * 1 ≤ 140737488351232) (w1 : Came .i64 w a1 len1 cap1 z1) :
    Calls Try.prog 11 #[.slice a0 len0 cap0, .slice a1 len1 cap1] w fun e w' => e = .returned (.bool true) ∧ Below w.heap.size w w' := by
  have h0 := w0.le
  obtain ⟨A, rfl, hA⟩ := bytes_of_row w0
  obtain ⟨K, rfl, hK⟩ := ints_of_row w1
  exact any_any w a0 cap0 A _ K hA h0 (by omega) hK

end Go.Proofs.Ytflnlpbcmcfblaa
