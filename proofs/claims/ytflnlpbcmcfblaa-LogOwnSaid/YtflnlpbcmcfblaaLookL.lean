/-
  Package log: look reads all the blocks of a disk.
-/
import Derived.Test.YtflnlpbcmcfblaaPut
namespace Go.Proofs.Ytflnlpbcmcfblaa
open Go.RowKit

/-- What is read of each block. -/
def DS.reads (S : DS) : List (List UInt8) := (List.range S.data.length).map (fun (i : Nat) => (S.read (i : Int)).2.getD [])
theorem reads_len (S : DS) : S.reads.length = S.data.length := by simp [DS.reads]
theorem reads_get (S : DS) (i : Nat) (h : i < S.reads.length) : S.reads[i] = (S.read (i : Int)).2.getD [] := by simp [DS.reads]

theorem ReadOut.ownB {w : World} {v : Value} {o : Option (List UInt8)} {base : Nat} (h : ReadOut w v o base) : OwnB w v (o.getD []) base := by
  cases o with
  | none => obtain rfl : v = _ := h; exact .inl ⟨rfl, rfl⟩
  | some b => exact .inr (show OwnBytes w v b base from h)

theorem read_err_is {S : DS} {k : Nat} (ho : S.off = false) (hk : k < S.data.length) : (S.read (k : Int)).1 = 0 ∨ (S.read (k : Int)).1 = 23 := by
  have hr : S.ready k = 0 := readyI_zero.2 ⟨ho, by omega, by omega⟩
  unfold DS.read
  rw [if_neg (by rw [hr]; simp)]
  split
  · exact .inl rfl
  · split
    · exact .inr rfl
    · exact .inl rfl

set_option maxRecDepth 20000 in
set_option maxHeartbeats 2000000 in
theorem look_small (w : World) (p : DP) (S : DS) (h : DiskRep w p S) (hn : S.data.length < 6) :
    Calls Try.prog 78 #[.pointer (some ⟨p.d, 0, none⟩)] w fun e w' => e = .returned (.tuple #[.slice none 0 0, .int .i64 1]) ∧ w = w' := by
  have H := Lib.hid h
  have n0 := h.ok.n0
  obtain ⟨n, hnn⟩ : ∃ n, S.data.length = n := ⟨_, rfl⟩
  have HN := Lib.hid hnn
  rw [hnn] at hn n0
  have h1 : ((n : Int) == 0) = false := by simp; omega
  have h2 : (n : Int) < 6 := by omega
  clear h hnn
  go_enter Try.func78, Try.ntmps78
  go_wp2_with fail
  refine (blocks_rep w p S H.out).mono ?_
  rintro e w' ⟨rfl, rfl⟩
  rw [HN.out]
  go_wp2
  go_ret2
  exact ⟨rfl, rfl⟩

set_option maxRecDepth 20000 in
set_option maxHeartbeats 2000000 in
theorem look_ok (w : World) (p : DP) (S : DS) (h : DiskRep w p S) (hn : 6 ≤ S.data.length) (ho : S.off = false) :
    Calls Try.prog 78 #[.pointer (some ⟨p.d, 0, none⟩)] w fun e w' => ∃ v, e = .returned (.tuple #[v, .int .i64 0]) ∧ AllAt w' v S.reads w.heap.size ∧ Fr (fun _ => False) w w' := by
  have H := Lib.hid h
  have HO := Lib.hid ho
  have n1 := h.ok.n1
  obtain ⟨n, hnn⟩ : ∃ n, S.data.length = n := ⟨_, rfl⟩
  have HN := Lib.hid hnn
  rw [hnn] at hn n1
  have h1 : ((n : Int) == 0) = false := by simp; omega
  have h2 : ¬ (n : Int) < 6 := by omega
  have h3 : (0 : Int) ≤ n := by omega
  have h4 : (n : Int) ≤ 16384 := by omega
  clear h hnn ho
  go_enter Try.func78, Try.ntmps78
  go_wp2_with fail
  refine (blocks_rep w p S H.out).mono ?_
  rintro e w' ⟨rfl, rfl⟩
  rw [HN.out]
  go_wp2
  obtain ⟨g, hg⟩ : ∃ g, w.heap.size = g := ⟨_, rfl⟩
  have HG := Lib.hid hg
  have F0 := Lib.hid (show Fr (fun _ => False) w (w.alloc (.cells (Array.replicate n (.slice none 0 0)) 36)) from (Fr.refl _ w).alloc _)
  have R0 := Lib.hid (show rowOf (w.alloc (.cells (Array.replicate n (.slice none 0 0)) 36)) g = Array.replicate n (.slice none 0 0) ∧ live (w.alloc (.cells (Array.replicate n (.slice none 0 0)) 36)) g = true by rw [← hg]; exact ⟨rowOf_alloc_at _ _ _ _ _ rfl, live_alloc_at _ _ _ _ rfl⟩)
  rw [hg]
  clear hg
  go_loopw [6, 7, 8, 21] (fun _ _ _ i wr => ∃ k : Nat, k ≤ n ∧ i = .int .i64 k ∧ live wr g = true ∧ (rowOf wr g).size = n ∧ (∀ j (_ : j < k), ∃ u, (rowOf wr g)[j]? = some u ∧ OwnB wr u ((S.read (j : Int)).2.getD []) (g + 1)) ∧ Fr (fun _ => False) w wr) (fun _ _ _ i _ => n - (intOf i).toNat)
  case atStart => exact ⟨0, Nat.zero_le _, rfl, R0.out.2, by rw [R0.out.1]; simp, fun j hj => by omega, F0.out⟩
  case round =>
    obtain ⟨k, hk, rfl, lg, hsz, hall, hf⟩ := hrel
    have HF := Lib.hid hf
    have HA := Lib.hid hall
    clear hall hf
    by_cases hlt : k < n
    · have hki : (k : Int) < (n : Int) := by omega
      have RE := Lib.hid (read_err_is (k := k) HO.out (by rw [HN.out]; exact hlt))
      have hgl := live_lt lg
      go_wp2_with fail
      refine (read_any wr p S (H.out.keep HF.out (fun _ _ h => h)) k).mono ?_
      rintro e w4 ⟨v4, rfl, o4, f4⟩
      have O4 := Lib.hid o4.ownB
      have F4 := Lib.hid f4
      have lg4 := (f4.liv hgl (fun h => h)).trans lg
      have R4 := Lib.hid (f4.row hgl (fun h => h))
      have hsz4 : (rowOf w4 g).size = n := by rw [R4.out]; exact hsz
      obtain ⟨a4, c4, e4⟩ := o4.ownB.shape
      obtain ⟨q4, hq4⟩ : ∃ q, ((S.read (k : Int)).2.getD []).length = q := ⟨_, rfl⟩
      rw [hq4] at e4
      subst e4
      obtain ⟨q, hq⟩ : ∃ q, (S.read (k : Int)).1 = q := ⟨_, rfl⟩
      rw [hq] at RE ⊢
      clear o4 f4 hq4 hq lg hsz
      rcases RE.out with rfl | rfl
      all_goals
        go_wp2
        go_roundw
        case rel =>
          have FX := (Fr.refl (fun j => j = g) w4).setRow g ((rowOf w4 g).setIfInBounds k (.slice a4 q4 c4)) (fun _ => rfl)
          refine ⟨k + 1, by omega, by go_num, by rw [live_setRow]; exact lg4, by rw [rowOf_setRow_same _ _ _ lg4]; simpa using hsz4, fun j hj => ?_, (HF.out.trans F4.out (fun _ _ h => h)).trans FX (fun i hi e => by have := HG.out; omega)⟩
          rw [rowOf_setRow_same _ _ _ lg4]
          by_cases e : j = k
          · subst e
            exact ⟨_, by simp [hsz4, hlt], (O4.out.keep FX (fun i hi e => by have := (O4.out.lt hi).1; omega)).weaken (by omega)⟩
          · obtain ⟨u, a1, a2⟩ := HA.out j (by omega)
            refine ⟨u, ?_, (a2.keep F4.out (fun _ _ h => h)).keep FX (fun i hi e => by have := (a2.lt hi).1; omega)⟩
            rw [Array.getElem?_setIfInBounds_ne (fun h => e h.symm), R4.out]; exact a1
        case measure => simp [intOf]; omega
    · obtain rfl : k = n := by omega
      go_wp2
      go_ret2
      refine ⟨_, rfl, ⟨g, 0, k, by rw [reads_len, HN.out]; rfl, by rw [reads_len, HN.out]; exact Nat.le_refl _, by rw [HG.out]; exact Nat.le_refl _, by omega, fun i hi => ?_⟩, HF.out⟩
      rw [reads_len, HN.out] at hi
      obtain ⟨u, a1, a2⟩ := HA.out i hi
      refine ⟨u, by rw [Nat.zero_add]; exact a1, ?_⟩
      rw [reads_get]
      exact a2.weaken (by have := HG.out; omega)

end Go.Proofs.Ytflnlpbcmcfblaa
