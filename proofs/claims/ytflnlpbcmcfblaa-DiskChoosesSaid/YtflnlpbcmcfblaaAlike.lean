/-
  The laws' small helpers: alike things.
-/
import Derived.BigQuiet
import Derived.Test.YtflnlpbcmcfblaaLastsP
namespace Go.Proofs.Ytflnlpbcmcfblaa
open Go.RowKit

set_option maxRecDepth 20000 in
set_option maxHeartbeats 1000000 in
theorem has_any (w : World) (v : Value) (l : List Int) (n : Int) (h : IntsAt w v l) :
    Calls Try.prog 39 #[v, .int .i64 n] w fun e w' => e = .returned (.bool (decide (n ∈ l))) ∧ w = w' := by
  have H := Lib.hid h
  obtain ⟨a, cap, rfl, hm, -⟩ := h
  obtain ⟨q, hq⟩ : ∃ q, l.length = q := ⟨_, rfl⟩
  have HQ := Lib.hid hq
  rw [hq] at H hm ⊢
  clear hq
  go_enter Try.func39, Try.ntmps39
  go_wp2
  go_loop [9] (fun i => ∃ k : Nat, k ≤ q ∧ i = .int .i64 k ∧ Hid (∀ j (h : j < l.length), j < k → l[j] ≠ n)) (fun i => q - (intOf i).toNat)
  case atStart => exact ⟨0, Nat.zero_le _, rfl, fun j h hj => by omega⟩
  case round =>
    obtain ⟨k, hk, rfl, hall⟩ := hrel
    by_cases hlt : k < q
    · have hki : (k : Int) < (q : Int) := by omega
      obtain ⟨a', c', he, -, hnil | ⟨g, o, hax, hcell⟩⟩ := H.out
      · exfalso; have := HQ.out; rw [hnil] at this; simp at this; omega
      have hkl : k < l.length := by rw [HQ.out]; exact hlt
      have hc0 := hcell k hkl
      simp only [Value.slice.injEq] at he
      obtain ⟨rfl, -, -⟩ := he
      subst hax
      obtain ⟨x, hx⟩ : ∃ x, l[k] = x := ⟨_, rfl⟩
      rw [hx] at hc0
      have HX := Lib.hid hx
      clear hx hcell
      by_cases hxn : x = n
      · subst hxn
        go_wp2
        go_ret
        have : x ∈ l := by rw [← HX.out]; exact List.getElem_mem _
        exact ⟨by simp [this], rfl⟩
      · go_wp2
        go_round
        case rel =>
          refine ⟨k + 1, by omega, by go_num, fun j h hj => ?_⟩
          by_cases e : j = k
          · subst e; rw [HX.out]; exact hxn
          · exact hall.out j h (by omega)
        case measure => simp [intOf]; omega
    · obtain rfl : k = q := by omega
      go_wp2
      go_ret
      have : n ∉ l := fun hn => by
        obtain ⟨j, hj, e⟩ := List.getElem_of_mem hn
        exact hall.out j hj (by rw [← HQ.out]; exact hj) e
      exact ⟨by simp [this], rfl⟩

set_option maxRecDepth 20000 in
set_option maxHeartbeats 1000000 in
theorem alikeInts_any (w : World) (v1 v2 : Value) (l1 l2 : List Int) (h1 : IntsAt w v1 l1) (h2 : IntsAt w v2 l2) :
    Calls Try.prog 72 #[v1, v2] w fun e w' => e = .returned (.bool (decide (l1 = l2))) ∧ Fr (fun _ => False) w w' := by
  have H1 := Lib.hid h1
  have H2 := Lib.hid h2
  obtain ⟨a1, cap1, rfl, hm1, -⟩ := h1
  obtain ⟨a2, cap2, rfl, hm2, -⟩ := h2
  obtain ⟨q1, hq1⟩ : ∃ q, l1.length = q := ⟨_, rfl⟩
  obtain ⟨q2, hq2⟩ : ∃ q, l2.length = q := ⟨_, rfl⟩
  have HQ1 := Lib.hid hq1
  have HQ2 := Lib.hid hq2
  rw [hq1] at H1 hm1 ⊢
  rw [hq2] at H2 hm2 ⊢
  clear hq1 hq2
  by_cases hqq : q1 = q2
  · subst hqq
    go_enter Try.func72, Try.ntmps72
    go_wp2
    go_loopw [13] (fun i wr => ∃ k : Nat, k ≤ q1 ∧ i = .int .i64 k ∧ Fr (fun _ => False) w wr ∧ Hid (∀ j (h : j < l1.length) (h' : j < l2.length), j < k → l1[j] = l2[j])) (fun i _ => q1 - (intOf i).toNat)
    case atStart => exact ⟨0, Nat.zero_le _, rfl, Fr.refl _ _, fun j h h' hj => by omega⟩
    case round =>
      obtain ⟨k, hk, rfl, hf, hall⟩ := hrel
      have HF := Lib.hid hf
      clear hf
      by_cases hlt : k < q1
      · have hki : (k : Int) < (q1 : Int) := by omega
        obtain ⟨a', c', he, -, hnil | ⟨g, o, hax, hcell⟩⟩ := H1.out.later HF.out
        · exfalso; have := HQ1.out; rw [hnil] at this; simp at this; omega
        obtain ⟨a'', c'', he2, -, hnil | ⟨g2, o2, hax2, hcell2⟩⟩ := H2.out.later HF.out
        · exfalso; have := HQ2.out; rw [hnil] at this; simp at this; omega
        have hkl : k < l1.length := by rw [HQ1.out]; exact hlt
        have hkl2 : k < l2.length := by rw [HQ2.out]; exact hlt
        have hc0 := hcell k hkl
        have hc2 := hcell2 k hkl2
        simp only [Value.slice.injEq] at he he2
        obtain ⟨rfl, -, -⟩ := he
        obtain ⟨rfl, -, -⟩ := he2
        subst hax hax2
        obtain ⟨x, hx⟩ : ∃ x, l1[k] = x := ⟨_, rfl⟩
        obtain ⟨y, hy⟩ : ∃ x, l2[k] = x := ⟨_, rfl⟩
        rw [hx] at hc0
        rw [hy] at hc2
        have HX := Lib.hid hx
        have HY := Lib.hid hy
        clear hx hy hcell hcell2
        by_cases hxy : x = y
        · subst hxy
          go_wp2
          go_region
          go_wp2
          go_roundw
          case rel =>
            refine ⟨k + 1, by omega, by go_num, HF.out.drew, fun j h h' hj => ?_⟩
            by_cases e : j = k
            · subst e; rw [HX.out, HY.out]
            · exact hall.out j h h' (by omega)
          case measure => simp [intOf]; omega
        · go_wp2
          go_region
          go_wp2
          go_ret
          have : l1 ≠ l2 := fun e => hxy (by rw [← HX.out, ← HY.out]; subst e; rfl)
          exact ⟨by simp [this], HF.out.drew⟩
      · obtain rfl : k = q1 := by omega
        go_wp2
        go_ret
        have : l1 = l2 := List.ext_getElem (by rw [HQ1.out, HQ2.out]) (fun j h h' => hall.out j h h' (by rw [← HQ1.out]; exact h))
        exact ⟨by simp [this], HF.out⟩
  · have hne : l1 ≠ l2 := fun e => hqq (by rw [← HQ1.out, ← HQ2.out, e])
    go_enter Try.func72, Try.ntmps72
    go_wp2
    go_ret
    exact ⟨by simp [hne], Fr.refl _ _⟩

/-- Told writes in memory. -/
def PendAt (w : World) (v : Value) (l : List (Int × List UInt8)) : Prop :=
  ∃ a cap, v = .slice a l.length cap ∧ l.length ≤ 9223372036854775807 ∧ (l = [] ∨ ∃ g off, a = some ⟨g, off, none⟩ ∧ ∀ i (h : i < l.length), ∃ u, (rowOf w g)[off + i * 2]? = some (.int .i64 l[i].1) ∧ (rowOf w g)[off + i * 2 + 1]? = some u ∧ BytesAt w u l[i].2)

theorem PendRows.at_ {w : World} {v : Value} {l : List (Int × List UInt8)} {base : Nat} (h : PendRows w v l base) : PendAt w v l := by
  obtain ⟨xs, h1, h2, h3, h4⟩ := h
  rcases h1 with ⟨rfl, rfl⟩ | ⟨g, cap, rfl, b1, b2, ⟨b3, b3p⟩, b4, b5, b6⟩
  · have : l = [] := List.eq_nil_of_length_eq_zero (by rw [← h2]; rfl)
    subst this
    exact ⟨none, 0, rfl, by simp, .inl rfl⟩
  · refine ⟨_, cap, by rw [h2], by simp only [maxLen] at b4; omega, .inr ⟨g, 0, rfl, fun i hi => ?_⟩⟩
    have hi2 : i < xs.length := by omega
    obtain ⟨vd, e1, e2, e3⟩ := h3 i hi2 hi
    have hc := b6 i hi2
    have hb : i * 2 + 2 ≤ (rowOf w g).size := by omega
    have g0 := cut_get (cur := rowOf w g) (off := i * 2) (n := 2) hb 0 (by omega)
    have g1 := cut_get (cur := rowOf w g) (off := i * 2) (n := 2) hb 1 (by omega)
    rw [hc, e1] at g0 g1
    exact ⟨vd, by simpa using g0.symm, by simpa using g1.symm, e2.at_⟩

theorem PendAt.later {w w' : World} {v : Value} {l : List (Int × List UInt8)} (h : PendAt w v l) (f : Fr (fun _ => False) w w') : PendAt w' v l := by
  obtain ⟨a, cap, rfl, hm, h | ⟨g, off, rfl, h1⟩⟩ := h
  · exact ⟨a, cap, rfl, hm, .inl h⟩
  · refine ⟨_, cap, rfl, hm, .inr ⟨g, off, rfl, fun i hi => ?_⟩⟩
    obtain ⟨u, e1, e2, e3⟩ := h1 i hi
    have := (Array.getElem?_eq_some_iff.1 e1).1
    have hg := f.row (rowOf_lt (w := w) (g := g) (by omega)) (fun h => h)
    exact ⟨u, by rw [hg]; exact e1, by rw [hg]; exact e2, e3.later f⟩

set_option maxRecDepth 20000 in
set_option maxHeartbeats 2000000 in
theorem alikePending_any (w : World) (v1 v2 : Value) (l1 l2 : List (Int × List UInt8)) (h1 : PendAt w v1 l1) (h2 : PendAt w v2 l2) :
    Calls Try.prog 38 #[v1, v2] w fun e w' => e = .returned (.bool (decide (l1 = l2))) ∧ Fr (fun _ => False) w w' := by
  have H1 := Lib.hid h1
  have H2 := Lib.hid h2
  obtain ⟨a1, cap1, rfl, hm1, -⟩ := h1
  obtain ⟨a2, cap2, rfl, hm2, -⟩ := h2
  obtain ⟨q1, hq1⟩ : ∃ q, l1.length = q := ⟨_, rfl⟩
  obtain ⟨q2, hq2⟩ : ∃ q, l2.length = q := ⟨_, rfl⟩
  have HQ1 := Lib.hid hq1
  have HQ2 := Lib.hid hq2
  rw [hq1] at H1 hm1 ⊢
  rw [hq2] at H2 hm2 ⊢
  clear hq1 hq2
  by_cases hqq : q1 = q2
  · subst hqq
    go_enter Try.func38, Try.ntmps38
    go_wp2
    go_loopw [13] (fun i wr => ∃ k : Nat, k ≤ q1 ∧ i = .int .i64 k ∧ Fr (fun _ => False) w wr ∧ Hid (∀ j (h : j < l1.length) (h' : j < l2.length), j < k → l1[j] = l2[j])) (fun i _ => q1 - (intOf i).toNat)
    case atStart => exact ⟨0, Nat.zero_le _, rfl, Fr.refl _ _, fun j h h' hj => by omega⟩
    case round =>
      obtain ⟨k, hk, rfl, hf, hall⟩ := hrel
      have HF := Lib.hid hf
      clear hf
      by_cases hlt : k < q1
      · have hki : (k : Int) < (q1 : Int) := by omega
        obtain ⟨a', c', he, -, hnil | ⟨g, o, hax, hcell⟩⟩ := H1.out.later HF.out
        · exfalso; have := HQ1.out; rw [hnil] at this; simp at this; omega
        obtain ⟨a'', c'', he2, -, hnil | ⟨g2, o2, hax2, hcell2⟩⟩ := H2.out.later HF.out
        · exfalso; have := HQ2.out; rw [hnil] at this; simp at this; omega
        have hkl : k < l1.length := by rw [HQ1.out]; exact hlt
        have hkl2 : k < l2.length := by rw [HQ2.out]; exact hlt
        obtain ⟨u1, r10, r11, y1⟩ := hcell k hkl
        obtain ⟨u2, r20, r21, y2⟩ := hcell2 k hkl2
        simp only [Value.slice.injEq] at he he2
        obtain ⟨rfl, -, -⟩ := he
        obtain ⟨rfl, -, -⟩ := he2
        subst hax hax2
        obtain ⟨⟨x, bx⟩, hx⟩ : ∃ x, l1[k] = x := ⟨_, rfl⟩
        obtain ⟨⟨y, bY⟩, hy⟩ : ∃ x, l2[k] = x := ⟨_, rfl⟩
        rw [hx] at r10 y1
        rw [hy] at r20 y2
        have HX := Lib.hid hx
        have HY := Lib.hid hy
        have Y1 := Lib.hid y1
        have Y2 := Lib.hid y2
        simp only at r10 r20
        clear hx hy hcell hcell2 y1 y2
        by_cases hxy : x = y
        · subst hxy
          have hxx : (x == x) = true := by simp
          by_cases hbb : bx = bY
          · have HD := Lib.hid (show decide (bx = bY) = true by simpa using hbb)
            have HBB := Lib.hid hbb
            clear hbb
            go_wp2
            go_quiet ((go_at_call 26; refine Calls.quiet_of_same ((alike_any _ u1 u2 bx bY (Y1.out.later ((Fr.refl _ wr).drewN _)) (Y2.out.later ((Fr.refl _ wr).drewN _))).mono (fun e w' hh => ⟨hh.1.trans (by rw [HD.out]), hh.2.symm⟩))))
            go_wp2
            go_roundw
            case rel =>
              refine ⟨k + 1, by omega, by go_num, HF.out.drewN _, fun j h h' hj => ?_⟩
              by_cases e : j = k
              · subst e; rw [HX.out, HY.out, HBB.out]
              · exact hall.out j h h' (by omega)
            case measure => simp [intOf]; omega
          · have HD := Lib.hid (show decide (bx = bY) = false by simpa using hbb)
            have HBB := Lib.hid hbb
            clear hbb
            go_wp2
            go_quiet ((go_at_call 26; refine Calls.quiet_of_same ((alike_any _ u1 u2 bx bY (Y1.out.later ((Fr.refl _ wr).drewN _)) (Y2.out.later ((Fr.refl _ wr).drewN _))).mono (fun e w' hh => ⟨hh.1.trans (by rw [HD.out]), hh.2.symm⟩))))
            go_wp2
            go_ret
            have : l1 ≠ l2 := fun e => HBB.out (by have h1 := HX.out; subst e; rw [HY.out] at h1; cases h1; rfl)
            exact ⟨by simp [this], HF.out.drewN _⟩
        · have hxx : (x == y) = false := by simpa using hxy
          go_wp2
          go_quiet (fail)
          go_wp2
          go_ret
          have : l1 ≠ l2 := fun e => hxy (by have h1 := HX.out; subst e; rw [HY.out] at h1; cases h1; rfl)
          exact ⟨by simp [this], HF.out.drewN _⟩
      · obtain rfl : k = q1 := by omega
        go_wp2
        go_ret
        have : l1 = l2 := List.ext_getElem (by rw [HQ1.out, HQ2.out]) (fun j h h' => hall.out j h h' (by rw [← HQ1.out]; exact h))
        exact ⟨by simp [this], HF.out⟩
  · have hne : l1 ≠ l2 := fun e => hqq (by rw [← HQ1.out, ← HQ2.out, e])
    go_enter Try.func38, Try.ntmps38
    go_wp2
    go_ret
    exact ⟨by simp [hne], Fr.refl _ _⟩

end Go.Proofs.Ytflnlpbcmcfblaa
