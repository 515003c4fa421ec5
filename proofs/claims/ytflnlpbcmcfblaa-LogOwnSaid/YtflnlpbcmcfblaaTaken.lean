/-
  Package log: which lives and generations stand in blocks; the least that does not.
-/
import Derived.Maps.OwnOps
import Derived.Maps.Views
import Derived.Test.YtflnlpbcmcfblaaMark
namespace Go.Proofs.Ytflnlpbcmcfblaa
open Go.RowKit Go.Maps

theorem law87 : Keyed Try.prog 87 := int_keyed Try.underlying87
theorem zeroM3 (w : World) : (zeroValue 3).run Try.prog w = .ok (.int .i64 0) w := by kernel_rfl

/-- Block B is a map that counts. -/
def Cnt (w : World) (B n : Nat) (cnt : Nat → Nat) : Prop :=
  ∃ D : DataW Unit, w.ownsMap Try.prog 87 (plainElem Try.prog 3) B n D ∧ (∃ l, D = .map l) ∧ (∀ k : Nat, k < 18446744073709551616 → D.atKey (.int .u64 k) (.lit (.int .i64 0)) = .lit (.int .i64 (cnt k))) ∧ ∀ k, cnt k ≤ n

theorem Cnt.lt {w : World} {B n : Nat} {cnt : Nat → Nat} (h : Cnt w B n cnt) : B < w.heap.size := by
  obtain ⟨D, h1, -⟩ := h
  exact h1.lt
theorem Cnt.keep {w w' : World} {B n : Nat} {cnt : Nat → Nat} (h : Cnt w B n cnt) {F : Nat → Prop} (f : Fr F w w') (hF : ¬ F B) : Cnt w' B n cnt := by
  have hl := h.lt
  obtain ⟨D, ⟨es, clock, h1, h2⟩, h3⟩ := h
  exact ⟨D, ⟨es, clock, by rw [f.block B hl hF]; exact h1, h2⟩, h3⟩

theorem wf87 {k : Nat} (h : k < 18446744073709551616) : (Lit.int .u64 (k : Int)).wf = true := by
  simp [Lit.wf, IntKind.min, IntKind.max, IntKind.bits, IntKind.signed]; omega

theorem Cnt.mono {w : World} {B n n' : Nat} {cnt : Nat → Nat} (h : Cnt w B n cnt) (hn : n ≤ n') : Cnt w B n' cnt := by
  obtain ⟨D, h1, h2, h3, h4⟩ := h
  exact ⟨D, h1.mono hn, h2, h3, fun k => Nat.le_trans (h4 k) hn⟩

theorem wf_cnt {n : Nat} (h : n ≤ 16384) : (Lit.int .i64 ((n : Int) + 1)).wf = true := by
  simp [Lit.wf, IntKind.min, IntKind.max, IntKind.bits, IntKind.signed]; omega

theorem fr_grown {w w' : World} {b : Nat} (h : w.grownBy w' (some b)) : Fr (fun k => k = b) w w' := by
  obtain ⟨h1, h2, h3, h4, h5⟩ := h
  exact ⟨h1, h2, h3, h4, fun i hi hn => h5 i hi (fun e => hn (Option.some.inj e))⟩

/-- The count of a key read. -/
theorem Cnt.at_ {D : DataW Unit} {cnt : Nat → Nat} {k : Nat} {c : Int} (h : ∀ k : Nat, k < 18446744073709551616 → D.atKey (.int .u64 k) (.lit (.int .i64 0)) = .lit (.int .i64 (cnt k))) (hk : k < 18446744073709551616) (hat : D.atKey (.int .u64 (k : Int)) (.lit (.int .i64 0)) = .lit (.int .i64 c)) : c = cnt k := by
  rw [h k hk] at hat
  simp only [DataW.lit.injEq, Lit.int.injEq, true_and] at hat
  exact hat.symm

def bump (cnt : Nat → Nat) (k : Nat) : Nat → Nat := fun j => if j = k then cnt j + 1 else cnt j

theorem Cnt.bump {w : World} {B n k : Nat} {cnt : Nat → Nat} {D : DataW Unit} (hm : ∃ l, D = .map l) (hD : ∀ k : Nat, k < 18446744073709551616 → D.atKey (.int .u64 k) (.lit (.int .i64 0)) = .lit (.int .i64 (cnt k))) (hc : ∀ k, cnt k ≤ n) (hk : k < 18446744073709551616)
    (h : w.ownsMap Try.prog 87 (plainElem Try.prog 3) B (n + 1) (D.put (.int .u64 k) (.lit (.int .i64 ((cnt k + 1 : Nat) : Int))))) : Cnt w B (n + 1) (bump cnt k) := by
  refine ⟨_, h, ?_, fun j hj => ?_, fun j => ?_⟩
  · obtain ⟨es, clock, _, _, _, e⟩ := h
    exact ⟨_, e⟩
  · by_cases e : j = k
    · subst e
      rw [atKey_put_same hm (by simp [WideAt.IsKeyLit])]
      simp [Ytflnlpbcmcfblaa.bump]
    · rw [atKey_put_other (by simp; omega), hD j hj]
      simp [Ytflnlpbcmcfblaa.bump, e]
  · have := hc j
    unfold Ytflnlpbcmcfblaa.bump
    split <;> omega

def lifeCnt (all : List (List UInt8)) (k : Nat) : Nat := all.countP (fun b => rmIs b && decide ((rmV b).life = k))
def genCnt (all : List (List UInt8)) (k : Nat) : Nat := all.countP (fun b => rmIs b && decide ((rmV b).gen = k))

theorem lifeCnt_step (l : List (List UInt8)) (b : List UInt8) : lifeCnt (l ++ [b]) = if rmIs b then bump (lifeCnt l) (rmV b).life else lifeCnt l := by
  funext k
  unfold lifeCnt
  rw [List.countP_append]
  by_cases h : rmIs b = true
  · rw [if_pos h]; unfold bump
    by_cases e : k = (rmV b).life
    · simp [h, e]
    · have e2 : ¬ (rmV b).life = k := fun x => e x.symm
      simp [h, e, e2]
  · simp at h; simp [h]
theorem genCnt_step (l : List (List UInt8)) (b : List UInt8) : genCnt (l ++ [b]) = if rmIs b then bump (genCnt l) (rmV b).gen else genCnt l := by
  funext k
  unfold genCnt
  rw [List.countP_append]
  by_cases h : rmIs b = true
  · rw [if_pos h]; unfold bump
    by_cases e : k = (rmV b).gen
    · simp [h, e]
    · have e2 : ¬ (rmV b).gen = k := fun x => e x.symm
      simp [h, e, e2]
  · simp at h; simp [h]

/-- All the blocks, read. -/
def AllAt (w : World) (v : Value) (all : List (List UInt8)) (base : Nat) : Prop :=
  ∃ g off cap, v = .slice (some ⟨g, off, none⟩) all.length cap ∧ all.length ≤ cap ∧ base ≤ g ∧ off + cap ≤ (rowOf w g).size ∧ ∀ i (h : i < all.length), ∃ u, (rowOf w g)[off + i]? = some u ∧ OwnB w u all[i] base

theorem AllAt.keep {w w' : World} {v : Value} {all : List (List UInt8)} {base : Nat} (h : AllAt w v all base) {F : Nat → Prop} (f : Fr F w w') (hF : ∀ k, base ≤ k → k < w.heap.size → ¬ F k) (hne : all ≠ []) : AllAt w' v all base := by
  obtain ⟨g, off, cap, e, h1, h2, h3, h4⟩ := h
  have h0 : 0 < all.length := List.length_pos_iff.2 hne
  have hg : g < w.heap.size := rowOf_lt (by omega)
  have hr := f.row hg (hF g h2 hg)
  refine ⟨g, off, cap, e, h1, h2, by rw [hr]; exact h3, fun i hi => ?_⟩
  obtain ⟨u, a1, a2⟩ := h4 i hi
  exact ⟨u, by rw [hr]; exact a1, a2.keep f (fun k hk => hF k (a2.lt hk).1 (a2.lt hk).2)⟩

theorem rm_lt (b : List UInt8) : (rmV b).life < 18446744073709551616 ∧ (rmV b).gen < 18446744073709551616 := by
  unfold rmV
  have h1 := le_cut_lt b 1 6
  have h2 := le_cut_lt b 7 6
  split
  · simp only; omega
  · simp

set_option maxRecDepth 20000 in
set_option maxHeartbeats 2000000 in
theorem taken_any (w : World) (v : Value) (all : List (List UInt8)) (base : Nat) (hv : AllAt w v all base) (hne : all ≠ []) (hl : all.length ≤ 16384) :
    Calls Try.prog 80 #[v] w fun e w' => ∃ b1 b2, e = .returned (.tuple #[.map (some b1), .map (some b2)]) ∧ Cnt w' b1 all.length (lifeCnt all) ∧ Cnt w' b2 all.length (genCnt all) ∧ w.heap.size ≤ b1 ∧ w.heap.size ≤ b2 ∧ b1 ≠ b2 ∧ Fr (fun _ => False) w w' := by
  have hmm := @run_makeMap Try.prog
  have HV := Lib.hid hv
  obtain ⟨g, off, cap, rfl, hcap, hbase, hsz, hcells⟩ := hv
  obtain ⟨q, hq⟩ : ∃ q, all.length = q := ⟨_, rfl⟩
  have HQ := Lib.hid hq
  rw [hq] at HV hcap hl ⊢
  clear hcells hq
  go_enter Try.func80, Try.ntmps80
  go_wp2
  obtain ⟨b1, hb1⟩ : ∃ b, w.heap.size = b := ⟨_, rfl⟩
  obtain ⟨b2, hb2⟩ : ∃ b, w.heap.size + 1 = b := ⟨_, rfl⟩
  have HB := Lib.hid (And.intro hb1 hb2)
  have F0 := Lib.hid (show Fr (fun _ => False) w ((w.alloc (.map #[] 0)).alloc (.map #[] 0)) from ((Fr.refl _ w).alloc _).alloc _)
  have C1 := Lib.hid (show Cnt ((w.alloc (.map #[] 0)).alloc (.map #[] 0)) b1 0 (lifeCnt []) from ⟨.map [], by rw [← hb1]; exact (World.ownsMap_made _ _ _ _).alloc _, ⟨_, rfl⟩, fun k _ => by simp [DataW.atKey, lifeCnt], fun k => by simp [lifeCnt]⟩)
  have C2 := Lib.hid (show Cnt ((w.alloc (.map #[] 0)).alloc (.map #[] 0)) b2 0 (genCnt []) from ⟨.map [], by rw [← hb2]; have := World.ownsMap_made (H := Unit) (w.alloc (.map #[] 0)) Try.prog 87 (plainElem Try.prog 3); simpa using this, ⟨_, rfl⟩, fun k _ => by simp [DataW.atKey, genCnt], fun k => by simp [genCnt]⟩)
  rw [hb2, hb1]
  clear hb1 hb2
  go_loopw [5, 6, 7, 12] (fun _ _ _ i wr => ∃ k : Nat, k ≤ q ∧ i = .int .i64 k ∧ Cnt wr b1 k (lifeCnt (all.take k)) ∧ Cnt wr b2 k (genCnt (all.take k)) ∧ Fr (fun _ => False) w wr) (fun _ _ _ i _ => q - (intOf i).toNat)
  case atStart => exact ⟨0, Nat.zero_le _, rfl, C1.out, C2.out, F0.out⟩
  case round =>
    obtain ⟨k, hk, rfl, h1, h2, hf⟩ := hrel
    have H1 := Lib.hid h1
    have H2 := Lib.hid h2
    have HF := Lib.hid hf
    clear h1 h2 hf
    by_cases hlt : k < q
    · have hki : (k : Int) < (q : Int) := by omega
      have hkl : k < all.length := by rw [HQ.out]; exact hlt
      have VW := HQ.out.symm ▸ HV.out
      obtain ⟨g', off', cap', e, -, -, hsz', hcells⟩ := AllAt.keep VW HF.out (fun _ _ _ h => h) hne
      simp only [Value.slice.injEq, Option.some.injEq, Addr.mk.injEq, and_true] at e
      obtain ⟨⟨rfl, rfl⟩, -, rfl⟩ := e
      obtain ⟨u, c0, ou⟩ := hcells k hkl
      have OU := Lib.hid ou
      have ST1 := Lib.hid (show lifeCnt (all.take (k + 1)) = if rmIs all[k] then bump (lifeCnt (all.take k)) (rmV all[k]).life else lifeCnt (all.take k) by rw [List.take_succ_eq_append_getElem hkl]; exact lifeCnt_step _ _)
      have ST2 := Lib.hid (show genCnt (all.take (k + 1)) = if rmIs all[k] then bump (genCnt (all.take k)) (rmV all[k]).gen else genCnt (all.take k) by rw [List.take_succ_eq_append_getElem hkl]; exact genCnt_step _ _)
      obtain ⟨b, hb⟩ : ∃ b, all[k] = b := ⟨_, rfl⟩
      rw [hb] at OU ST1 ST2
      clear hcells ou VW hb hsz' hkl
      go_wp2_with fail
      refine (readMark_any wr u b base OU.out).mono ?_
      rintro e w4 ⟨rfl, f4⟩
      obtain ⟨r1, r2⟩ := rm_lt b
      obtain ⟨m, hm⟩ : ∃ m, rmV b = m := ⟨_, rfl⟩
      rw [hm] at ST1 ST2 r1 r2 ⊢
      clear hm
      obtain ⟨mg, ml, mr, mp, mo⟩ := m
      unfold markA
      simp only at ST1 ST2 r1 r2 ⊢
      have F4 := Lib.hid (show ∀ X, Fr (fun _ => False) wr (w4.alloc X) from fun X => f4.alloc X)
      have hb14 := Lib.hid (show b1 < w4.heap.size by have := H1.out.lt; have := f4.size; omega)
      clear f4
      cases his : rmIs b with
      | true =>
        rw [his] at ST1 ST2
        simp only [if_true] at ST1 ST2
        obtain ⟨D1, o1, m1, a1, n1⟩ := H1.out.keep (F4.out (.cells #[.int .u64 mg, .int .u64 ml, .int .i64 mr, .int .i64 mp, .int .i64 mo] 142)) (fun h => h)
        have A1 := Lib.hid (And.intro m1 (And.intro a1 n1))
        have HB2 := Lib.hid (H2.out.keep (F4.out (.cells #[.int .u64 mg, .int .u64 ml, .int .i64 mr, .int .i64 mp, .int .i64 mo] 142)) (fun h => h))
        have hcl := n1 ml
        have hkm : k ≤ 16384 := by omega
        have hkM : k < maxLen := Nat.lt_of_le_of_lt hkm (by unfold maxLen; decide)
        clear m1 a1 n1
        have hcg : genCnt (all.take k) mg ≤ k := by obtain ⟨_, _, _, _, n⟩ := H2.out; exact n mg
        have hwf1 := wf_cnt (Nat.le_trans hcl hkm)
        have hwf2 := wf_cnt (Nat.le_trans hcg hkm)
        have k1 : keyOf Try.prog 87 (.int .u64 (ml : Int)) = some (.int .u64 (ml : Int)) := keyOf_int_mk Try.underlying87 (wf87 r1)
        have k2 : keyOf Try.prog 87 (.int .u64 (mg : Int)) = some (.int .u64 (mg : Int)) := keyOf_int_mk Try.underlying87 (wf87 r2)
        have RR := Lib.hid (And.intro r1 r2)
        have KK := Lib.hid (And.intro k1 k2)
        have WW := Lib.hid (And.intro hwf1 hwf2)
        clear r1 r2 k1 k2 hwf1 hwf2
        go_wp2_with (first
          | (at_lookup; refine wpList_lookup_own_int _ rfl (.tmp 22) (.tmp 24) 90 rfl 87 3 .i64 law87 Try.underlying90 Try.underlying3 (zeroM3 _) b1 k D1 rfl o1 _ _ rfl KK.out.1 ?_; intro c hat hwc; obtain rfl := Cnt.at_ A1.out.2.1 RR.out.1 hat; clear hat hwc)
          | (at_lookup; refine wpList_lookup_own_int _ rfl (.tmp 27) (.tmp 29) 90 rfl 87 3 .i64 law87 Try.underlying90 Try.underlying3 (zeroM3 _) b2 k D2 rfl o2 _ _ rfl KK.out.2 ?_; intro c hat hwc; obtain rfl := Cnt.at_ A2.out.2.1 RR.out.2 hat; clear hat hwc)
          | (at_mapUpdate; refine wpList_mapUpdate_own _ rfl (.tmp 22) (.tmp 24) (.tmp 26) 90 rfl 87 3 law87 Try.underlying90 _ b1 k D1 rfl o1 hkM _ _ _ rfl rfl KK.out.1 _ [] (plainElem_int Try.underlying3 WW.out.1) ?_; intro w1 hown1 hgrow1; have Q1 := Lib.hid (And.intro hown1 hgrow1); have rbx := ((fr_grown hgrow1).row (g := w4.heap.size) (by simp) (by have := hb14.out; omega)).trans (rowOf_alloc_at w4 _ _ _ w4.heap.size rfl); obtain ⟨D2, o2, m2, a2, n2⟩ := HB2.out.keep (fr_grown hgrow1) (fun e => by have := HB.out; omega); have A2 := Lib.hid (And.intro m2 (And.intro a2 n2)); clear hown1 hgrow1 m2 a2 n2)
          | (at_mapUpdate; refine wpList_mapUpdate_own _ rfl (.tmp 27) (.tmp 29) (.tmp 31) 90 rfl 87 3 law87 Try.underlying90 _ b2 k D2 rfl o2 hkM _ _ _ rfl rfl KK.out.2 _ [] (plainElem_int Try.underlying3 WW.out.2) ?_; intro w2 hown2 hgrow2; have Q2 := Lib.hid (And.intro hown2 hgrow2); clear hown2 hgrow2)
          | go_in)
        go_roundw
        case rel =>
          have e1 := HB.out.1
          have e2 := HB.out.2
          have g1 := fr_grown Q1.out.2
          have g2 := fr_grown Q2.out.2
          have c1 : Cnt w1 b1 (k + 1) (bump (lifeCnt (all.take k)) ml) := Cnt.bump A1.out.1 A1.out.2.1 A1.out.2.2 RR.out.1 (by simpa using Q1.out.1)
          have c2 : Cnt w2 b2 (k + 1) (bump (genCnt (all.take k)) mg) := Cnt.bump A2.out.1 A2.out.2.1 A2.out.2.2 RR.out.2 (by simpa using Q2.out.1)
          exact ⟨k + 1, by omega, by go_num, by rw [ST1.out]; exact c1.keep g2 (by omega), by rw [ST2.out]; exact c2, ((HF.out.trans (F4.out _) (fun _ _ h => h)).trans g1 (fun i hi e => by omega)).trans g2 (fun i hi e => by omega)⟩
        case measure => simp [intOf]; omega
      | false =>
        rw [his] at ST1 ST2
        simp only [Bool.false_eq_true, if_false] at ST1 ST2
        go_wp2
        go_roundw
        case rel =>
          exact ⟨k + 1, by omega, by go_num, by rw [ST1.out]; exact (H1.out.keep (F4.out _) (fun h => h)).mono (by omega), by rw [ST2.out]; exact (H2.out.keep (F4.out _) (fun h => h)).mono (by omega), HF.out.trans (F4.out _) (fun _ _ h => h)⟩
        case measure => simp [intOf]; omega
    · obtain rfl : k = q := by omega
      go_wp2
      go_ret2
      have e1 : all.take k = all := List.take_of_length_le (by rw [HQ.out]; exact Nat.le_refl _)
      rw [e1] at H1 H2
      exact ⟨b1, b2, rfl, H1.out, H2.out, by have := HB.out.1; omega, by have := HB.out.2; omega, by have := HB.out; omega, HF.out⟩

/-! ### the least number that is free -/

/-- The least number from a on, of n, that does not stand. -/
def freeFrom (cnt : Nat → Nat) : Nat → Nat → Nat
  | 0, a => a
  | n + 1, a => if cnt a = 0 then a else freeFrom cnt n (a + 1)

theorem freeFrom_le (cnt : Nat → Nat) : ∀ n a, freeFrom cnt n a ≤ a + n
  | 0, a => Nat.le_refl _
  | n + 1, a => by
    unfold freeFrom
    split
    · omega
    · have := freeFrom_le cnt n (a + 1); omega

theorem sum_le (all : List (List UInt8)) (f : List UInt8 → Nat) (p : List UInt8 → Bool) (a : Nat) : ∀ n, (∀ j, j < n → 0 < all.countP (fun b => p b && decide (f b = a + j))) → n ≤ all.countP (fun b => p b && decide (a ≤ f b) && decide (f b < a + n)) := by
  intro n
  induction n with
  | zero => intro _; omega
  | succ n ih =>
    intro h
    have h1 := ih (fun j hj => h j (by omega))
    have h2 := h n (by omega)
    have h3 : all.countP (fun b => p b && decide (a ≤ f b) && decide (f b < a + n)) + all.countP (fun b => p b && decide (f b = a + n)) ≤ all.countP (fun b => p b && decide (a ≤ f b) && decide (f b < a + (n + 1))) := by
      clear h h1 h2 ih
      induction all with
      | nil => simp
      | cons x l ih =>
        simp only [List.countP_cons]
        have hx : (if (p x && decide (a ≤ f x) && decide (f x < a + n)) = true then 1 else 0) + (if (p x && decide (f x = a + n)) = true then 1 else 0) ≤ (if (p x && decide (a ≤ f x) && decide (f x < a + (n + 1))) = true then 1 else 0) := by
          by_cases hp : p x = true
          · by_cases h1 : a ≤ f x <;> by_cases h2 : f x < a + n <;> by_cases h3 : f x = a + n <;> by_cases h4 : f x < a + (n + 1) <;> simp [hp, h1, h2, h3, h4] <;> omega
          · simp at hp; simp [hp]
        omega
    omega

/-- Among one more than all there is a free one. -/
theorem freeFrom_free (all : List (List UInt8)) (f : List UInt8 → Nat) (p : List UInt8 → Bool) : ∀ n a, (∃ j, j ≤ n ∧ all.countP (fun b => p b && decide (f b = a + j)) = 0) →
    all.countP (fun b => p b && decide (f b = freeFrom (fun k => all.countP (fun b => p b && decide (f b = k))) n a)) = 0 := by
  intro n
  induction n with
  | zero =>
    rintro a ⟨j, hj, h⟩
    obtain rfl : j = 0 := by omega
    rw [Nat.add_zero] at h
    exact h
  | succ n ih =>
    rintro a ⟨j, hj, h⟩
    unfold freeFrom
    split
    · assumption
    · rename_i hne
      have hj0 : j ≠ 0 := by rintro rfl; exact hne (by simpa using h)
      exact ih (a + 1) ⟨j - 1, by omega, by rw [show a + 1 + (j - 1) = a + j by omega]; exact h⟩

theorem some_free (all : List (List UInt8)) (f : List UInt8 → Nat) (p : List UInt8 → Bool) (a : Nat) : ∃ j, j ≤ all.length ∧ all.countP (fun b => p b && decide (f b = a + j)) = 0 := by
  refine Classical.byContradiction fun hno => ?_
  have h := sum_le all f p a (all.length + 1) (fun j hj => Nat.pos_of_ne_zero fun e => hno ⟨j, by omega, e⟩)
  have := List.countP_le_length (p := fun b => p b && decide (a ≤ f b) && decide (f b < a + (all.length + 1))) (l := all)
  omega

set_option maxRecDepth 20000 in
set_option maxHeartbeats 2000000 in
theorem fresh_any (w : World) (B n : Nat) (cnt : Nat → Nat) (h : Cnt w B n cnt) (a m : Nat) (ha : a + m < 9223372036854775807) (hfree : cnt (freeFrom cnt m a) = 0) :
    Calls Try.prog 83 #[.map (some B), .int .u64 a] w fun e w' => e = .returned (.int .u64 (freeFrom cnt m a)) ∧ w = w' := by
  obtain ⟨D, o1, m1, a1, n1⟩ := h
  have A1 := Lib.hid (And.intro a1 n1)
  have HF := Lib.hid hfree
  have HA := Lib.hid ha
  clear m1 a1 n1 hfree ha
  go_enter Try.func83, Try.ntmps83
  go_wp2
  go_loop [1] (fun i => ∃ k : Nat, k ≤ m ∧ i = .int .u64 (a + k : Nat) ∧ Hid (freeFrom cnt (m - k) (a + k) = freeFrom cnt m a)) (fun i => a + m - (intOf i).toNat)
  case atStart => exact ⟨0, Nat.zero_le _, rfl, Lib.hid rfl⟩
  case round =>
    obtain ⟨k, hk, rfl, hfr⟩ := hrel
    obtain ⟨c, hc⟩ : ∃ c, a + k = c := ⟨_, rfl⟩
    have HC := Lib.hid hc
    rw [hc] at hfr ⊢
    clear hc
    have KK := Lib.hid (keyOf_int_mk (P := Try.prog) Try.underlying87 (wf87 (k := c) (by have := HA.out; have := HC.out; omega)))
    have HLT := Lib.hid (show c < 18446744073709551616 by have := HA.out; have := HC.out; omega)
    have hcb : IntKind.u64.wrap ((c : Int) + 1) = (c : Int) + 1 := wraps_u64 _ (by omega) (by have := HA.out; have := HC.out; omega)
    have hcn := A1.out.2 c
    by_cases hz : cnt c = 0
    · have hz2 : ¬ (0 : Int) < (cnt c : Int) := by omega
      have E := Lib.hid (show freeFrom cnt m a = c by
        rw [← hfr.out]
        cases hmk : m - k with
        | zero => rfl
        | succ j => unfold freeFrom; rw [if_pos hz])
      go_wp2_with (first
        | (at_lookup; refine wpList_lookup_own_int _ rfl (.tmp 5) (.tmp 6) 90 rfl 87 3 .i64 law87 Try.underlying90 Try.underlying3 (zeroM3 _) B n D rfl o1 _ _ rfl KK.out ?_; intro c' hat hwc; obtain rfl := Cnt.at_ A1.out.1 HLT.out hat; clear hat hwc)
        | go_in)
      go_ret
      exact ⟨by rw [E.out]; rfl, rfl⟩
    · have hz2 : (0 : Int) < (cnt c : Int) := by omega
      have hkm : k < m := by
        refine Classical.byContradiction fun hno => hz ?_
        have hm0 : m - k = 0 := by omega
        have := hfr.out
        rw [hm0] at this
        have e2 : freeFrom cnt m a = c := this.symm
        rw [← e2]; exact HF.out
      have E := Lib.hid (show freeFrom cnt (m - (k + 1)) (c + 1) = freeFrom cnt m a by
        rw [← hfr.out, show m - k = (m - (k + 1)) + 1 by omega]
        show _ = (if cnt c = 0 then c else freeFrom cnt (m - (k + 1)) (c + 1))
        rw [if_neg hz])
      go_wp2_with (first
        | (at_lookup; refine wpList_lookup_own_int _ rfl (.tmp 5) (.tmp 6) 90 rfl 87 3 .i64 law87 Try.underlying90 Try.underlying3 (zeroM3 _) B n D rfl o1 _ _ rfl KK.out ?_; intro c' hat hwc; obtain rfl := Cnt.at_ A1.out.1 HLT.out hat; clear hat hwc)
        | go_in)
      clear hcb hcn
      go_round
      case rel => exact ⟨k + 1, by omega, by have := HC.out; first | (go_num; done) | (congr 1; omega), by rw [show a + (k + 1) = c + 1 by have := HC.out; omega]; exact E⟩
      case measure => have := HC.out; simp [intOf]; omega

end Go.Proofs.Ytflnlpbcmcfblaa
