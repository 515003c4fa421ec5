/-
  The document's log (keystoneref03): New, Room, Same.
-/
import Derived.Test.YtflnlpbcmcfblaaLS
namespace Go.Proofs.Ytflnlpbcmcfblaa
open Go.RowKit

/-! ### The document's log (keystoneref03): New, Room, Same. -/
/-- A list of records that nobody writes into: its slice, and each record's bytes. -/
structure RefL (w : World) (v : Value) (us : List Value) (R : List (List UInt8)) : Prop where
  da : OwnRows w v 1 (us.map fun u => #[u]) 0
  ln : us.length = R.length
  el : ∀ i (h1 : i < us.length) (h2 : i < R.length), OwnB w us[i] R[i] 0

theorem RefL.nil (w : World) : RefL w (.slice none 0 0) [] [] := ⟨OwnRows.nil _ _ _, rfl, fun i h => by simp at h⟩
theorem RefL.lt {w : World} {v : Value} {us : List Value} {R : List (List UInt8)} (h : RefL w v us R) {k : Nat} (hk : recsFoot v us k) : k < w.heap.size := by
  rcases hk with hk | ⟨u, hu, hk⟩
  · exact (h.da.lt hk).2
  · obtain ⟨i, hi, rfl⟩ := List.getElem_of_mem hu
    exact ((h.el i hi (by have := h.ln; omega)).lt hk).2
theorem RefL.keep {w w' : World} {v : Value} {us : List Value} {R : List (List UInt8)} (h : RefL w v us R) {F : Nat → Prop} (f : Fr F w w') (hF : ∀ k, recsFoot v us k → ¬ F k) : RefL w' v us R :=
  ⟨h.da.keep f (fun k hk => hF k (.inl hk)), h.ln, fun i h1 h2 => (h.el i h1 h2).keep f (fun k hk => hF k (.inr ⟨_, List.getElem_mem h1, hk⟩))⟩

/-- A list that is read: nil, or rows from some place on. -/
def ListAt (w : World) (v : Value) (R : List (List UInt8)) : Prop := (v = .slice none 0 0 ∧ R = []) ∨ AllAt w v R 0

theorem RefL.allAt {w : World} {v : Value} {us : List Value} {R : List (List UInt8)} (h : RefL w v us R) (hne : R ≠ []) : AllAt w v R 0 := by
  have hl := h.ln
  have h0 : 0 < R.length := List.length_pos_iff.2 hne
  rcases h.da with ⟨-, e⟩ | ⟨g, cap, rfl, b1, b2, ⟨b3, b3p⟩, b4, b5, b6⟩
  · simp at e; rw [e] at hl; simp at hl; omega
  · simp only [List.length_map] at b3 b3p b6
    refine ⟨g, 0, cap, by simp [hl], by omega, b1, by omega, fun i hi => ?_⟩
    have hiu : i < us.length := by omega
    have c := b6 i hiu
    have g0 := cut_get (cur := rowOf w g) (off := i * 1) (n := 1) (by omega) 0 (by omega)
    rw [c] at g0
    refine ⟨us[i], ?_, h.el i hiu hi⟩
    simpa using g0.symm
theorem RefL.list {w : World} {v : Value} {us : List Value} {R : List (List UInt8)} (h : RefL w v us R) : ListAt w v R := by
  by_cases hne : R = []
  · subst hne
    rcases h.da with ⟨e, -⟩ | ⟨g, cap, -, -, -, ⟨-, b3p⟩, -⟩
    · exact .inl ⟨e, rfl⟩
    · have := h.ln; simp at this; rw [this] at b3p; simp at b3p
  · exact .inr (h.allAt hne)
theorem Recs.refl' {w : World} {v : Value} {us : List Value} {R : List (List UInt8)} {base : Nat} (h : Recs w v us R base) : RefL w v us R :=
  ⟨h.da.lower (Nat.zero_le _), h.ln, fun i h1 h2 => (h.el i h1 h2).weaken (Nat.zero_le _)⟩

theorem size96 : (Try.prog.info? 96).map (·.size) = some 2 := by kernel_rfl
theorem results59 {w : World} {t : Array Value} {g : Nat} {q : Bool} {c0 c1 : Value} (h2 : t[2]?.getD undef = .pointer (some ⟨g, 0, none⟩)) (h3 : t[3]?.getD undef = .bool q) (hr : rowOf w g = #[c0, c1]) :
    (results Try.f59 t).run Try.prog w = .ok (.tuple #[.agg #[c0, c1], .bool q]) w := by
  cases hi : Try.prog.info? 96 with
  | none => have := size96; rw [hi] at this; cases this
  | some i =>
    have hs : i.size = 2 := by have := size96; rw [hi] at this; exact Option.some.inj this
    simp [results, Try.results59, go_sem, h2, h3, isAgg, run_underlying Try.underlying96, sizeOf, typeInfo, hi, hs, hr]

set_option maxHeartbeats 1000000 in
theorem refNew_any (w : World) (n : Nat) (h1 : 1 ≤ n) (h2 : n ≤ 16384) :
    Calls Try.prog 59 #[.int .i64 n] w fun e w' => e = .returned (.tuple #[.agg #[.int .i64 ((n - 2) / 2 : Nat), .slice none 0 0], .bool (decide (6 ≤ n))]) ∧ Fr (fun _ => False) w w' := by
  obtain ⟨m, hm⟩ : ∃ m, (n - 2) / 2 = m := ⟨_, rfl⟩
  rw [hm]
  have hq : ((n : Int) - 2).tdiv 2 = (m : Int) := by
    by_cases h : n = 1
    · subst h; simp at hm; subst hm; rfl
    · rw [Int.tdiv_eq_ediv_of_nonneg (by omega)]; omega
  have HQ := Lib.hid hq
  have HMB := Lib.hid (show m ≤ 8191 by omega)
  clear hm hq
  by_cases h6 : 6 ≤ n
  · have h6i : (6 : Int) ≤ (n : Int) := by omega
    rw [decide_eq_true h6]
    have hq : ((n : Int) - 2) / 2 = (m : Int) := by rw [← HQ.out, Int.tdiv_eq_ediv_of_nonneg (by omega)]
    go_enter Try.func59, Try.ntmps59
    go_wp2
    exact bodyPost_ret (results59 rfl rfl (rowOf_alloc_at _ _ _ _ _ (by simp))) rfl ⟨rfl, ((Fr.refl _ w).alloc _)⟩
  · have h6i : ¬ (6 : Int) ≤ (n : Int) := by omega
    rw [decide_eq_false h6]
    have hq := HQ.out
    have hmb : (m : Int) ≤ 8191 := by have := HMB.out; omega
    go_enter Try.func59, Try.ntmps59
    go_wp2
    exact bodyPost_ret (results59 rfl rfl (rowOf_alloc_at _ _ _ _ _ (by simp))) rfl ⟨rfl, ((Fr.refl _ w).alloc _)⟩

set_option maxRecDepth 20000 in
set_option maxHeartbeats 2000000 in
theorem refRoom_any (w : World) (A : Nat) (v : Value) (R : List (List UInt8)) (hv : ListAt w v R) (hA : A ≤ 16384) (hs : sumN R ≤ A) (hb : ∀ b ∈ R, b.length ≤ 65536) :
    Calls Try.prog 60 #[.agg #[.int .i64 A, v]] w fun e w' => e = .returned (.int .i64 (A - sumN R : Nat)) ∧ Fr (fun _ => False) w w' := by
  have HB := Lib.hid hb
  have HS := Lib.hid hs
  obtain ⟨L, hL⟩ : ∃ L, R.length = L := ⟨_, rfl⟩
  have HL := Lib.hid hL
  have hLA : L ≤ 16384 := by have := sumN_ge R; omega
  have TS := Lib.hid (show ∀ k (hk : k < R.length), sumN (R.take (k + 1)) = sumN (R.take k) + recN (R[k]'hk).length from fun k hk => by
    rw [List.take_succ_eq_append_getElem hk, sumN_snoc])
  have TL := Lib.hid (show ∀ k, sumN (R.take k) ≤ sumN R from fun k => by
    have : sumN (R.take k ++ R.drop k) = sumN (R.take k) + sumN (R.drop k) := by simp only [sumN, List.map_append, List.sum_append]
    rw [List.take_append_drop] at this
    omega)
  obtain ⟨W, hW⟩ : ∃ W, w.alloc (.cells #[.int .i64 A, v] 96) = W := ⟨_, rfl⟩
  obtain ⟨b1, hb1⟩ : ∃ b, w.heap.size = b := ⟨_, rfl⟩
  have HW := Lib.hid (And.intro hW hb1)
  have FW := Lib.hid (show Fr (fun _ => False) w W by rw [← hW]; exact (Fr.refl _ w).alloc _)
  have rb : rowOf W b1 = #[.int .i64 A, v] := by rw [← hW, ← hb1]; exact rowOf_alloc_at _ _ _ _ _ rfl
  clear hW hb1 hb hs
  rcases hv with ⟨rfl, rfl⟩ | ⟨g, off, cap, rfl, hcap, hbase, hsz, hcells⟩
  · obtain rfl : L = 0 := hL.symm
    go_enter Try.func60, Try.ntmps60
    go_wp2_with fail
    rw [HW.out.1, HW.out.2]
    go_loop [3, 4] (fun s i => s = .int .i64 A ∧ i = .int .i64 0) (fun _ i => 0)
    case atStart => exact ⟨rfl, rfl⟩
    case round =>
      obtain ⟨rfl, rfl⟩ := hrel
      go_wp2
      go_ret
      exact ⟨by simp [sumN], FW.out⟩
  · rw [hL] at hcap
    have HC := Lib.hid hcells
    have HSZ := Lib.hid hsz
    clear hcells hsz hbase
    rw [hL] at rb
    rw [hL] at HW ⊢
    clear hL
    go_enter Try.func60, Try.ntmps60
    go_wp2_with fail
    rw [HW.out.1, HW.out.2]
    go_loop [3, 4] (fun s i => ∃ k : Nat, k ≤ L ∧ i = .int .i64 k ∧ s = .int .i64 (A - sumN (R.take k) : Nat)) (fun _ i => L - (intOf i).toNat)
    case atStart => exact ⟨0, Nat.zero_le _, rfl, by simp [sumN]⟩
    case round =>
      obtain ⟨k, hk, rfl, rfl⟩ := hrel
      obtain ⟨x, hx⟩ : ∃ x, A - sumN (R.take k) = x := ⟨_, rfl⟩
      have HX := Lib.hid hx
      rw [hx]
      have hxA : x ≤ 16384 := by omega
      clear hx
      by_cases hlt : k < L
      · have hki : (k : Int) < (L : Int) := by omega
        have hkl : k < R.length := by rw [HL.out]; exact hlt
        obtain ⟨u, c0, ou⟩ := HC.out k hkl
        have c1 := (congrArg (fun z : Array Value => z[off + k]?) (FW.out.row (g := g) (rowOf_lt (by have := HSZ.out; omega)) (fun h => h))).trans c0
        obtain ⟨ua, uc, rfl⟩ := ou.shape
        have hq := HB.out _ (List.getElem_mem hkl)
        have T1 := TS.out k hkl
        have T2 := TL.out (k + 1)
        obtain ⟨q, hq2⟩ : ∃ q, R[k].length = q := ⟨_, rfl⟩
        rw [hq2] at c1 hq T1
        have BN := Lib.hid (blocksI_nat q)
        have T3 := Lib.hid (show A - sumN (R.take (k + 1)) = x - recN q ∧ recN q ≤ x by have := HX.out; have := HS.out; omega)
        have hrn := recN_bound hq
        obtain ⟨m, hm⟩ : ∃ m, recN q = m := ⟨_, rfl⟩
        rw [hm] at T3 hrn
        have HM := Lib.hid hm
        have hmx : m ≤ x := T3.out.2
        clear T1 T2 c0 ou hm hq2
        go_wp2_with fail
        refine (refBlocks_any _ (by omega) _).mono ?_
        rintro e w' ⟨rfl, rfl⟩
        rw [BN.out, HM.out]
        go_wp2
        go_round
        case rel => exact ⟨k + 1, by omega, by go_num, by rw [T3.out.1]; congr 1; omega⟩
        case measure => simp [intOf]; omega
      · obtain rfl : k = L := by omega
        go_wp2
        go_ret
        rw [List.take_of_length_le (by rw [HL.out]; exact Nat.le_refl _)] at HX
        exact ⟨by rw [HX.out]; rfl, FW.out⟩

/-! ### The document's log (keystoneref03): Same. -/
theorem conv_at {w W : World} {v : Value} {b : List UInt8} (h : BytesAt w v b) (f : Fr (fun _ => False) w W) : (conv36 v).run Try.prog W = .ok (.string ⟨b.toArray⟩) W := run_string36 (h.later f)

theorem bytes_eqb (a b : List UInt8) : ((⟨a.toArray⟩ : ByteArray).toList == (⟨b.toArray⟩ : ByteArray).toList) = decide (a = b) := by
  rw [Bool.eq_iff_iff, ByteArray.toList_eq, ByteArray.toList_eq]; simp
theorem bytes_neb (a b : List UInt8) : ((⟨a.toArray⟩ : ByteArray).toList != (⟨b.toArray⟩ : ByteArray).toList) = !decide (a = b) := by
  rw [bne, bytes_eqb]

theorem ListAt.shape {w : World} {v : Value} {R : List (List UInt8)} (h : ListAt w v R) : ∃ a c, v = .slice a R.length c := by
  rcases h with ⟨rfl, rfl⟩ | ⟨g, off, cap, rfl, -⟩
  · exact ⟨none, 0, rfl⟩
  · exact ⟨_, _, rfl⟩

theorem ListAt.cell {w : World} {a : Option Addr} {L c : Nat} {R : List (List UInt8)} (h : ListAt w (.slice a L c) R) {k : Nat} (hk : k < R.length) :
    ∃ g off ua uc, a = some ⟨g, off, none⟩ ∧ (rowOf w g)[off + k]? = some (.slice ua R[k].length uc) ∧ OwnB w (.slice ua R[k].length uc) R[k] 0 := by
  rcases h with ⟨h1, rfl⟩ | ⟨g, off, cap, e, h1, h2, h3, h4⟩
  · simp at hk
  · simp only [Value.slice.injEq] at e
    obtain ⟨u, c0, ou⟩ := h4 k hk
    obtain ⟨ua, uc, rfl⟩ := ou.shape
    exact ⟨g, off, ua, uc, e.1, c0, ou⟩

theorem ListAt.keep0 {w w' : World} {v : Value} {R : List (List UInt8)} (h : ListAt w v R) (f : Fr (fun _ => False) w w') : ListAt w' v R := by
  by_cases hne : R = []
  · subst hne
    rcases h with h | ⟨g, off, cap, e, h1, h2, h3, h4⟩
    · exact .inl h
    · by_cases hc : cap = 0
      · refine .inr ⟨g, off, cap, e, h1, h2, ?_, fun i h => by simp at h⟩
        subst hc
        by_cases hg : g < w.heap.size
        · rw [f.row hg (fun h => h)]; exact h3
        · have : (rowOf w g).size = 0 := by
            unfold rowOf; rw [Array.getElem?_eq_none (by omega)]; rfl
          omega
      · refine .inr ⟨g, off, cap, e, h1, h2, ?_, fun i h => by simp at h⟩
        rw [f.row (rowOf_lt (by omega)) (fun h => h)]; exact h3
  · exact h.imp id (fun h => h.keep f (fun _ _ _ h => h) hne)

set_option maxRecDepth 20000 in
set_option maxHeartbeats 4000000 in
theorem same_any (w : World) (va vb : Value) (A B : List (List UInt8)) (ha : ListAt w va A) (hb : ListAt w vb B) (hla : A.length ≤ 1099511627776) :
    Calls Try.prog 51 #[va, vb] w fun e w' => e = .returned (.bool (decide (A = B))) ∧ Fr (fun _ => False) w w' := by
  obtain ⟨aa, ca, rfl⟩ := ha.shape
  obtain ⟨ab, cb, rfl⟩ := hb.shape
  have HA := Lib.hid ha
  have HB := Lib.hid hb
  clear ha hb
  by_cases hl : A.length = B.length
  · obtain ⟨L, hL⟩ : ∃ L, A.length = L := ⟨_, rfl⟩
    have LA := Lib.hid hL
    have LB := Lib.hid (hl.symm.trans hL)
    rw [← hl, hL] at HB
    rw [hL] at HA hla
    rw [← hl, hL]
    clear hl hL
    go_enter Try.func51, Try.ntmps51
    go_wp2
    go_loopw [5] (fun i wr => ∃ k : Nat, k ≤ L ∧ i = .int .i64 k ∧ Fr (fun _ => False) w wr ∧ Hid (A.take k = B.take k)) (fun i _ => L - (intOf i).toNat)
    case atStart => exact ⟨0, Nat.zero_le _, rfl, Fr.refl _ _, Lib.hid rfl⟩
    case round =>
      obtain ⟨k, hk, rfl, hf, heq⟩ := hrel
      have HF := Lib.hid hf
      clear hf
      by_cases hlt : k < L
      · have hki : (k : Int) < (L : Int) := by omega
        have hka : k < A.length := by rw [LA.out]; exact hlt
        have hkb : k < B.length := by rw [LB.out]; exact hlt
        obtain ⟨ga, oa, ua, uc, rfl, c1, o1⟩ := (HA.out.keep0 HF.out).cell hka
        obtain ⟨gb, ob, va, vc, rfl, c2, o2⟩ := (HB.out.keep0 HF.out).cell hkb
        have TA := Lib.hid (List.take_succ_eq_append_getElem hka)
        have TB := Lib.hid (List.take_succ_eq_append_getElem hkb)
        have DF := Lib.hid (show A = B → A[k] = B[k] from fun e => by subst e; rfl)
        obtain ⟨x, hx⟩ : ∃ x, A[k] = x := ⟨_, rfl⟩
        obtain ⟨y, hy⟩ : ∃ y, B[k] = y := ⟨_, rfl⟩
        rw [hx] at c1 o1 TA DF
        rw [hy] at c2 o2 TB DF
        have h1 := conv_at o1.at_ (Fr.refl (fun _ => False) wr).drew
        have h2 := conv_at o2.at_ (Fr.refl (fun _ => False) wr).drew
        have hnb := bytes_eqb x y
        obtain ⟨sx, hsx⟩ : ∃ s : ByteArray, s = ⟨x.toArray⟩ := ⟨_, rfl⟩
        obtain ⟨sy, hsy⟩ : ∃ s : ByteArray, s = ⟨y.toArray⟩ := ⟨_, rfl⟩
        rw [← hsx] at h1 hnb
        rw [← hsy] at h2 hnb
        clear hx hy hka hkb o1 o2 hsx hsy
        by_cases hxy : x = y
        · have XY := Lib.hid hxy
          rw [decide_eq_true hxy] at hnb
          clear hxy
          go_wp2
          go_region
          all_goals
            go_wp2
            go_roundw
            case rel => exact ⟨k + 1, by omega, by go_num, HF.out.drew, Lib.hid (by rw [TA.out, TB.out, heq.out, XY.out])⟩
            case measure => simp [intOf]; omega
        · have XY := Lib.hid (show decide (A = B) = false from decide_eq_false (fun e => hxy (DF.out e)))
          rw [decide_eq_false hxy] at hnb
          clear hxy
          go_wp2
          go_region
          all_goals
            go_wp2
            go_ret
            rw [XY.out]
            exact ⟨rfl, HF.out.drew⟩
      · obtain rfl : k = L := by omega
        have E := Lib.hid (show A = B by
          have := heq.out
          rw [List.take_of_length_le (by rw [LA.out]; exact Nat.le_refl _), List.take_of_length_le (by rw [LB.out]; exact Nat.le_refl _)] at this
          exact this)
        go_wp2
        go_ret
        rw [decide_eq_true E.out]
        exact ⟨rfl, HF.out⟩
  · have hli : ((A.length : Int) != (B.length : Int)) = true := by simp; omega
    have E := Lib.hid (show decide (A = B) = false from decide_eq_false (fun e => hl (by rw [e])))
    obtain ⟨La, hLa⟩ : ∃ L, A.length = L := ⟨_, rfl⟩
    obtain ⟨Lb, hLb⟩ : ∃ L, B.length = L := ⟨_, rfl⟩
    rw [hLa, hLb] at hli hl
    rw [hLa, hLb]
    clear hLa hLb
    go_enter Try.func51, Try.ntmps51
    go_wp2
    go_ret
    rw [E.out]
    exact ⟨rfl, Fr.refl _ _⟩

/-! ### The document's log (keystoneref03): Appended, Checked. -/
theorem results90 {w : World} {t : Array Value} {g : Nat} {q : Int} {c0 c1 : Value} (h2 : t[4]?.getD undef = .pointer (some ⟨g, 0, none⟩)) (h3 : t[5]?.getD undef = .int .i64 q) (hr : rowOf w g = #[c0, c1]) :
    (results Try.f90 t).run Try.prog w = .ok (.tuple #[.agg #[c0, c1], .int .i64 q]) w := by
  cases hi : Try.prog.info? 96 with
  | none => have := size96; rw [hi] at this; cases this
  | some i =>
    have hs : i.size = 2 := by have := size96; rw [hi] at this; exact Option.some.inj this
    simp [results, Try.results90, go_sem, h2, h3, isAgg, run_underlying Try.underlying96, sizeOf, typeInfo, hi, hs, hr]
theorem results91 {w : World} {t : Array Value} {g : Nat} {q : Int} {c0 c1 : Value} (h2 : t[4]?.getD undef = .pointer (some ⟨g, 0, none⟩)) (h3 : t[5]?.getD undef = .int .i64 q) (hr : rowOf w g = #[c0, c1]) :
    (results Try.f91 t).run Try.prog w = .ok (.tuple #[.agg #[c0, c1], .int .i64 q]) w := by
  cases hi : Try.prog.info? 96 with
  | none => have := size96; rw [hi] at this; cases this
  | some i =>
    have hs : i.size = 2 := by have := size96; rw [hi] at this; exact Option.some.inj this
    simp [results, Try.results91, go_sem, h2, h3, isAgg, run_underlying Try.underlying96, sizeOf, typeInfo, hi, hs, hr]

/-- The list with a record more. -/
theorem RefL.snoc {w w' : World} {v v' vb : Value} {us : List Value} {R : List (List UInt8)} {b : List UInt8} (h : RefL w v us R) (hb : OwnB w vb b 0) {base : Nat} (ho : OwnRows w' v' 1 ((us ++ [vb]).map fun u => #[u]) base) (f : Fr (fun _ => False) w w') : RefL w' v' (us ++ [vb]) (R ++ [b]) := by
  refine ⟨ho.lower (Nat.zero_le _), by simp [h.ln], fun i h1 h2 => ?_⟩
  have hl := h.ln
  by_cases hi : i < us.length
  · rw [List.getElem_append_left hi, List.getElem_append_left (by omega)]
    exact (h.el i hi (by omega)).keep f (fun _ _ h => h)
  · have hi2 : i = us.length := by simp at h1; omega
    subst hi2
    rw [List.getElem_append_right (Nat.le_refl _), List.getElem_append_right (by omega)]
    have e0 : us.length - R.length = 0 := by omega
    simp only [Nat.sub_self, List.getElem_cons_zero, e0]
    exact hb.keep f (fun _ _ h => h)

section
variable (w : World) (A : Nat) (av : Option Addr) (nv cv : Nat) (ab : Option Addr) (q c : Nat)

set_option maxRecDepth 20000 in
set_option maxHeartbeats 2000000 in
theorem appended_long (hq : 65536 < q) (hq2 : q ≤ 140737488355328) :
    Calls Try.prog 90 #[.agg #[.int .i64 A, .slice av nv cv], .slice ab q c] w fun e w' => e = .returned (.tuple #[.agg #[.int .i64 A, .slice av nv cv], .int .i64 3]) ∧ Fr (fun _ => False) w w' := by
  have hqi : (65536 : Int) < (q : Int) := by omega
  go_enter Try.func90, Try.ntmps90
  go_wp2
  exact bodyPost_ret (results90 rfl rfl (rowOf_alloc_at _ _ _ _ _ (by simp))) rfl ⟨rfl, ((Fr.refl _ w).alloc _).alloc _⟩

set_option maxRecDepth 20000 in
set_option maxHeartbeats 2000000 in
theorem checked_long (hq : 65536 < q) (hq2 : q ≤ 140737488355328) :
    Calls Try.prog 91 #[.agg #[.int .i64 A, .slice av nv cv], .slice ab q c] w fun e w' => e = .returned (.tuple #[.agg #[.int .i64 A, .slice av nv cv], .int .i64 3]) ∧ Fr (fun _ => False) w w' := by
  have hqi : (65536 : Int) < (q : Int) := by omega
  go_enter Try.func91, Try.ntmps91
  go_wp2
  exact bodyPost_ret (results91 rfl rfl (rowOf_alloc_at _ _ _ _ _ (by simp))) rfl ⟨rfl, ((Fr.refl _ w).alloc _).alloc _⟩

set_option maxRecDepth 20000 in
set_option maxHeartbeats 2000000 in
theorem checked_full (hq : q ≤ 65536) (hA : A < recN q) :
    Calls Try.prog 91 #[.agg #[.int .i64 A, .slice av nv cv], .slice ab q c] w fun e w' => e = .returned (.tuple #[.agg #[.int .i64 A, .slice av nv cv], .int .i64 4]) ∧ Fr (fun _ => False) w w' := by
  have hqi : ¬ (65536 : Int) < (q : Int) := by omega
  have BN := Lib.hid (blocksI_nat q)
  obtain ⟨m, hm⟩ : ∃ m, recN q = m := ⟨_, rfl⟩
  have HM := Lib.hid hm
  rw [hm] at hA
  have hAi : (A : Int) < (m : Int) := by omega
  clear hm
  go_enter Try.func91, Try.ntmps91
  go_upto_region 3 with fail
  obtain ⟨W, hW⟩ : ∃ W, (w.alloc (.cells #[.int .i64 A, .slice av nv cv] 96)).alloc (.cells #[.int .i64 0, .slice none 0 0] 96) = W := ⟨_, rfl⟩
  obtain ⟨b2, hb2⟩ : ∃ b, w.heap.size = b := ⟨_, rfl⟩
  obtain ⟨b4, hb4⟩ : ∃ b, w.heap.size + 1 = b := ⟨_, rfl⟩
  have BX := Lib.hid (And.intro hb2 hb4)
  have F2 := Lib.hid (show Fr (fun _ => False) w W by rw [← hW]; exact ((Fr.refl _ w).alloc _).alloc _)
  have r2 : rowOf W b2 = #[.int .i64 A, .slice av nv cv] := by rw [← hW, ← hb2, rowOf_alloc_lt _ _ _ (by simp)]; exact rowOf_alloc_at _ _ _ _ _ rfl
  have r4 : rowOf W b4 = #[.int .i64 0, .slice none 0 0] ∧ live W b4 = true := by rw [← hW, ← hb4]; exact ⟨rowOf_alloc_at _ _ _ _ _ (by simp), live_alloc_at _ _ _ _ (by simp)⟩
  have l4 := r4.2
  have r4 := r4.1
  rw [hW]
  rw [hb4, hb2]
  clear hW hb2 hb4
  go_region_held3 (fun w' => rowOf w' b2 = #[.int .i64 A, .slice av nv cv])
    (first | assumption | (rw [rowOf_drew]; assumption))
    ((go_simp; go_at_call 46; refine (refBlocks_any _ (by omega) _).mono ?_; rintro e w' ⟨rfl, rfl⟩; rw [BN.out, HM.out]))
  all_goals
    go_wp2
    exact bodyPost_ret (results91 rfl rfl (rowOf_setRow_same _ _ _ l4)) rfl ⟨rfl, F2.out.drew.setNew (by have := BX.out; omega) _⟩

set_option maxRecDepth 20000 in
set_option maxHeartbeats 2000000 in
theorem checked_ok (b : List UInt8) (hb : OwnB w (.slice ab q c) b 0) (hbq : b.length = q) (hq : q ≤ 65536) (hA : recN q ≤ A) :
    Calls Try.prog 91 #[.agg #[.int .i64 A, .slice av nv cv], .slice ab q c] w fun e w' => ∃ v', e = .returned (.tuple #[.agg #[.int .i64 A, v'], .int .i64 0]) ∧ RefL w' v' [.slice ab q c] [b] ∧ Fr (fun _ => False) w w' ∧ (∀ k, v'.ownBlock = some k → w.heap.size ≤ k) := by
  have HB := Lib.hid hb
  have hqi : ¬ (65536 : Int) < (q : Int) := by omega
  have BN := Lib.hid (blocksI_nat q)
  obtain ⟨m, hm⟩ : ∃ m, recN q = m := ⟨_, rfl⟩
  have HM := Lib.hid hm
  rw [hm] at hA
  have hAi : ¬ (A : Int) < (m : Int) := by omega
  clear hm hb hbq
  go_enter Try.func91, Try.ntmps91
  go_upto_region 3 with fail
  obtain ⟨W, hW⟩ : ∃ W, (w.alloc (.cells #[.int .i64 A, .slice av nv cv] 96)).alloc (.cells #[.int .i64 0, .slice none 0 0] 96) = W := ⟨_, rfl⟩
  obtain ⟨b2, hb2⟩ : ∃ b, w.heap.size = b := ⟨_, rfl⟩
  obtain ⟨b4, hb4⟩ : ∃ b, w.heap.size + 1 = b := ⟨_, rfl⟩
  have BX := Lib.hid (And.intro hb2 hb4)
  have F2 := Lib.hid (show Fr (fun _ => False) w W by rw [← hW]; exact ((Fr.refl _ w).alloc _).alloc _)
  have r2 : rowOf W b2 = #[.int .i64 A, .slice av nv cv] := by rw [← hW, ← hb2, rowOf_alloc_lt _ _ _ (by simp)]; exact rowOf_alloc_at _ _ _ _ _ rfl
  have r4 : rowOf W b4 = #[.int .i64 0, .slice none 0 0] := by rw [← hW, ← hb4]; exact rowOf_alloc_at _ _ _ _ _ (by simp)
  have l4 : live W b4 = true := by rw [← hW, ← hb4]; exact live_alloc_at _ _ _ _ (by simp)
  have S4 := Lib.hid (show W.heap.size = w.heap.size + 2 by rw [← hW]; simp)
  rw [hW]
  rw [hb4, hb2]
  clear hW hb2 hb4
  have lt2 : b2 < W.heap.size := by have := S4.out; have := BX.out; omega
  go_region_held3 (fun w' => rowOf w' b2 = #[.int .i64 A, .slice av nv cv])
    (first | assumption | (rw [rowOf_drew]; assumption))
    ((go_simp; go_at_call 46; refine (refBlocks_any _ (by omega) _).mono ?_; rintro e w' ⟨rfl, rfl⟩; rw [BN.out, HM.out]))
  all_goals
    go_upto_region 6 with fail
    obtain ⟨W6, hW6⟩ : ∃ W6, (W.alloc (.cells #[.int .i64 A, .slice none 0 0] 96)).drew = W6 := ⟨_, rfl⟩
    obtain ⟨b6, hb6⟩ : ∃ b, W.heap.size = b := ⟨_, rfl⟩
    have F6 := Lib.hid (show Fr (fun _ => False) W W6 by rw [← hW6]; exact ((Fr.refl _ W).alloc _).drew)
    have r6 : rowOf W6 b6 = #[.int .i64 A, .slice none 0 0] := by rw [← hW6, ← hb6, rowOf_drew]; exact rowOf_alloc_at _ _ _ _ _ rfl
    have l6 : live W6 b6 = true := by rw [← hW6, ← hb6, live_drew]; exact live_alloc_at _ _ _ _ rfl
    have l46 : live W6 b4 = true := (F6.out.liv (live_lt l4) (fun h => h)).trans l4
    have r46 : rowOf W6 b4 = #[.int .i64 0, .slice none 0 0] := (F6.out.row (live_lt l4) (fun h => h)).trans r4
    have n46 : b4 ≠ b6 := by have := live_lt l4; omega
    have S6 := Lib.hid (show b6 = W.heap.size from hb6.symm)
    have lt6 := live_lt l6
    have Z6 := Lib.hid (show W.heap.size ≤ W6.heap.size from F6.out.size)
    have Z4 := Lib.hid (live_lt l46)
    rw [hW6, hb6]
    clear hW6 hb6
    go_wp2_with (at_builtin; refine wpList_append_one rfl (.tmp 22) (.tmp 24) 29 rfl 36 _ 1 24 Try.underlying29 ti36 (.slice none 0 0) [] W6.heap.size rfl (OwnRows.nil _ _ _) (by simp) W6.heap.size 1 rfl #[.slice ab q c] (by simp [go_sem]) (by simp [go_sem]) (by intro y hy; simp at hy; subst hy; rfl) (by intro y hy; simp at hy) (by simp [maxLen]) (fitsN (by simp) (by omega)) ?_; intro g7 cap7 w7 ho7 f7 hn7; have HO7 := Lib.hid ho7; have F7 := Lib.hid f7; have N7 := Lib.hid hn7; have r67 := (f7.row (g := b6) (by simp; omega) (fun e => by cases e)).trans ((rowOf_alloc_lt W6 _ _ lt6).trans r6); have l67 := (f7.liv (g := b6) (by simp; omega) (fun e => by cases e)).trans ((live_alloc_lt W6 _ _ lt6).trans l6); have l47 := (f7.liv (g := b4) (by have := Z4.out; simp; omega) (fun e => by cases e)).trans ((live_alloc_lt W6 _ _ Z4.out).trans l46); have r47 := (f7.row (g := b4) (by have := Z4.out; simp; omega) (fun e => by cases e)).trans ((rowOf_alloc_lt W6 _ _ Z4.out).trans r46); clear ho7 f7 hn7)
    have FZ := Lib.hid (((F2.out.trans F6.out (fun _ _ h => h)).alloc (.cells #[.slice ab q c] 36)).trans F7.out (fun i hi e => by cases e))
    have FY := ((FZ.out.setNew (g := b6) (by have := S6.out; have := F2.out.size; omega) #[.int .i64 A, .slice (some ⟨g7, 0, none⟩) 1 cap7]).setNew (g := b4) (by have := BX.out; omega) #[.int .i64 A, .slice (some ⟨g7, 0, none⟩) 1 cap7])
    refine bodyPost_ret (results91 rfl rfl (rowOf_setRow_same _ _ _ (by rw [live_setRow]; exact l47))) rfl ⟨_, rfl, ?_, FY, ?_⟩
    · have HO8 := HO7.out
      have FX := ((Fr.refl (fun k => k = b6 ∨ k = b4) w7).setRow b6 #[.int .i64 A, .slice (some ⟨g7, 0, none⟩) 1 cap7] (fun _ => .inl rfl)).setRow b4 #[.int .i64 A, .slice (some ⟨g7, 0, none⟩) 1 cap7] (fun _ => .inr rfl)
      have hg7 := N7.out.resolve_left (fun e => by cases e)
      simp only [World.size_alloc] at hg7
      have z4 := Z4.out
      exact (RefL.nil w).snoc HB.out (HO8.keep FX (fun k hk e => by simp only [Value.ownBlock, Option.some.injEq] at hk; omega)) FY
    · intro k hk
      have hg7 := N7.out.resolve_left (fun e => by cases e)
      simp only [World.size_alloc] at hg7
      simp only [Value.ownBlock, Option.some.injEq] at hk
      have := F2.out.size
      have := Z6.out
      omega
end

/-! ### The document's log (keystoneref03): Appended, whole. -/
theorem RefL.cell {w : World} {a : Option Addr} {n c : Nat} {us : List Value} {R : List (List UInt8)} (h : RefL w (.slice a n c) us R) {k : Nat} (hk : k < us.length) :
    ∃ g ua l uc, a = some ⟨g, 0, none⟩ ∧ (rowOf w g)[k]? = some (.slice ua l uc) ∧ us[k] = .slice ua l uc := by
  have hl := h.ln
  rcases h.da with ⟨-, e⟩ | ⟨g, cap, e, b1, b2, ⟨b3, b3p⟩, b4, b5, b6⟩
  · simp at e; rw [e] at hk; simp at hk
  · simp only [List.length_map] at b3 b3p b6
    have c := b6 k hk
    have g0 := cut_get (cur := rowOf w g) (off := k * 1) (n := 1) (by omega) 0 (by omega)
    rw [c] at g0
    obtain ⟨ua, uc, e2⟩ := (h.el k hk (by omega)).shape
    simp only [Value.slice.injEq] at e
    refine ⟨g, ua, _, uc, e.1, ?_, e2⟩
    rw [← e2]
    simpa using g0.symm

section
variable (w : World) (A : Nat) (av : Option Addr) (nv cv : Nat) (ab : Option Addr) (q c : Nat) (R : List (List UInt8))

set_option maxRecDepth 20000 in
set_option maxHeartbeats 2000000 in
theorem appended_full (hv : ListAt w (.slice av nv cv) R) (hA2 : A ≤ 16384) (hs : sumN R ≤ A) (hR : ∀ b ∈ R, b.length ≤ 65536) (hq : q ≤ 65536) (hA : A - sumN R < recN q) :
    Calls Try.prog 90 #[.agg #[.int .i64 A, .slice av nv cv], .slice ab q c] w fun e w' => e = .returned (.tuple #[.agg #[.int .i64 A, .slice av nv cv], .int .i64 4]) ∧ Fr (fun _ => False) w w' := by
  have hqi : ¬ (65536 : Int) < (q : Int) := by omega
  have BN := Lib.hid (blocksI_nat q)
  obtain ⟨m, hm⟩ : ∃ m, recN q = m := ⟨_, rfl⟩
  have HM := Lib.hid hm
  obtain ⟨r, hr⟩ : ∃ r, A - sumN R = r := ⟨_, rfl⟩
  have ROOM := Lib.hid (show ∀ W, Fr (fun _ => False) w W → Calls Try.prog 60 #[.agg #[.int .i64 A, .slice av nv cv]] W fun e w' => e = .returned (.int .i64 (r : Nat)) ∧ Fr (fun _ => False) W w' from
    fun W f => by rw [← hr]; exact refRoom_any W A _ R (hv.keep0 f) hA2 hs hR)
  rw [hm, hr] at hA
  have hAi : (r : Int) < (m : Int) := by omega
  clear hm hr hv hs hR
  go_enter Try.func90, Try.ntmps90
  go_upto_region 3 with fail
  obtain ⟨W, hW⟩ : ∃ W, (w.alloc (.cells #[.int .i64 A, .slice av nv cv] 96)).alloc (.cells #[.int .i64 0, .slice none 0 0] 96) = W := ⟨_, rfl⟩
  obtain ⟨b2, hb2⟩ : ∃ b, w.heap.size = b := ⟨_, rfl⟩
  obtain ⟨b4, hb4⟩ : ∃ b, w.heap.size + 1 = b := ⟨_, rfl⟩
  have BX := Lib.hid (And.intro hb2 hb4)
  have F2 := Lib.hid (show Fr (fun _ => False) w W by rw [← hW]; exact ((Fr.refl _ w).alloc _).alloc _)
  have r2 : rowOf W b2 = #[.int .i64 A, .slice av nv cv] := by rw [← hW, ← hb2, rowOf_alloc_lt _ _ _ (by simp)]; exact rowOf_alloc_at _ _ _ _ _ rfl
  have r4 : rowOf W b4 = #[.int .i64 0, .slice none 0 0] := by rw [← hW, ← hb4]; exact rowOf_alloc_at _ _ _ _ _ (by simp)
  have l4 : live W b4 = true := by rw [← hW, ← hb4]; exact live_alloc_at _ _ _ _ (by simp)
  have S4 := Lib.hid (show W.heap.size = w.heap.size + 2 by rw [← hW]; simp)
  rw [hW]
  rw [hb4, hb2]
  clear hW hb2 hb4
  have lt2 : b2 < W.heap.size := by have := S4.out; have := BX.out; omega
  have lt4 := live_lt l4
  go_region_held3 (fun w' => rowOf w' b2 = #[.int .i64 A, .slice av nv cv])
    (first | assumption | (rw [rowOf_drew]; assumption))
    (first | (go_simp; go_at_call 46; refine (refBlocks_any _ (by omega) _).mono ?_; rintro e w' ⟨rfl, rfl⟩; rw [BN.out, HM.out]) | (go_simp; go_at_call 60; refine (ROOM.out _ F2.out.drew).mono ?_; rintro e w5 ⟨rfl, f5⟩; have F5 := Lib.hid f5; have k5 := (f5.row (g := b2) lt2 (fun h => h)).trans ((rowOf_drew _ _).trans r2); have r5 := (f5.row (g := b4) lt4 (fun h => h)).trans ((rowOf_drew _ _).trans r4); have l5 := (f5.liv (g := b4) lt4 (fun h => h)).trans ((live_drew _ _).trans l4); clear f5))
  all_goals
    go_wp2
    exact bodyPost_ret (results90 rfl rfl (rowOf_setRow_same _ _ _ l5)) rfl ⟨rfl, (F2.out.drew.trans F5.out (fun _ _ h => h)).setNew (by have := BX.out; omega) _⟩
set_option maxRecDepth 20000 in
set_option maxHeartbeats 2000000 in
theorem appended_ok (us : List Value) (b : List UInt8) (hv : RefL w (.slice av nv cv) us R) (hb : OwnB w (.slice ab q c) b 0) (hbq : b.length = q) (hA2 : A ≤ 16384) (hs : sumN R ≤ A) (hR : ∀ b ∈ R, b.length ≤ 65536) (hq : q ≤ 65536) (hA : recN q ≤ A - sumN R) :
    Calls Try.prog 90 #[.agg #[.int .i64 A, .slice av nv cv], .slice ab q c] w fun e w' => ∃ v', e = .returned (.tuple #[.agg #[.int .i64 A, v'], .int .i64 0]) ∧ RefL w' v' (us ++ [.slice ab q c]) (R ++ [b]) ∧ Fr (fun _ => False) w w' ∧ (∀ k, v'.ownBlock = some k → w.heap.size ≤ k) := by
  have HV := Lib.hid hv
  have HB := Lib.hid hb
  have hqi : ¬ (65536 : Int) < (q : Int) := by omega
  have BN := Lib.hid (blocksI_nat q)
  obtain ⟨m, hm⟩ : ∃ m, recN q = m := ⟨_, rfl⟩
  have HM := Lib.hid hm
  obtain ⟨r, hr⟩ : ∃ r, A - sumN R = r := ⟨_, rfl⟩
  have ROOM := Lib.hid (show ∀ W, Fr (fun _ => False) w W → Calls Try.prog 60 #[.agg #[.int .i64 A, .slice av nv cv]] W fun e w' => e = .returned (.int .i64 (r : Nat)) ∧ Fr (fun _ => False) W w' from
    fun W f => by rw [← hr]; exact refRoom_any W A _ R (hv.list.keep0 f) hA2 hs hR)
  rw [hm, hr] at hA
  have hAi : ¬ (r : Int) < (m : Int) := by omega
  have hdb : decide (r < m) = false := decide_eq_false (by omega)
  have hnR : nv = R.length := by
    obtain ⟨a', c', e⟩ := hv.list.shape
    simp only [Value.slice.injEq] at e; exact e.2.1
  have NR := Lib.hid hnR
  have LU := Lib.hid hv.ln
  have hL : nv ≤ 16384 := by have := sumN_ge R; omega
  clear hm hr hv hs hR hb hbq hnR
  go_enter Try.func90, Try.ntmps90
  go_upto_region 3 with fail
  obtain ⟨W, hW⟩ : ∃ W, (w.alloc (.cells #[.int .i64 A, .slice av nv cv] 96)).alloc (.cells #[.int .i64 0, .slice none 0 0] 96) = W := ⟨_, rfl⟩
  obtain ⟨b2, hb2⟩ : ∃ b, w.heap.size = b := ⟨_, rfl⟩
  obtain ⟨b4, hb4⟩ : ∃ b, w.heap.size + 1 = b := ⟨_, rfl⟩
  have BX := Lib.hid (And.intro hb2 hb4)
  have F2 := Lib.hid (show Fr (fun _ => False) w W by rw [← hW]; exact ((Fr.refl _ w).alloc _).alloc _)
  have r2 : rowOf W b2 = #[.int .i64 A, .slice av nv cv] := by rw [← hW, ← hb2, rowOf_alloc_lt _ _ _ (by simp)]; exact rowOf_alloc_at _ _ _ _ _ rfl
  have r4 : rowOf W b4 = #[.int .i64 0, .slice none 0 0] := by rw [← hW, ← hb4]; exact rowOf_alloc_at _ _ _ _ _ (by simp)
  have l4 : live W b4 = true := by rw [← hW, ← hb4]; exact live_alloc_at _ _ _ _ (by simp)
  have S4 := Lib.hid (show W.heap.size = w.heap.size + 2 by rw [← hW]; simp)
  rw [hW]
  rw [hb4, hb2]
  clear hW hb2 hb4
  have lt2 : b2 < W.heap.size := by have := S4.out; have := BX.out; omega
  have lt4 := live_lt l4
  go_region_held3 (fun w' => rowOf w' b2 = #[.int .i64 A, .slice av nv cv])
    (first | assumption | (rw [rowOf_drew]; assumption))
    (first | (go_simp; go_at_call 46; refine (refBlocks_any _ (by omega) _).mono ?_; rintro e w' ⟨rfl, rfl⟩; rw [BN.out, HM.out]) | (go_simp; go_at_call 60; refine (ROOM.out _ F2.out.drew).mono ?_; rintro e w5 ⟨rfl, f5⟩; have F5 := Lib.hid f5; have k5 := (f5.row (g := b2) lt2 (fun h => h)).trans ((rowOf_drew _ _).trans r2); have r5 := (f5.row (g := b4) lt4 (fun h => h)).trans ((rowOf_drew _ _).trans r4); have l5 := (f5.liv (g := b4) lt4 (fun h => h)).trans ((live_drew _ _).trans l4); clear f5))
  all_goals
    go_wp2_with fail
    obtain ⟨W6, hW6⟩ : ∃ W6, w5.alloc (.cells #[.int .i64 A, .slice none 0 0] 96) = W6 := ⟨_, rfl⟩
    obtain ⟨b6, hb6⟩ : ∃ b, w5.heap.size = b := ⟨_, rfl⟩
    have F56 := Lib.hid (show Fr (fun _ => False) w5 W6 by rw [← hW6]; exact (Fr.refl _ w5).alloc _)
    have F6 := Lib.hid ((F2.out.drew.trans F5.out (fun _ _ h => h)).trans F56.out (fun _ _ h => h))
    have R6 := Lib.hid (show rowOf W6 b6 = #[.int .i64 A, .slice none 0 0] ∧ live W6 b6 = true by rw [← hW6, ← hb6]; exact ⟨rowOf_alloc_at _ _ _ _ _ rfl, live_alloc_at _ _ _ _ rfl⟩)
    have B6 := Lib.hid (show w.heap.size + 2 ≤ b6 by have := F5.out.size; have := S4.out; simp at *; omega)
    have hb52 := Nat.lt_of_lt_of_le lt2 F5.out.size
    have hb54 := Nat.lt_of_lt_of_le lt4 F5.out.size
    have k6 := (F56.out.row (g := b2) hb52 (fun h => h)).trans k5
    have r46 := (F56.out.row (g := b4) hb54 (fun h => h)).trans r5
    have l46 := (F56.out.liv (g := b4) hb54 (fun h => h)).trans l5
    have K6 := Lib.hid k6
    have R46 := Lib.hid (And.intro r46 l46)
    rw [hW6, hb6]
    clear hW6 hb6 r5 l5 k5 r46 l46
    go_loopw [7] (fun i wr => ∃ (k : Nat) (vo : Value), k ≤ nv ∧ i = .int .i64 k ∧ rowOf wr b6 = #[.int .i64 A, vo] ∧ live wr b6 = true ∧ OwnRows wr vo 1 ((us.take k).map fun u => #[u]) W6.heap.size ∧ Fr (fun j => j = b6) W6 wr) (fun i _ => nv - (intOf i).toNat)
    case atStart => exact ⟨0, .slice none 0 0, Nat.zero_le _, rfl, R6.out.1, R6.out.2, by simpa using OwnRows.nil _ _ _, Fr.refl _ _⟩
    case round =>
      obtain ⟨k, vo, hk, rfl, r6, l6, oo, hf⟩ := hrel
      have OO := Lib.hid oo
      have HF := Lib.hid hf
      have b26 : b2 ≠ b6 := by have := B6.out; have := BX.out; omega
      have b46 : b4 ≠ b6 := by have := B6.out; have := BX.out; omega
      have hl2 : b2 < W6.heap.size := by have := F56.out.size; omega
      have hl4 : b4 < W6.heap.size := by have := F56.out.size; omega
      have kr := (hf.row hl2 b26).trans K6.out
      have lt6 := live_lt l6
      have n62 : b6 ≠ b2 := fun e => b26 e.symm
      clear oo hf
      by_cases hlt : k < nv
      · have hki : (k : Int) < (nv : Int) := by omega
        have hku : k < us.length := by rw [LU.out, ← NR.out]; exact hlt
        obtain ⟨g, ua, l, uc, rfl, c0, eu⟩ := HV.out.cell hku
        have hgw : g < w.heap.size := rowOf_lt (by obtain ⟨h, _⟩ := Array.getElem?_eq_some_iff.1 c0; omega)
        have gb6 : g ≠ b6 := by have := B6.out; omega
        have c1 := (congrArg (fun x : Array Value => x[k]?) ((HF.out.row (g := g) (Nat.lt_of_lt_of_le hgw F6.out.size) gb6).trans (F6.out.row hgw (fun h => h)))).trans c0
        have TS := Lib.hid (show ((us.take (k + 1)).map fun u => #[u]) = ((us.take k).map fun u => #[u]) ++ [#[.slice ua l uc]] by
          rw [List.take_succ_eq_append_getElem hku, List.map_append, eu]; rfl)
        have LT := Lib.hid (show ((us.take k).map fun u => (#[u] : Array Value)).length = k by rw [List.length_map, List.length_take]; omega)
        have W66 := Lib.hid (live_lt R6.out.2)
        have SZ1 := Lib.hid (show ∀ y ∈ ((us.take k).map fun u => (#[u] : Array Value)), y.size = 1 from fun y hy => by obtain ⟨u, _, rfl⟩ := List.mem_map.1 hy; rfl)
        have HFS := Lib.hid HF.out.size
        clear c0 eu
        go_wp2_with fail
        go_region_law ((refine step_append_one (o := ⟨some 37, _, _, _, _, _⟩) rfl (.tmp 30) (.tmp 36) 29 rfl 36 _ 1 24 Try.underlying29 ti36 vo ((us.take k).map fun u => #[u]) W6.heap.size rfl (OO.out.keep (((Fr.refl (fun _ => False) wr).alloc _).drew) (fun _ _ h => h)) (by have := HFS.out; simp; omega) wr.heap.size 1 rfl #[.slice ua l uc] (by simp [go_sem]) (by simp [go_sem]) (by intro y hy; simp at hy; subst hy; rfl) SZ1.out (by rw [LT.out]; simp only [maxLen]; omega) (fitsN (by rw [LT.out]; omega) (by omega)) ?_; intro g7 cap7 w7 ho7 f7 hn7; have HO7 := Lib.hid ho7; have F7 := Lib.hid f7; have N7 := Lib.hid hn7; have no6 : ¬ vo.ownBlock = some b6 := (fun e => by have := (OO.out.lt e).1; have := W66.out; omega); have r67 := (f7.row (g := b6) (by simp; omega) no6).trans ((rowOf_drew _ _).trans ((rowOf_alloc_lt wr _ _ lt6).trans r6)); have l67 := (f7.liv (g := b6) (by simp; omega) no6).trans ((live_drew _ _).trans ((live_alloc_lt wr _ _ lt6).trans l6)); clear ho7 f7 hn7))
        all_goals
          go_wp2
          go_roundw
          case rel =>
            have HO8 := HO7.out
            rw [← TS.out, LT.out] at HO8
            rw [show min k us.length = k by omega]
            have FX := (Fr.refl (fun j => j = b6) w7).setRow b6 #[.int .i64 A, .slice (some ⟨g7, 0, none⟩) (k + 1) cap7] (fun _ => rfl)
            have n76 : g7 ≠ b6 := fun e => by
              rcases N7.out with h | h
              · exact no6 (e ▸ h)
              · simp at h; omega
            refine ⟨k + 1, _, by omega, by go_num, rowOf_setRow_same _ _ _ l67, by rw [live_setRow]; exact l67, HO8.keep FX (fun j hj e => by simp only [Value.ownBlock, Option.some.injEq] at hj; omega), ?_⟩
            exact ((HF.out.trans (((Fr.refl (fun _ => False) wr).alloc (.cells #[.slice ua l uc] 36)).drew) (fun _ _ h => h.elim)).trans F7.out (fun j hj e => by have := (OO.out.lt e).1; omega)).trans FX (fun _ _ h => h)
          case measure => simp [intOf]; omega
      · obtain rfl : k = nv := by omega
        have e1 : us.take k = us := List.take_of_length_le (by rw [LU.out, ← NR.out]; exact Nat.le_refl _)
        rw [e1] at OO
        have LT := Lib.hid (show (us.map fun u => (#[u] : Array Value)).length = k by rw [List.length_map, LU.out, ← NR.out])
        have W66 := Lib.hid (live_lt R6.out.2)
        have SZ1 := Lib.hid (show ∀ y ∈ (us.map fun u => (#[u] : Array Value)), y.size = 1 from fun y hy => by obtain ⟨u, _, rfl⟩ := List.mem_map.1 hy; rfl)
        have HFS := Lib.hid HF.out.size
        have r4r := (HF.out.row hl4 b46).trans R46.out.1
        have l4r := (HF.out.liv hl4 b46).trans R46.out.2
        have ltr4 := live_lt l4r
        have no6 : ¬ vo.ownBlock = some b6 := fun e => by have := (OO.out.lt e).1; have := W66.out; omega
        have no4 : ¬ vo.ownBlock = some b4 := fun e => by have := (OO.out.lt e).1; omega
        clear e1
        go_wp2_with (at_builtin; refine wpList_append_one rfl (.tmp 40) (.tmp 42) 29 rfl 36 _ 1 24 Try.underlying29 ti36 vo (us.map fun u => #[u]) W6.heap.size rfl (OO.out.keep ((Fr.refl (fun _ => False) wr).alloc _) (fun _ _ h => h)) (by have := HFS.out; simp; omega) wr.heap.size 1 rfl #[.slice ab q c] (by simp [go_sem]) (by simp [go_sem]) (by intro y hy; simp at hy; subst hy; rfl) SZ1.out (by rw [LT.out]; simp only [maxLen]; omega) (fitsN (by rw [LT.out]; omega) (by omega)) ?_; intro g7 cap7 w7 ho7 f7 hn7; have HO7 := Lib.hid ho7; have F7 := Lib.hid f7; have N7 := Lib.hid hn7; have r67 := (f7.row (g := b6) (by simp; omega) no6).trans ((rowOf_alloc_lt wr _ _ lt6).trans r6); have l67 := (f7.liv (g := b6) (by simp; omega) no6).trans ((live_alloc_lt wr _ _ lt6).trans l6); have r47 := (f7.row (g := b4) (by simp; omega) no4).trans ((rowOf_alloc_lt wr _ _ ltr4).trans r4r); have l47 := (f7.liv (g := b4) (by simp; omega) no4).trans ((live_alloc_lt wr _ _ ltr4).trans l4r); have n64 : b6 ≠ b4 := (fun e => b46 e.symm); clear ho7 f7 hn7)
        have FZ := Lib.hid (((F6.out.trans HF.out (fun i hi e => by have := B6.out; omega)).alloc (.cells #[.slice ab q c] 36)).trans F7.out (fun i hi e => by have := (OO.out.lt e).1; have := F6.out.size; omega))
        have FY := ((FZ.out.setNew (g := b6) (by have := B6.out; omega) #[.int .i64 A, .slice (some ⟨g7, 0, none⟩) (us.length + 1) cap7]).setNew (g := b4) (by have := BX.out; omega) #[.int .i64 A, .slice (some ⟨g7, 0, none⟩) (us.length + 1) cap7])
        have ng7 : g7 ≠ b6 ∧ g7 ≠ b4 ∧ w.heap.size ≤ g7 := by
          rcases N7.out with h | h
          · have := (OO.out.lt h).1
            have := F6.out.size
            exact ⟨fun e => no6 (e ▸ h), fun e => no4 (e ▸ h), by omega⟩
          · simp at h
            have := F6.out.size
            have := HFS.out
            exact ⟨by omega, by omega, by omega⟩
        refine bodyPost_ret (results90 rfl rfl (rowOf_setRow_same _ _ _ (by rw [live_setRow]; exact l47))) rfl ⟨_, rfl, ?_, FY, fun j hj => ?_⟩
        · have HO8 := HO7.out
          rw [List.length_map] at HO8
          have FX := ((Fr.refl (fun k => k = b6 ∨ k = b4) w7).setRow b6 #[.int .i64 A, .slice (some ⟨g7, 0, none⟩) (us.length + 1) cap7] (fun _ => .inl rfl)).setRow b4 #[.int .i64 A, .slice (some ⟨g7, 0, none⟩) (us.length + 1) cap7] (fun _ => .inr rfl)
          refine HV.out.snoc HB.out (base := W6.heap.size) ?_ FY
          rw [List.map_append]
          exact HO8.keep FX (fun j hj e => by simp only [Value.ownBlock, Option.some.injEq] at hj; omega)
        · simp only [Value.ownBlock, Option.some.injEq] at hj
          omega
end

end Go.Proofs.Ytflnlpbcmcfblaa
