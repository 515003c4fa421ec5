/-
  Package log: Open of a disk that is on.
-/
import Derived.Test.YtflnlpbcmcfblaaReadL
namespace Go.Proofs.Ytflnlpbcmcfblaa
open Go.RowKit

set_option maxHeartbeats 400000 in
theorem begin_any (w : World) (bl d : Nat) (h : HeadV) (slot size used records : Nat) (over : Bool) (bm ar : Nat) (hrow : rowOf w bl = logRow d h slot size used records over bm) (ha : ar ≤ 1) (hs : size ≤ 16384) :
    Calls Try.prog 81 #[.pointer (some ⟨bl, 0, none⟩), .int .i64 ar] w fun e w' => e = .returned (.int .i64 (2 + ar * size : Nat)) ∧ w = w' := by
  unfold logRow at hrow
  have h1 : ar * size ≤ 1 * 16384 := Nat.mul_le_mul ha hs
  obtain ⟨m, hm⟩ : ∃ m, ar * size = m := ⟨_, rfl⟩
  have hmi : (ar : Int) * (size : Int) = (m : Int) := by rw [← hm]; simp
  rw [hm] at h1 ⊢
  go_enter Try.func81, Try.ntmps81
  go_wp2
  go_ret
  exact ⟨by simp, rfl⟩

/-- Which head counts, of the first k blocks. -/
def headPick (all : List (List UInt8)) : Nat → Option (Nat × HeadV)
  | 0 => none
  | k + 1 =>
    match headPick all k with
    | none => if rhIs (at_ all k) then some (k, rhV (at_ all k)) else none
    | some (s, h) => if rhIs (at_ all k) && decide (h.turn < (rhV (at_ all k)).turn) then some (k, rhV (at_ all k)) else some (s, h)

theorem AllAt.cut {w : World} {g off n cap : Nat} {all : List (List UInt8)} {base : Nat} (h : AllAt w (.slice (some ⟨g, off, none⟩) n cap) all base) (B m : Nat) (hm : B + m ≤ all.length) :
    AllAt w (.slice (some ⟨g, off + B, none⟩) m (cap - B)) ((all.drop B).take m) base := by
  obtain ⟨g', off', cap', e, h1, h2, h3, h4⟩ := h
  simp only [Value.slice.injEq, Option.some.injEq, Addr.mk.injEq, and_true] at e
  obtain ⟨⟨rfl, rfl⟩, rfl, rfl⟩ := e
  have hl : ((all.drop B).take m).length = m := by rw [List.length_take, List.length_drop]; omega
  refine ⟨g, off + B, cap - B, by rw [hl], by omega, h2, by omega, fun i hi => ?_⟩
  rw [hl] at hi
  obtain ⟨u, a1, a2⟩ := h4 (B + i) (by omega)
  refine ⟨u, by rw [← a1, Nat.add_assoc], ?_⟩
  simpa using a2

theorem life_free (all : List (List UInt8)) (a : Nat) : lifeCnt all (freeFrom (lifeCnt all) all.length a) = 0 :=
  freeFrom_free all (fun b => (rmV b).life) rmIs all.length a (some_free all (fun b => (rmV b).life) rmIs a)
theorem gen_free (all : List (List UInt8)) (a : Nat) : genCnt all (freeFrom (genCnt all) all.length a) = 0 :=
  freeFrom_free all (fun b => (rmV b).gen) rmIs all.length a (some_free all (fun b => (rmV b).gen) rmIs a)

def pick1 (o : Option (Nat × HeadV)) (k : Nat) (is : Bool) (x : HeadV) : Option (Nat × HeadV) :=
  match o with
  | none => if is then some (k, x) else none
  | some (s, h) => if is && decide (h.turn < x.turn) then some (k, x) else some (s, h)
theorem headPick_succ (all : List (List UInt8)) (k : Nat) : headPick all (k + 1) = pick1 (headPick all k) k (rhIs (at_ all k)) (rhV (at_ all k)) := rfl

theorem rh_lt (b : List UInt8) : (rhV b).turn < 18446744073709551616 ∧ (rhV b).life < 18446744073709551616 ∧ (rhV b).gen < 18446744073709551616 ∧ (rhV b).area < 256 := by
  unfold rhV
  have h1 := le_cut_lt b 1 8
  have h2 := le_cut_lt b 9 8
  have h3 := le_cut_lt b 17 8
  have h4 := le_cut_lt b 25 1
  split
  · simp only; omega
  · simp

theorem headPick_ok {all : List (List UInt8)} : ∀ {k : Nat} {s : Nat} {h : HeadV}, headPick all k = some (s, h) → s < k ∧ rhIs (at_ all s) = true ∧ h = rhV (at_ all s)
  | 0, s, h, e => by simp [headPick] at e
  | k + 1, s, h, e => by
    unfold headPick at e
    cases hp : headPick all k with
    | none =>
      rw [hp] at e
      simp only at e
      split at e
      · rename_i hi
        simp only [Option.some.injEq, Prod.mk.injEq] at e
        obtain ⟨rfl, rfl⟩ := e
        exact ⟨by omega, hi, rfl⟩
      · cases e
    | some x =>
      obtain ⟨s1, h1⟩ := x
      have ih := headPick_ok hp
      rw [hp] at e
      simp only at e
      split at e
      · rename_i hi
        simp only [Bool.and_eq_true] at hi
        simp only [Option.some.injEq, Prod.mk.injEq] at e
        obtain ⟨rfl, rfl⟩ := e
        exact ⟨by omega, hi.1, rfl⟩
      · simp only [Option.some.injEq, Prod.mk.injEq] at e
        obtain ⟨rfl, rfl⟩ := e
        exact ⟨by omega, ih.2.1, ih.2.2⟩

theorem rhIs_lt {b : List UInt8} (h : rhIs b = true) : (rhV b).turn < 18446744073709551616 ∧ (rhV b).life < 1099511627776 ∧ (rhV b).gen < 1099511627776 ∧ (rhV b).area ≤ 1 := by
  unfold rhIs at h
  simp only [Bool.and_eq_true, decide_eq_true_eq] at h
  exact ⟨(rh_lt b).1, h.1.2, h.2, h.1.1.2⟩

def DS.oSize (S : DS) : Nat := (S.data.length - 2) / 2
def DS.oArea (S : DS) (h : HeadV) : List (List UInt8) := (S.reads.drop (2 + h.area * S.oSize)).take S.oSize
def DS.oRead (S : DS) (h : HeadV) : List (List UInt8) × Nat := readFrom (S.oArea h) h.gen S.oSize 0 0
def DS.oLife (S : DS) (h : HeadV) : Nat := freeFrom (lifeCnt S.reads) S.data.length (h.life + 1)
def DS.oHead (S : DS) (h : HeadV) : HeadV := ⟨(h.turn + 1) % 18446744073709551616, S.oLife h, h.gen, h.area⟩
def DS.oDone (S : DS) (s : Nat) (h : HeadV) : Int × DS := S.writeSeq ((1 - s : Nat) : Int) [headB (S.oHead h)]

/-- What a log's struct says. -/
structure LogV where
  h : HeadV
  slot : Nat
  size : Nat
  used : Nat
  records : Nat
  over : Bool

structure LogAt (w : World) (p : DP) (bl bm : Nat) (V : LogV) (n : Nat) (cnt : Nat → Nat) : Prop where
  row : rowOf w bl = logRow p.d V.h V.slot V.size V.used V.records V.over bm
  liv : live w bl = true
  map : Cnt w bm n cnt
  nb : ¬ p.foot bl
  nm : ¬ p.foot bm
  ne : bl ≠ bm

/-- A block of told records. -/
def recsFoot (vr : Value) (us : List Value) (k : Nat) : Prop := vr.ownBlock = some k ∨ ∃ u ∈ us, u.ownBlock = some k

theorem Recs.foot_lt {w : World} {v : Value} {us : List Value} {recs : List (List UInt8)} {base k : Nat} (h : Recs w v us recs base) (hk : recsFoot v us k) : base ≤ k ∧ k < w.heap.size := by
  rcases hk with hk | ⟨u, hu, hk⟩
  · exact h.da.lt hk
  · obtain ⟨i, hi, rfl⟩ := List.getElem_of_mem hu
    exact (h.el i hi (by have := h.ln; omega)).lt hk

theorem OwnRows.lower {w : World} {v : Value} {size : Nat} {xs : List (Array Value)} {base base' : Nat} (h : OwnRows w v size xs base) (hb : base' ≤ base) : OwnRows w v size xs base' := by
  rcases h with h | ⟨g, cap, h0, h1, h2⟩
  · exact .inl h
  · exact .inr ⟨g, cap, h0, by omega, h2⟩
theorem Recs.weaken {w : World} {v : Value} {us : List Value} {recs : List (List UInt8)} {base base' : Nat} (h : Recs w v us recs base) (hb : base' ≤ base) : Recs w v us recs base' :=
  ⟨h.da.lower hb, h.ln, fun i h1 h2 => (h.el i h1 h2).weaken hb, h.ne, h.pw⟩

/-- What Open answers. -/
def OpenPost (w0 w : World) (p : DP) (S : DS) (o : Option (Nat × HeadV)) (e : Ending) (w' : World) : Prop :=
  match o with
  | none => e = .returned (.tuple #[.pointer none, .slice none 0 0, .int .i64 30]) ∧ St w0 w' p S ∧ Fr (fun _ => False) w w'
  | some (s, h) => ∃ p', p'.d = p.d ∧ St w0 w' p' (S.oDone s h).2 ∧ Moves p.foot p'.foot w w' ∧
      if (S.oDone s h).1 = 0 then ∃ bl vr us bm, e = .returned (.tuple #[.pointer (some ⟨bl, 0, none⟩), vr, .int .i64 0]) ∧ Recs w' vr us (S.oRead h).1 w.heap.size ∧ (∀ k, recsFoot vr us k → ¬ p'.foot k ∧ k ≠ bl ∧ k ≠ bm) ∧
        LogAt w' p' bl bm ⟨S.oHead h, s, S.oSize, (S.oRead h).2, (S.oRead h).1.length, false⟩ S.data.length (genCnt S.reads) ∧ w.heap.size ≤ bl ∧ w.heap.size ≤ bm
      else e = .returned (.tuple #[.pointer none, .slice none 0 0, .int .i64 (S.oDone s h).1])

set_option maxRecDepth 20000 in
set_option maxHeartbeats 4000000 in
theorem open_any (w0 w : World) (p : DP) (S : DS) (h : St w0 w p S) (hn : 6 ≤ S.data.length) (ho : S.off = false) (hm : S.pend.length ≤ 1099511627776) :
    Calls Try.prog 47 #[.pointer (some ⟨p.d, 0, none⟩)] w fun e w' => OpenPost w0 w p S (headPick S.reads 2) e w' := by
  have H := Lib.hid h
  have HM := Lib.hid hm
  have n1 := h.rep.ok.n1
  have LK := Lib.hid (look_ok w p S h.rep hn ho)
  have RL := Lib.hid (reads_len S)
  obtain ⟨n, hnn⟩ : ∃ n, S.data.length = n := ⟨_, rfl⟩
  have HN := Lib.hid hnn
  rw [hnn] at hn n1 RL
  have HNE := Lib.hid (show S.reads ≠ [] from fun e => by have := RL.out; rw [e] at this; simp at this; omega)
  clear h hm hnn ho
  go_enter Try.func47, Try.ntmps47
  go_wp2_with fail
  refine LK.out.mono ?_
  rintro e w1 ⟨v1, rfl, a1, f1⟩
  have A1 := Lib.hid a1
  have F1 := Lib.hid f1
  obtain ⟨g1, off1, cap1, hv1, hcap, hbase, hsz, -⟩ := a1
  rw [RL.out] at hv1 hcap
  subst hv1
  clear f1
  obtain ⟨W1, hW1⟩ : ∃ W1, w1.alloc (.cells #[.int .u64 0, .int .u64 0, .int .u64 0, .int .i64 0] 89) = W1 := ⟨_, rfl⟩
  obtain ⟨b8, hb8⟩ : ∃ b8, w1.heap.size = b8 := ⟨_, rfl⟩
  have HB := Lib.hid (And.intro hW1 hb8)
  have Q1 := Lib.hid (show Fr (fun _ => False) w1 W1 ∧ rowOf W1 b8 = headA ⟨0, 0, 0, 0⟩ ∧ live W1 b8 = true by
    rw [← hW1, ← hb8]
    exact ⟨(Fr.refl _ w1).alloc _, rowOf_alloc_at _ _ _ _ _ rfl, live_alloc_at _ _ _ _ rfl⟩)
  clear hW1 hb8
  go_upto_region 6 with fail
  rw [HB.out.1, HB.out.2]
  have HT0 := Lib.hid (show (0 : Nat) < 18446744073709551616 by decide)
  go_wp2
  go_loopw [7, 9, 10, 11, 26] (fun sl _ _ _ i wr => ∃ (k : Nat) (hv : HeadV), k ≤ 2 ∧ i = .int .i64 k ∧ rowOf wr b8 = headA hv ∧ live wr b8 = true ∧ Fr (fun _ => False) w1 wr ∧ ((Hid (headPick S.reads k = none) ∧ sl = .int .i64 (-1)) ∨ ∃ s : Nat, Hid (headPick S.reads k = some (s, hv)) ∧ s < 2 ∧ sl = .int .i64 s)) (fun _ _ _ _ i _ => 2 - (intOf i).toNat)
  case atStart => exact ⟨0, ⟨0, 0, 0, 0⟩, by omega, rfl, Q1.out.2.1, Q1.out.2.2, Q1.out.1, .inl ⟨Lib.hid rfl, rfl⟩⟩
  case round =>
    obtain ⟨k, ⟨ht, hl, hg, ha⟩, hk, rfl, hrow, hlv, hf, hpick⟩ := hrel
    unfold headA at hrow
    simp only at hrow
    have HF := Lib.hid hf
    have hbl := live_lt hlv
    clear hf
    by_cases hlt : k < 2
    · have hki : (k : Int) < 2 := by omega
      have hkl : k < S.reads.length := by rw [RL.out]; omega
      have hkn : k < n := by omega
      have hkc : k < cap1 := by omega
      obtain ⟨g', off', cap', e, -, -, hsz', hcells⟩ := (show AllAt w1 _ S.reads w.heap.size from A1.out).keep HF.out (fun _ _ _ h => h) HNE.out
      simp only [Value.slice.injEq, Option.some.injEq, Addr.mk.injEq, and_true] at e
      obtain ⟨⟨rfl, rfl⟩, -, rfl⟩ := e
      obtain ⟨u, c0, ou⟩ := hcells k hkl
      have OU := Lib.hid ou
      have AT := Lib.hid (show S.reads[k] = at_ S.reads k by unfold at_; rw [List.getD, List.getElem?_eq_getElem hkl]; rfl)
      rw [AT.out] at OU
      clear hcells ou hsz'
      go_wp2_with fail
      refine (readHead_any _ u _ w.heap.size OU.out).mono ?_
      rintro e w4 ⟨rfl, f4⟩
      have ST := Lib.hid (headPick_succ S.reads k)
      obtain ⟨is, his⟩ : ∃ is, rhIs (at_ S.reads k) = is := ⟨_, rfl⟩
      obtain ⟨x, hx⟩ : ∃ x, rhV (at_ S.reads k) = x := ⟨_, rfl⟩
      rw [his, hx] at ST ⊢
      clear his hx
      obtain ⟨xt, xl, xg, xa⟩ := x
      unfold headA
      simp only
      obtain ⟨W5, hW5⟩ : ∃ W5, w4.alloc (.cells #[.int .u64 xt, .int .u64 xl, .int .u64 xg, .int .i64 xa] 89) = W5 := ⟨_, rfl⟩
      obtain ⟨b10, hb10⟩ : ∃ b, w4.heap.size = b := ⟨_, rfl⟩
      have HB5 := Lib.hid (And.intro hW5 hb10)
      have Q5 := Lib.hid (show Fr (fun _ => False) wr W5 ∧ rowOf W5 b10 = #[.int .u64 xt, .int .u64 xl, .int .u64 xg, .int .i64 xa] ∧ b8 ≠ b10 by
        have := f4.size
        rw [← hW5, ← hb10]
        exact ⟨f4.alloc _, rowOf_alloc_at _ _ _ _ _ rfl, by omega⟩)
      have r8 := (Q5.out.1.row hbl (fun h => h)).trans hrow
      have l8 := (Q5.out.1.liv hbl (fun h => h)).trans hlv
      have r10 := Q5.out.2.1
      have n8 := Q5.out.2.2
      clear hW5 hb10 f4
      go_upto_region 10 with fail
      rw [HB5.out.1, HB5.out.2]
      rcases hpick with ⟨hp, rfl⟩ | ⟨sl, hp, hsl, rfl⟩
      · rw [hp.out] at ST
        cases is with
        | true =>
          have ST2 := Lib.hid (show headPick S.reads (k + 1) = some (k, ⟨xt, xl, xg, xa⟩) from ST.out)
          go_upto_region 11 with fail
          go_region
          all_goals
            go_wp2
            go_roundw
            case rel => exact ⟨k + 1, ⟨xt, xl, xg, xa⟩, by omega, by go_num, by rw [rowOf_drew]; exact rowOf_setRow_same _ _ _ l8, by rw [live_drew, live_setRow]; exact l8, ((HF.out.trans Q5.out.1 (fun _ _ h => h)).setNew (g := b8) (by have := HB.out.2; omega) _).drew, .inr ⟨_, ST2, by omega, rfl⟩⟩
            case measure => simp [intOf]; omega
        | false =>
          have ST2 := Lib.hid (show headPick S.reads (k + 1) = none from ST.out)
          go_wp2
          go_roundw
          case rel => exact ⟨k + 1, ⟨ht, hl, hg, ha⟩, by omega, by go_num, r8, l8, HF.out.trans Q5.out.1 (fun _ _ h => h), .inl ⟨ST2, rfl⟩⟩
          case measure => simp [intOf]; omega
      · rw [hp.out] at ST
        by_cases hc : is = true ∧ ht < xt
        · obtain ⟨rfl, hc⟩ := hc
          have hci : (ht : Int) < (xt : Int) := by omega
          have ST2 := Lib.hid (show headPick S.reads (k + 1) = some (k, ⟨xt, xl, xg, xa⟩) by rw [ST.out]; simp [pick1, hc])
          go_upto_region 11 with fail
          go_region
          all_goals
            go_wp2
            go_roundw
            case rel => exact ⟨k + 1, ⟨xt, xl, xg, xa⟩, by omega, by go_num, by rw [rowOf_drew]; exact rowOf_setRow_same _ _ _ l8, by rw [live_drew, live_setRow]; exact l8, ((HF.out.trans Q5.out.1 (fun _ _ h => h)).setNew (g := b8) (by have := HB.out.2; omega) _).drew, .inr ⟨_, ST2, by omega, rfl⟩⟩
            case measure => simp [intOf]; omega
        · have ST2 := Lib.hid (show headPick S.reads (k + 1) = some (sl, ⟨ht, hl, hg, ha⟩) by
            rw [ST.out]
            show (if (is && decide (ht < xt)) = true then _ else _) = _
            rw [if_neg (by simpa using hc)])
          cases is with
          | true =>
            have hci : ¬ (ht : Int) < (xt : Int) := fun e => hc ⟨rfl, by omega⟩
            go_wp2
            go_roundw
            case rel => exact ⟨k + 1, ⟨ht, hl, hg, ha⟩, by omega, by go_num, r8, l8, HF.out.trans Q5.out.1 (fun _ _ h => h), .inr ⟨_, ST2, by omega, rfl⟩⟩
            case measure => simp [intOf]; omega
          | false =>
            go_wp2
            go_roundw
            case rel => exact ⟨k + 1, ⟨ht, hl, hg, ha⟩, by omega, by go_num, r8, l8, HF.out.trans Q5.out.1 (fun _ _ h => h), .inr ⟨_, ST2, by omega, rfl⟩⟩
            case measure => simp [intOf]; omega
    · obtain rfl : k = 2 := by omega
      rcases hpick with ⟨hp, rfl⟩ | ⟨sl, hp, hsl, rfl⟩
      · go_wp2
        go_ret3
        rw [hp.out]
        exact ⟨rfl, H.out.calm (F1.out.trans HF.out (fun _ _ h => h)) (fun _ h => h.elim), F1.out.trans HF.out (fun _ _ h => h)⟩
      · have HPK := Lib.hid (headPick_ok hp.out)
        have BND := Lib.hid (show ht < 18446744073709551616 ∧ hl < 1099511627776 ∧ hg < 1099511627776 ∧ ha ≤ 1 by
          have h1 := rhIs_lt HPK.out.2.1
          rw [← HPK.out.2.2] at h1; exact h1)
        have hsli : ¬ (sl : Int) < 0 := by omega
        go_wp2_with fail
        refine (taken_any wr _ S.reads w.heap.size (A1.out.keep HF.out (fun _ _ _ h => h) HNE.out) HNE.out (by rw [RL.out]; exact n1)).mono ?_
        rintro e w5 ⟨b1, b2, rfl, c1, c2, hb1, hb2, h12, f5⟩
        have C1 := Lib.hid c1
        have C2 := Lib.hid c2
        have F5 := Lib.hid f5
        have r5 := (f5.row hbl (fun h => h)).trans hrow
        have l5 := (f5.liv hbl (fun h => h)).trans hlv
        clear c1 c2 f5
        obtain ⟨m, hmm⟩ : ∃ m, (n - 2) / 2 = m := ⟨_, rfl⟩
        have MM := Lib.hid (show S.oSize = m by unfold DS.oSize; rw [HN.out]; exact hmm)
        have e1 : ((1 - sl : Nat) : Int) = 1 - (sl : Int) := by omega
        have e2 : (m : Int) = ((n : Int) - 2) / 2 := by omega
        have hm2 : 2 + 2 * m ≤ n ∧ 2 ≤ m := by omega
        obtain ⟨sl', hsl'⟩ : ∃ x, 1 - sl = x := ⟨_, rfl⟩
        rw [hsl'] at e1
        obtain ⟨W6, hW6⟩ : ∃ W6, w5.alloc (.cells #[.pointer (some ⟨p.d, 0, none⟩), .int .u64 ht, .int .u64 hl, .int .u64 hg, .int .i64 ha, .int .i64 (1 - (sl : Int)), .int .i64 (((n : Int) - 2) / 2), .int .i64 0, .int .i64 0, .bool false, .map (some b2)] 92) = W6 := ⟨_, rfl⟩
        obtain ⟨bl, hbl9⟩ : ∃ b, w5.heap.size = b := ⟨_, rfl⟩
        have HB6 := Lib.hid (And.intro hW6 hbl9)
        have hb85 := live_lt l5
        have F6 := Lib.hid (show Fr (fun _ => False) w5 W6 by rw [← hW6]; exact (Fr.refl _ w5).alloc _)
        have R6 := Lib.hid (show rowOf W6 bl = logRow p.d ⟨ht, hl, hg, ha⟩ sl' m 0 0 false b2 ∧ live W6 bl = true by
          rw [← hW6, ← hbl9]
          unfold logRow
          simp only
          rw [e1, e2]
          exact ⟨rowOf_alloc_at _ _ _ _ _ rfl, live_alloc_at _ _ _ _ rfl⟩)
        have r6 := (F6.out.row hb85 (fun h => h)).trans r5
        have b8bl : b8 ≠ bl := by omega
        have SL := Lib.hid hsl'
        clear hW6 hbl9 l5 hsl' e1 e2 hmm
        go_upto_region 17 with fail
        rw [HB6.out.1, HB6.out.2]
        clear r5
        go_wp2_with fail
        refine (begin_any W6 bl p.d ⟨ht, hl, hg, ha⟩ sl' m 0 0 false b2 ha R6.out.1 BND.out.2.2.2 (by omega)).mono ?_
        rintro e w6 ⟨rfl, rfl⟩
        obtain ⟨B, hB⟩ : ∃ B, 2 + ha * m = B := ⟨_, rfl⟩
        have HBB := Lib.hid hB
        have hBm : B + m ≤ n := by
          have := Nat.mul_le_mul_right m BND.out.2.2.2
          omega
        rw [hB]
        clear hB
        have R6r := Lib.hid R6.out.1
        have r7 := R6.out.1
        unfold logRow at r7
        simp only at r7
        have hx1 : ((B : Int) + (m : Int)) ≤ (cap1 : Int) := by omega
        have hx2 : (B : Int) ≤ (B : Int) + (m : Int) := by omega
        go_wp2_with fail
        have AR := Lib.hid (show S.oArea ⟨ht, hl, hg, ha⟩ = (S.reads.drop B).take m by unfold DS.oArea; rw [MM.out, HBB.out])
        have F15 := Lib.hid (HF.out.trans F5.out (fun _ _ h => h))
        have CUT := Lib.hid (((show AllAt w1 (.slice (some ⟨g1, off1, none⟩) n cap1) S.reads w.heap.size from A1.out).keep F15.out (fun _ _ _ h => h) HNE.out).cut B m (by rw [RL.out]; exact hBm))
        obtain ⟨area, har⟩ : ∃ area, (S.reads.drop B).take m = area := ⟨_, rfl⟩
        have LA := Lib.hid (show area.length = m by rw [← har, List.length_take, List.length_drop, RL.out]; omega)
        rw [har] at AR CUT
        clear har
        have RA := readL_any w5 W6 bl p.d ht hl hg ha sl' m false b2 (.slice (some ⟨g1, off1 + B, none⟩) m (cap1 - B)) area w.heap.size R6.out.1 R6.out.2 CUT.out F6.out (fun e => by have := LA.out; rw [e] at this; simp at this; omega) (by rw [LA.out]; omega) (by have := HB6.out.2; omega)
        rw [LA.out] at RA
        have RAH := Lib.hid RA
        clear RA hx1 hx2 hBm
        refine RAH.out.mono ?_
        rintro e w7 ⟨vr, us, rfl, rs, rw7, lv7, f7⟩
        obtain ⟨RD, hRD⟩ : ∃ RD, readFrom area hg m 0 0 = RD := ⟨_, rfl⟩
        have ORD := Lib.hid (show S.oRead ⟨ht, hl, hg, ha⟩ = RD by unfold DS.oRead; rw [AR.out, MM.out]; exact hRD)
        rw [hRD] at rs rw7
        clear hRD
        have RS := Lib.hid rs
        have F7 := Lib.hid f7
        have RW7 := Lib.hid rw7
        have hb86 := live_lt (show live W6 b8 = true from (F6.out.liv hb85 (fun h => h)).trans ((F5.out.liv hbl (fun h => h)).trans hlv))
        have r87 := (f7.row hb86 b8bl).trans r6
        have C17 := Lib.hid ((C1.out.keep F6.out (fun h => h)).keep f7 (fun e => by have := C1.out.lt; have := HB6.out.2; omega))
        unfold logRow at rw7
        simp only at rw7
        clear rs f7 r6 r7
        have hlw : IntKind.u64.wrap ((hl : Int) + 1) = (hl : Int) + 1 := wraps_u64 _ (by omega) (by have := BND.out.2.1; omega)
        obtain ⟨used, hused⟩ : ∃ x, RD.2 = x := ⟨_, rfl⟩
        obtain ⟨rc, hrc⟩ : ∃ x, RD.1.length = x := ⟨_, rfl⟩
        rw [hused, hrc] at rw7
        have UR := Lib.hid (And.intro hused hrc)
        clear hused hrc
        go_wp2_with fail
        show Calls _ _ #[_, .int .u64 ((hl + 1 : Nat) : Int)] _ _
        refine (fresh_any w7 b1 _ _ C17.out (hl + 1) n (by have := BND.out.2.1; omega) (by have := life_free S.reads (hl + 1); rw [RL.out] at this; exact this)).mono ?_
        rintro e w8 ⟨rfl, rfl⟩
        have LL := Lib.hid (show S.oLife ⟨ht, hl, hg, ha⟩ = freeFrom (lifeCnt S.reads) n (hl + 1) by unfold DS.oLife; rw [HN.out])
        have LB := Lib.hid (freeFrom_le (lifeCnt S.reads) n (hl + 1))
        obtain ⟨L, hL⟩ : ∃ L, freeFrom (lifeCnt S.reads) n (hl + 1) = L := ⟨_, rfl⟩
        rw [hL] at LL LB ⊢
        clear hL
        obtain ⟨W8, hW8⟩ : ∃ W8, w7.setRow bl #[.pointer (some ⟨p.d, 0, none⟩), .int .u64 ht, .int .u64 L, .int .u64 hg, .int .i64 ha, .int .i64 sl', .int .i64 m, .int .i64 used, .int .i64 rc, .bool false, .map (some b2)] = W8 := ⟨_, rfl⟩
        have HW8 := Lib.hid hW8
        have R8 := Lib.hid (show rowOf W8 bl = logRow p.d ⟨ht, L, hg, ha⟩ sl' m used rc false b2 ∧ live W8 bl = true by
          rw [← hW8]
          exact ⟨rowOf_setRow_same _ _ _ lv7, by rw [live_setRow]; exact lv7⟩)
        have F8 := Lib.hid (show Fr (fun k => k = bl) w7 W8 by rw [← hW8]; exact (Fr.refl (fun k => k = bl) w7).setRow _ _ (fun _ => rfl))
        clear hW8 hlw
        go_upto_region 20 with fail
        rw [HW8.out]
        have FA := Lib.hid (F1.out.trans F15.out (fun _ _ h => h))
        have q5 : w.heap.size ≤ w5.heap.size := FA.out.size
        have q6 : w5.heap.size < W6.heap.size := Nat.lt_of_le_of_lt (by have := HB6.out.2; omega) (live_lt R6.out.2)
        have q9 := HB6.out.2
        have FW := Lib.hid ((((FA.out.mono (fun _ _ h => h.elim)).trans F6.out (fun _ _ h => h.elim)).trans F7.out (fun _ _ h => h)).trans F8.out (fun _ _ h => h))
        have nfb : ∀ k, p.foot k → k < w.heap.size := fun k hk => H.out.lt hk
        have S8 := Lib.hid (H.out.calm FW.out (fun k e => ⟨by have := H.out.fr.size; omega, fun hk => by have := nfb k hk; omega⟩))
        have DN := Lib.hid (show S.oDone sl ⟨ht, hl, hg, ha⟩ = S.writeSeq (sl' : Int) [headB ⟨(ht + 1) % 18446744073709551616, L, hg, ha⟩] by unfold DS.oDone DS.oHead; rw [LL.out, SL.out])
        go_wp2_with fail
        refine (turn_any w0 W8 p S S8.out bl ht L hg ha sl' m used rc false b2 R8.out.1 R8.out.2 (fun hk => by have := nfb bl hk; omega) (by have := H.out.fr.size; omega) BND.out.1 (by have := LB.out; have := BND.out.2.1; omega) (by have := BND.out.2.2.1; omega) BND.out.2.2.2 (by have := SL.out; omega) HM.out).mono ?_
        rintro e w9 ⟨p', hp', rfl, rep9, row9, liv9, mv9, nf9, new9⟩
        rw [← DN.out] at rep9 ⊢
        have HH := Lib.hid (show (⟨(ht + 1) % 18446744073709551616, L, hg, ha⟩ : HeadV) = S.oHead ⟨ht, hl, hg, ha⟩ by unfold DS.oHead; rw [LL.out])
        rw [HH.out] at row9
        have h1s : 1 - sl' = sl := by have := SL.out; omega
        rw [h1s] at row9
        have MV := Lib.hid (show Moves p.foot p'.foot w w9 from ⟨(FW.out.mono (fun i hi e => absurd e (by omega))).trans mv9.fr (fun i hi e => e.elim id (fun e => absurd e (by omega))), fun k hk => (new9 k hk).imp id (fun e => by have := FW.out.size; omega)⟩)
        have ST9 := Lib.hid (H.out.move MV.out rep9)
        have ROW9 := Lib.hid row9
        have LIV9 := Lib.hid liv9
        have NF9 := Lib.hid nf9
        have q7 := F7.out.size
        have q8 := F8.out.size
        have lb2 := C2.out.lt
        have b2w : w.heap.size ≤ b2 := by have := F1.out.size; have := HF.out.size; omega
        have RS9 := Lib.hid ((((RS.out.keep F8.out (fun k h1 h2 e => by omega)).keep mv9.fr (fun k h1 h2 e => e.elim (fun e => by have := nfb k e; omega) (fun e => by omega))).weaken (show w.heap.size ≤ W6.heap.size by omega)))
        have RF9 := Lib.hid (show ∀ k, recsFoot vr us k → ¬ p'.foot k ∧ k ≠ bl ∧ k ≠ b2 from fun k hk => by
          have h1 := RS.out.foot_lt hk
          refine ⟨fun e => (new9 k e).elim (fun e => by have := nfb k e; omega) (fun e => by omega), by omega, by omega⟩)
        have CN9 := Lib.hid ((((C2.out.keep F6.out (fun h => h)).keep F7.out (fun e => by omega)).keep F8.out (fun e => by omega)).keep mv9.fr (fun e => e.elim (fun e => by have := nfb _ e; omega) (fun e => by omega)))
        have NM9 := Lib.hid (show ¬ p'.foot b2 from fun e => (new9 _ e).elim (fun e => by have := nfb _ e; omega) (fun e => by omega))
        have HP9 := Lib.hid hp'
        have hne9 : bl ≠ b2 := by omega
        clear rep9 row9 liv9 mv9 nf9 new9 hp' lb2 nfb
        obtain ⟨q, hq⟩ : ∃ q, (S.oDone sl ⟨ht, hl, hg, ha⟩).1 = q := ⟨_, rfl⟩
        have HQ := Lib.hid hq
        rw [hq]
        clear hq
        by_cases hz : q = 0
        · subst hz
          go_wp2
          go_ret3
          rw [hp.out]
          refine ⟨p', HP9.out, ST9.out, MV.out, ?_⟩
          rw [if_pos HQ.out]
          refine ⟨bl, vr, us, b2, rfl, by rw [ORD.out]; exact RS9.out, RF9.out, ⟨?_, LIV9.out, ?_, NF9.out, NM9.out, hne9⟩, by omega, b2w⟩
          · rw [HP9.out, ORD.out, UR.out.1, UR.out.2, MM.out]; exact ROW9.out
          · rw [← reads_len]; exact CN9.out
        · have hz2 : (q != 0) = true := by simpa using hz
          go_wp2
          go_ret3
          rw [hp.out]
          refine ⟨p', HP9.out, ST9.out, MV.out, ?_⟩
          rw [if_neg (by rw [HQ.out]; exact hz), HQ.out]
          rfl

end Go.Proofs.Ytflnlpbcmcfblaa
