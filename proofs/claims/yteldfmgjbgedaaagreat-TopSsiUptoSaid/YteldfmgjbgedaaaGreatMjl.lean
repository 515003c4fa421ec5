/-
  Package ssi: gone.
  slices.IndexFunc, slices.ContainsFunc at locks and at notes (printed by wip/ssiidx.py).
  Package ssi: wrote, and its closure.
-/
import Derived.Test.YteldfmgjbgedaaaGreatMgi
import Derived.Deep.RegionLaw
import Derived.Deep.RegionHeld3
import Derived.Test.YteldfmgjbgedaaaGreatMf
import Derived.Shelf.Abstract
namespace Go.Proofs.YteldfmgjbgedaaaGreat
open Go.RowKit Go.Maps

section
variable {w : World} {cls : Nat → Nat} {P : MP} {q : Nat} {S : MS}

/-- The locks were turned. -/
theorem Mgr.locks {w' : World} (h : Mgr w cls P q S) {q' : Nat} (hq : q ≤ q') (hqb : q' < 2 ^ 40) {G' : Key → Option Nat} (hg : ∃ n f, n ≤ q' ∧ LocksAt w' P.bk n f G') (hf : Fr (fun k => k = P.bk) w w') : Mgr w' cls P q' { S with G := G' } := by
  obtain ⟨m1, m2, m3, m4, m5, m6⟩ := h.lts
  obtain ⟨n1, g1, h1, htx⟩ := h.tx
  obtain ⟨n3, g3, h3, hnt⟩ := h.nt
  have of1 : ∀ k, live w k = true → ¬ k = P.bk := fun k hk => (h.maps hk).2.1
  exact {
    row := by rw [hf.row m1 (of1 _ h.lm)]; exact h.row
    lm := by rw [hf.liv m1 (of1 _ h.lm)]; exact h.lm
    rowl := by rw [hf.row m2 (of1 _ h.ll)]; exact h.rowl
    ll := by rw [hf.liv m2 (of1 _ h.ll)]; exact h.ll
    rowr := by rw [hf.row m3 (of1 _ h.lr)]; exact h.rowr
    lr := by rw [hf.liv m3 (of1 _ h.lr)]; exact h.lr
    cm := h.cm
    cl_ := h.cl_
    cr_ := h.cr_
    tx := ⟨n1, g1, by omega, htx.fr hf h.nb.1 (fun i p hp => of1 _ (htx.at_ i p hp).2.1)⟩
    ct := h.ct
    wr := fun i p hp => by
      obtain ⟨a1, a2⟩ := h.wr i p hp
      exact ⟨a1.keep hf (fun k hk => of1 _ (a1.liv hk)), a2⟩
    lk := hg
    nt := ⟨n3, g3, by omega, hnt.fr hf h.nb.2.2.symm (fun k hk h5 => ⟨of1 k hk, h5⟩)⟩
    nb := h.nb
    mb := h.mb
    qb := hqb
    nok := h.nok }

theorem Mgr.release (HS : Sorts68) (h : Mgr w cls P q S) (t : Nat) :
    Calls Tryz.prog 43 #[.pointer (some ⟨P.bl, 0, none⟩), .int .i64 (t : Nat)] w fun e w' => ∃ v, e = .returned v ∧ Mgr w' cls P q { S with G := fun s => if S.G s = some t then none else S.G s } ∧ Fr (fun k => k = P.bk) w w' := by
  obtain ⟨n2, g2, h2, hlk⟩ := h.lk
  refine (release_any HS w P.bl h.rowl h.ll hlk (by have := h.qb; omega) t).mono ?_
  rintro e w' ⟨v, f', rfl, h3, h4⟩
  exact ⟨v, rfl, h.locks (Nat.le_refl _) h.qb ⟨n2, f', h2, h3⟩ h4, h4⟩

set_option maxRecDepth 20000 in
set_option maxHeartbeats 4000000 in
theorem Mgr.gone (H53 : Sorts53) (H68 : Sorts68) (h : Mgr w cls P q S) {t : Nat} {p : Nat × TR} (hp : S.T t = some p) :
    Calls Tryz.prog 33 #[.pointer (some ⟨P.m, 0, none⟩), .pointer (some ⟨p.1, 0, none⟩)] w fun e w' => e = .returned (.tuple #[]) ∧ ∃ F, Mgr w' cls P q ((S.drop t).forget F) ∧ (∀ i, F i = true ↔ (S.drop t).old i) ∧ Fr (fun k => k = P.bm ∨ k = P.br ∨ k = P.bn ∨ k = P.bk) w w' := by
  obtain ⟨n1, g1, hn1, htx⟩ := h.tx
  obtain ⟨hfa, hla, hra, ha40⟩ := htx.at_ t p hp
  obtain ⟨-, hnum, ht1⟩ := h.ct t p hp
  have hrow := h.row
  have h1 := h.fr0 ((Fr.refl _ w).drew)
  have HR := Lib.hid (h1.release H68 t)
  have H1 := Lib.hid h1
  unfold mgRow at hrow
  unfold TR.row txRow at hra
  rw [hnum] at hra
  clear h1 htx h
  go_enter Tryz.func33, Tryz.ntmps33
  go_wp2_with fail
  go_region_law (first | (go_simp; go_at_call 43; refine HR.out.mono ?_; rintro e w1 ⟨v, rfl, hM1, hf1⟩; have HM1 := Lib.hid hM1; have HF1 := Lib.hid hf1; have HD := Lib.hid ((hM1.fr0 ((Fr.refl _ _).drew)).dropN ht1); have hrow1 := hM1.row; have hra1 := (hf1.row (live_lt hla) (hM1.maps (by rw [hf1.liv (live_lt hla) (H1.out.maps hla).2.1]; exact hla)).2.1).trans hra; clear hM1 hf1))
  all_goals
    unfold mgRow at hrow1
    clear hrow hra
    go_wp2_with fail
    go_region_law (first | (go_simp; go_at_call 44; refine HD.out.mono ?_; rintro e w2 ⟨rfl, hM2, hf2⟩; have HM2 := Lib.hid hM2; have HF2 := Lib.hid hf2; clear hM2 hf2))
    all_goals
      have hM2' := HM2.out.fr0 ((Fr.refl _ _).drew)
      obtain ⟨n4, g4, hn4, htx4⟩ := hM2'.tx
      obtain ⟨-, hl2, hr2, -⟩ := htx4.at_ t p hp
      have hrow2 := HM2.out.row
      have hra2 : rowOf w2 p.1 = p.2.row := hr2
      unfold mgRow at hrow2
      unfold TR.row txRow at hra2
      rw [hnum] at hra2
      obtain ⟨w3, hst, hm3, hf3⟩ := htx4.map.drop law2 Tryz.underlying55 (.int .i64 (t : Nat)) (key2 (wf_nat ha40)) 0
      have hM3 := (hM2'.delT htx4 hn4 hm3 hf3).1
      have HFG := Lib.hid (hM3.forget H53)
      have HF3 := Lib.hid hf3
      clear hM2' htx4 hr2 hm3 hf3 hM3 hrow1 hra1 hl2
      go_wp2_with fail
      go_region
      all_goals
        go_wp2_with (go_at_call 45; refine HFG.out.mono ?_; rintro e w4 ⟨rfl, F, hM4, hF, hf4⟩)
        go_end0
        refine ⟨rfl, F, hM4, hF, ?_⟩
        have f1 := ((Fr.refl (fun k => k = P.bm ∨ k = P.br ∨ k = P.bn ∨ k = P.bk) w).drew).trans HF1.out (fun _ _ h => .inr (.inr (.inr h)))
        have f2 := f1.drew.trans HF2.out (fun _ _ h => h.elim (fun h => .inr (.inl h)) (fun h => .inr (.inr (.inl h))))
        have f3 := f2.drew.trans HF3.out (fun _ _ h => .inl h)
        exact f3.trans hf4 (fun _ _ h => h.elim .inl (fun h => h.elim (fun h => .inr (.inl h)) (fun h => .inr (.inr (.inl h)))))
end

end Go.Proofs.YteldfmgjbgedaaaGreat

namespace Go.Proofs.YteldfmgjbgedaaaGreat
open Go.RowKit Go.Maps

theorem OwnRows.max {w : World} {v : Value} {size : Nat} {xs : List (Array Value)} {base : Nat} (h : OwnRows w v size xs base) : xs.length ≤ 9223372036854775807 := by
  rcases h with ⟨_, rfl⟩ | ⟨g, cap, _, _, _, h3, h4, _⟩
  · simp
  · simp only [maxLen] at h4; omega

set_option maxRecDepth 20000 in
set_option maxHeartbeats 2000000 in
theorem indexFuncLk (w : World) {v : Value} {xs : List Key} {base : Nat} (ho : OwnRows w v 2 (lkRows xs) base) {fg : Nat} {cb : Array Value} {p : Key → Bool} (eg : ∀ args w, (callFunc fg args).run Tryz.prog w = .ok (.enter fg args) w)
    (hp : ∀ W q, Fr (fun _ => False) w W → q ∈ xs → Calls Tryz.prog fg (#[.agg #[(.string ⟨#[116]⟩), (.string ⟨q.toArray⟩)]] ++ cb) W fun e w' => e = .returned (.bool (p q)) ∧ Fr (fun _ => False) W w') :
    Calls Tryz.prog 127 #[v, .func (.func fg) #[] cb] w fun e w' => ∃ i : Int, e = .returned (.int .i64 i) ∧ ((i = -1 ∧ ∀ x ∈ xs, p x = false) ∨ ∃ (k : Nat) (hk : k < xs.length), i = k ∧ p xs[k] = true ∧ ∀ j (hj : j < k), p (xs[j]'(by omega)) = false) ∧ Fr (fun _ => False) w w' := by
  obtain ⟨a, c, rfl⟩ := ho.len
  rw [lkRows_length] at ho ⊢
  have hn : xs.length ≤ 9223372036854775807 := by have := ho.max; rw [lkRows_length] at this; exact this
  have HO := Lib.hid ho
  have HP := Lib.hid hp
  clear ho hp
  go_enter Tryz.func127, Tryz.ntmps127
  go_wp2
  go_loopw [8] (fun t wr => ∃ k : Nat, t = .int .i64 (k : Nat) ∧ k ≤ xs.length ∧ (∀ j (hj : j < k) (hj2 : j < xs.length), p xs[j] = false) ∧ Fr (fun _ => False) w wr) (fun t _ => xs.length - (intOf t).toNat)
  case atStart => exact ⟨0, rfl, Nat.zero_le _, fun j hj => absurd hj (Nat.not_lt_zero _), Fr.refl _ _⟩
  case round =>
    obtain ⟨k, rfl, hk, hA, hf⟩ := hrel
    have HA := Lib.hid hA
    have HF := Lib.hid hf
    clear hA
    by_cases hlt : k < xs.length
    · obtain ⟨g, rfl, hbg, hlg, -, hxc, hsz, hget⟩ := (HO.out.keep hf (fun _ _ e => e)).get (k := k) (by rw [lkRows_length]; exact hlt)
      have hrow : (lkRows xs)[k]'(by rw [lkRows_length]; exact hlt) = lkC xs[k] := by simp [lkRows]
      have c0 := hget 0 (by omega)
      have c1 := hget 1 (by omega)
      have HC := Lib.hid (HP.out wr xs[k] hf (List.getElem_mem hlt))
      have HQ := Lib.hid (rfl : p xs[k] = p xs[k])
      have HLT := Lib.hid hlt
      generalize hq : xs[k] = q at hrow HC
      replace c0 : (rowOf wr g)[k * 2]? = some (.string ⟨#[116]⟩) := by have := c0; rw [hrow] at this; simpa [lkC, strV] using this
      replace c1 : (rowOf wr g)[k * 2 + 1]? = some (.string ⟨q.toArray⟩) := by have := c1; rw [hrow] at this; simpa [lkC, strV] using this
      have HQQ := Lib.hid hq
      have hki : (k : Int) < (xs.length : Int) := by omega
      clear hget hrow hq hf HQ
      cases hpq : p q with
      | true =>
        rw [hpq] at HC
        go_wp2_with (go_at_fn fg; refine HC.out.mono ?_; rintro e w3 ⟨rfl, hf3⟩)
        go_ret
        refine ⟨k, rfl, .inr ⟨k, HLT.out, rfl, (congrArg p HQQ.out).trans hpq, fun j hj => HA.out j hj _⟩, HF.out.trans hf3 (fun _ _ h => h)⟩
      | false =>
        rw [hpq] at HC
        go_wp2_with (go_at_fn fg; refine HC.out.mono ?_; rintro e w3 ⟨rfl, hf3⟩)
        go_roundw
        case rel =>
          refine ⟨k + 1, by go_num, by have := HLT.out; omega, fun j hj hj2 => ?_, HF.out.trans hf3 (fun _ _ h => h)⟩
          by_cases e : j = k
          · subst e; exact (congrArg p HQQ.out).trans hpq
          · exact HA.out j (by omega) hj2
        case measure => (have := HLT.out; simp only [intOf]; omega)
    · obtain rfl : k = xs.length := by omega
      clear hf
      go_wp2
      go_ret
      refine ⟨-1, rfl, .inl ⟨rfl, fun x hx => ?_⟩, HF.out⟩
      obtain ⟨j, hj, rfl⟩ := List.getElem_of_mem hx
      exact HA.out j hj hj

set_option maxRecDepth 20000 in
set_option maxHeartbeats 2000000 in
theorem containsFuncLk (w : World) {v : Value} {xs : List Key} {base : Nat} (ho : OwnRows w v 2 (lkRows xs) base) {fg : Nat} {cb : Array Value} {p : Key → Bool} (eg : ∀ args w, (callFunc fg args).run Tryz.prog w = .ok (.enter fg args) w)
    (hp : ∀ W q, Fr (fun _ => False) w W → q ∈ xs → Calls Tryz.prog fg (#[.agg #[(.string ⟨#[116]⟩), (.string ⟨q.toArray⟩)]] ++ cb) W fun e w' => e = .returned (.bool (p q)) ∧ Fr (fun _ => False) W w') :
    Calls Tryz.prog 96 #[v, .func (.func fg) #[] cb] w fun e w' => e = .returned (.bool (xs.any p)) ∧ Fr (fun _ => False) w w' := by
  have HC := Lib.hid (indexFuncLk w ho eg hp)
  clear hp ho
  go_enter Tryz.func96, Tryz.ntmps96
  go_wp2_with (go_at_call 127; refine HC.out.mono ?_; rintro e w3 ⟨i, rfl, hi, hf3⟩)
  go_ret
  refine ⟨?_, hf3⟩
  congr 2
  rcases hi with ⟨rfl, h⟩ | ⟨k, hk, rfl, h, _⟩
  · have : xs.any p = false := List.any_eq_false.2 (fun x hx => by rw [h x hx]; simp)
    rw [this]; rfl
  · have : xs.any p = true := List.any_eq_true.2 ⟨_, List.getElem_mem hk, h⟩
    rw [this]; simp

set_option maxRecDepth 20000 in
set_option maxHeartbeats 2000000 in
theorem indexFuncRd (w : World) {v : Value} {xs : List RdT} {base : Nat} (ho : OwnRows w v 4 (rdRows xs) base) {fg : Nat} {cb : Array Value} {p : RdT → Bool} (eg : ∀ args w, (callFunc fg args).run Tryz.prog w = .ok (.enter fg args) w)
    (hp : ∀ W q, Fr (fun _ => False) w W → q ∈ xs → Calls Tryz.prog fg (#[.agg #[(.string ⟨#[116]⟩), (.int .i64 q.kind), (.string ⟨q.lo.toArray⟩), (.string ⟨q.hi.toArray⟩)]] ++ cb) W fun e w' => e = .returned (.bool (p q)) ∧ Fr (fun _ => False) W w') :
    Calls Tryz.prog 98 #[v, .func (.func fg) #[] cb] w fun e w' => ∃ i : Int, e = .returned (.int .i64 i) ∧ ((i = -1 ∧ ∀ x ∈ xs, p x = false) ∨ ∃ (k : Nat) (hk : k < xs.length), i = k ∧ p xs[k] = true ∧ ∀ j (hj : j < k), p (xs[j]'(by omega)) = false) ∧ Fr (fun _ => False) w w' := by
  obtain ⟨a, c, rfl⟩ := ho.len
  rw [rdRows_length] at ho ⊢
  have hn : xs.length ≤ 9223372036854775807 := by have := ho.max; rw [rdRows_length] at this; exact this
  have HO := Lib.hid ho
  have HP := Lib.hid hp
  clear ho hp
  go_enter Tryz.func98, Tryz.ntmps98
  go_wp2
  go_loopw [8] (fun t wr => ∃ k : Nat, t = .int .i64 (k : Nat) ∧ k ≤ xs.length ∧ (∀ j (hj : j < k) (hj2 : j < xs.length), p xs[j] = false) ∧ Fr (fun _ => False) w wr) (fun t _ => xs.length - (intOf t).toNat)
  case atStart => exact ⟨0, rfl, Nat.zero_le _, fun j hj => absurd hj (Nat.not_lt_zero _), Fr.refl _ _⟩
  case round =>
    obtain ⟨k, rfl, hk, hA, hf⟩ := hrel
    have HA := Lib.hid hA
    have HF := Lib.hid hf
    clear hA
    by_cases hlt : k < xs.length
    · obtain ⟨g, rfl, hbg, hlg, -, hxc, hsz, hget⟩ := (HO.out.keep hf (fun _ _ e => e)).get (k := k) (by rw [rdRows_length]; exact hlt)
      have hrow : (rdRows xs)[k]'(by rw [rdRows_length]; exact hlt) = rdC xs[k] := by simp [rdRows]
      have c0 := hget 0 (by omega)
      have c1 := hget 1 (by omega)
      have c2 := hget 2 (by omega)
      have c3 := hget 3 (by omega)
      have HC := Lib.hid (HP.out wr xs[k] hf (List.getElem_mem hlt))
      have HQ := Lib.hid (rfl : p xs[k] = p xs[k])
      have HLT := Lib.hid hlt
      generalize hq : xs[k] = q at hrow HC
      replace c0 : (rowOf wr g)[k * 4]? = some (.string ⟨#[116]⟩) := by have := c0; rw [hrow] at this; simpa [rdC, strV] using this
      replace c1 : (rowOf wr g)[k * 4 + 1]? = some (.int .i64 q.kind) := by have := c1; rw [hrow] at this; simpa [rdC, strV] using this
      replace c2 : (rowOf wr g)[k * 4 + 2]? = some (.string ⟨q.lo.toArray⟩) := by have := c2; rw [hrow] at this; simpa [rdC, strV] using this
      replace c3 : (rowOf wr g)[k * 4 + 3]? = some (.string ⟨q.hi.toArray⟩) := by have := c3; rw [hrow] at this; simpa [rdC, strV] using this
      have HQQ := Lib.hid hq
      have hki : (k : Int) < (xs.length : Int) := by omega
      clear hget hrow hq hf HQ
      cases hpq : p q with
      | true =>
        rw [hpq] at HC
        go_wp2_with (go_at_fn fg; refine HC.out.mono ?_; rintro e w3 ⟨rfl, hf3⟩)
        go_ret
        refine ⟨k, rfl, .inr ⟨k, HLT.out, rfl, (congrArg p HQQ.out).trans hpq, fun j hj => HA.out j hj _⟩, HF.out.trans hf3 (fun _ _ h => h)⟩
      | false =>
        rw [hpq] at HC
        go_wp2_with (go_at_fn fg; refine HC.out.mono ?_; rintro e w3 ⟨rfl, hf3⟩)
        go_roundw
        case rel =>
          refine ⟨k + 1, by go_num, by have := HLT.out; omega, fun j hj hj2 => ?_, HF.out.trans hf3 (fun _ _ h => h)⟩
          by_cases e : j = k
          · subst e; exact (congrArg p HQQ.out).trans hpq
          · exact HA.out j (by omega) hj2
        case measure => (have := HLT.out; simp only [intOf]; omega)
    · obtain rfl : k = xs.length := by omega
      clear hf
      go_wp2
      go_ret
      refine ⟨-1, rfl, .inl ⟨rfl, fun x hx => ?_⟩, HF.out⟩
      obtain ⟨j, hj, rfl⟩ := List.getElem_of_mem hx
      exact HA.out j hj hj

set_option maxRecDepth 20000 in
set_option maxHeartbeats 2000000 in
theorem containsFuncRd (w : World) {v : Value} {xs : List RdT} {base : Nat} (ho : OwnRows w v 4 (rdRows xs) base) {fg : Nat} {cb : Array Value} {p : RdT → Bool} (eg : ∀ args w, (callFunc fg args).run Tryz.prog w = .ok (.enter fg args) w)
    (hp : ∀ W q, Fr (fun _ => False) w W → q ∈ xs → Calls Tryz.prog fg (#[.agg #[(.string ⟨#[116]⟩), (.int .i64 q.kind), (.string ⟨q.lo.toArray⟩), (.string ⟨q.hi.toArray⟩)]] ++ cb) W fun e w' => e = .returned (.bool (p q)) ∧ Fr (fun _ => False) W w') :
    Calls Tryz.prog 61 #[v, .func (.func fg) #[] cb] w fun e w' => e = .returned (.bool (xs.any p)) ∧ Fr (fun _ => False) w w' := by
  have HC := Lib.hid (indexFuncRd w ho eg hp)
  clear hp ho
  go_enter Tryz.func61, Tryz.ntmps61
  go_wp2_with (go_at_call 98; refine HC.out.mono ?_; rintro e w3 ⟨i, rfl, hi, hf3⟩)
  go_ret
  refine ⟨?_, hf3⟩
  congr 2
  rcases hi with ⟨rfl, h⟩ | ⟨k, hk, rfl, h, _⟩
  · have : xs.any p = false := List.any_eq_false.2 (fun x hx => by rw [h x hx]; simp)
    rw [this]; rfl
  · have : xs.any p = true := List.any_eq_true.2 ⟨_, List.getElem_mem hk, h⟩
    rw [this]; simp

end Go.Proofs.YteldfmgjbgedaaaGreat

namespace Go.Proofs.YteldfmgjbgedaaaGreat
open Go.RowKit Go.Maps

/-- Whether a key is one of a range. -/
def inR (lo hi s : List UInt8) : Bool := !Op.bytesLess s lo && (hi.isEmpty || Op.bytesLess s hi)

set_option maxRecDepth 20000 in
set_option maxHeartbeats 2000000 in
theorem wrote97 (W : World) (b1 b2 b3 : Nat) (s lo hi : List UInt8) (h1 : rowOf W b1 = #[.string ⟨#[116]⟩]) (h2 : rowOf W b2 = #[.string ⟨lo.toArray⟩]) (h3 : rowOf W b3 = #[.string ⟨hi.toArray⟩]) (l1 : live W b1 = true) (l2 : live W b2 = true) (l3 : live W b3 = true) :
    Calls Tryz.prog 97 #[.agg #[.string ⟨#[116]⟩, .string ⟨s.toArray⟩], .pointer (some ⟨b1, 0, none⟩), .pointer (some ⟨b2, 0, none⟩), .pointer (some ⟨b3, 0, none⟩)] W fun e w' => e = .returned (.bool (inR lo hi s)) ∧ Fr (fun _ => False) W w' := by
  have e1 := live_lt l1
  have e2 := live_lt l2
  have e3 := live_lt l3
  go_enter Tryz.func97, Tryz.ntmps97
  go_wp2
  all_goals go_ret
  all_goals refine ⟨?_, (Fr.refl _ W).alloc _⟩
  all_goals simp_all [inR]

/-- What a transaction has written. -/
def MS.wroteBy (S : MS) (o : Nat) (s : Key) : Prop := ∃ p, S.T o = some p ∧ (if p.2.act = true then S.G s = some o else s ∈ S.W o)

set_option maxRecDepth 20000 in
set_option maxHeartbeats 4000000 in
theorem Mgr.wrote (HS : Sorts68) {w : World} {cls : Nat → Nat} {P : MP} {q : Nat} {S : MS} (h : Mgr w cls P q S) {o : Nat} {p : Nat × TR} (hp : S.T o = some p) (lo hi : List UInt8) :
    Calls Tryz.prog 58 #[.pointer (some ⟨P.m, 0, none⟩), .pointer (some ⟨p.1, 0, none⟩), .string ⟨#[116]⟩, .string ⟨lo.toArray⟩, .string ⟨hi.toArray⟩] w fun e w' => ∃ rb, e = .returned (.bool rb) ∧ (rb = true ↔ ∃ s, S.wroteBy o s ∧ inR lo hi s = true) ∧ Fr (fun _ => False) w w' := by
  have FB : Fr (fun _ => False) w (((w.alloc (.cells #[.string ⟨#[116]⟩] 9)).alloc (.cells #[.string ⟨lo.toArray⟩] 9)).alloc (.cells #[.string ⟨hi.toArray⟩] 9)) := (((Fr.refl _ w).alloc _).alloc _).alloc _
  have hB := h.fr0 FB
  obtain ⟨n1, g1, hn1, htx⟩ := h.tx
  obtain ⟨hfa, hla, hra, ha40⟩ := htx.at_ o p hp
  obtain ⟨-, hnum, ht1⟩ := h.ct o p hp
  have hlt := live_lt hla
  have hlm := live_lt h.lm
  have hlt1 : p.1 < w.heap.size + 1 := by omega
  have hlt2 : p.1 < w.heap.size + 1 + 1 := by omega
  have hlm1 : P.m < w.heap.size + 1 := by omega
  have hlm2 : P.m < w.heap.size + 1 + 1 := by omega
  have hrow := h.row
  unfold mgRow at hrow
  unfold TR.row txRow at hra
  have HB := Lib.hid hB
  have HFB := Lib.hid FB
  have eg : ∀ args w, (callFunc 97 args).run Tryz.prog w = .ok (.enter 97 args) w := enters_of Tryz.func97 (by kernel_rfl) rfl
  -- the closure, whatever was laid behind
  have HC := Lib.hid (fun (W : World) (s : Key) (hf : Fr (fun _ => False) (((w.alloc (.cells #[.string ⟨#[116]⟩] 9)).alloc (.cells #[.string ⟨lo.toArray⟩] 9)).alloc (.cells #[.string ⟨hi.toArray⟩] 9)) W) => wrote97 W w.heap.size (w.heap.size + 1) (w.heap.size + 2) s lo hi
    ((hf.row (by simp; try omega) (fun e => e)).trans (by simp [go_sem])) ((hf.row (by simp; try omega) (fun e => e)).trans (by simp [go_sem])) ((hf.row (by simp; try omega) (fun e => e)).trans (by simp [go_sem])) ((hf.liv (by simp; try omega) (fun e => e)).trans (by simp [go_sem])) ((hf.liv (by simp; try omega) (fun e => e)).trans (by simp [go_sem])) ((hf.liv (by simp; try omega) (fun e => e)).trans (by simp [go_sem])))
  have HC4 : ∀ (W : World) (s : Key), Fr (fun _ => False) (((w.alloc (.cells #[.string ⟨#[116]⟩] 9)).alloc (.cells #[.string ⟨lo.toArray⟩] 9)).alloc (.cells #[.string ⟨hi.toArray⟩] 9)) W →
      Calls Tryz.prog 97 (#[.agg #[.string ⟨#[116]⟩, .string ⟨s.toArray⟩]] ++ #[.pointer (some ⟨w.heap.size, 0, none⟩), .pointer (some ⟨w.heap.size + 1, 0, none⟩), .pointer (some ⟨w.heap.size + 2, 0, none⟩)]) W fun e w' => e = .returned (.bool (inR lo hi s)) ∧ Fr (fun _ => False) W w' := by
    intro W s hf
    rw [show (#[.agg #[.string ⟨#[116]⟩, .string ⟨s.toArray⟩]] ++ #[.pointer (some ⟨w.heap.size, 0, none⟩), .pointer (some ⟨w.heap.size + 1, 0, none⟩), .pointer (some ⟨w.heap.size + 2, 0, none⟩)] : Array Value) = #[.agg #[.string ⟨#[116]⟩, .string ⟨s.toArray⟩], .pointer (some ⟨w.heap.size, 0, none⟩), .pointer (some ⟨w.heap.size + 1, 0, none⟩), .pointer (some ⟨w.heap.size + 2, 0, none⟩)] from by simp]
    exact HC.out W s hf
  replace HC := Lib.hid HC4
  clear HC4
  have HP := Lib.hid hp
  cases hact : p.2.act with
  | false =>
    rw [hact] at hra
    obtain ⟨how, hcw⟩ := hB.wr o p hp
    have HCF := Lib.hid (containsFuncLk _ how eg (p := inR lo hi) (fun W s hf _ => HC.out W s hf))
    clear hB htx h how hcw hp eg FB
    go_enter Tryz.func58, Tryz.ntmps58
    go_wp2_with (go_at_call 96; refine HCF.out.mono ?_; rintro e w3 ⟨rfl, hf3⟩)
    go_ret
    refine ⟨_, rfl, ?_, HFB.out.trans hf3 (fun _ _ h => h)⟩
    rw [List.any_eq_true]
    constructor
    · rintro ⟨s, hs, hi⟩
      exact ⟨s, ⟨p, HP.out, by rw [hact]; exact hs⟩, hi⟩
    · rintro ⟨s, ⟨p', h1, h2⟩, hi⟩
      rw [HP.out] at h1; cases h1
      rw [hact] at h2
      exact ⟨s, h2, hi⟩
  | true =>
    rw [hact, hnum] at hra
    have hD := hB.fr0 ((Fr.refl _ _).drew)
    obtain ⟨n2, g2, hn2, hlk⟩ := hD.lk
    have HH := Lib.hid (held_any HS _ P.bl hD.rowl hlk (by have := hD.qb; omega) o)
    clear hB htx h hp FB hD hlk
    go_enter Tryz.func58, Tryz.ntmps58
    go_wp2_with fail
    go_region_law (first | (go_simp; go_at_call 41; refine HH.out.mono ?_; rintro e w1 ⟨v, xs, rfl, ho, hm, hxn, hf⟩; have HCF := Lib.hid (containsFuncLk _ ho eg (p := inR lo hi) (fun W s hfW _ => HC.out W s (((Fr.refl _ _).drew.trans hf (fun _ _ h => h)).trans hfW (fun _ _ h => h)))); have HM := Lib.hid hm; have HF := Lib.hid hf; clear ho hm hf))
    all_goals
      go_wp2_with (go_at_call 96; refine HCF.out.mono ?_; rintro e w3 ⟨rfl, hf3⟩)
      go_ret
      refine ⟨_, rfl, ?_, (HFB.out.drew.trans HF.out (fun _ _ h => h)).trans hf3 (fun _ _ h => h)⟩
      rw [List.any_eq_true]
      constructor
      · rintro ⟨s, hs, hi⟩
        exact ⟨s, ⟨p, HP.out, by rw [hact]; exact (HM.out s).1 hs⟩, hi⟩
      · rintro ⟨s, ⟨p', h1, h2⟩, hi⟩
        rw [HP.out] at h1; cases h1
        rw [hact] at h2
        exact ⟨s, (HM.out s).2 h2, hi⟩
end Go.Proofs.YteldfmgjbgedaaaGreat
