/-
  Package ssi: active, Abort, Begin.
  slices.Contains of locks; Write's closures.
-/
import Derived.Test.YteldfmgjbgedaaaGreatMyz
import Derived.Laws.StructEq
namespace Go.Proofs.YteldfmgjbgedaaaGreat
open Go.RowKit Go.Maps

section
variable {w : World} {cls : Nat → Nat} {P : MP} {q : Nat} {S : MS}

set_option maxRecDepth 20000 in
set_option maxHeartbeats 2000000 in
theorem Mgr.active29 (h : Mgr w cls P q S) {t : Nat} {p : Nat × TR} (hp : S.T t = some p) (ha : p.2.act = true) :
    Calls Tryz.prog 29 #[.pointer (some ⟨P.m, 0, none⟩), .int .i64 (t : Nat)] w fun e w' => e = .returned (.tuple #[.pointer (some ⟨p.1, 0, none⟩), .int .i64 0]) ∧ w = w' := by
  have HN := Lib.hid (none25_any w P.m h.row)
  obtain ⟨n1, g1, hn1, htx⟩ := h.tx
  obtain ⟨hfa, hla, hra, ht40⟩ := htx.at_ t p hp
  have hrow := h.row
  have hlook := htx.map.look law2 Tryz.underlying55 (Tryz.zeroValue92 w) (.int .i64 (t : Nat)) (key2 (wf_nat ht40))
  rw [hfa] at hlook
  simp only [Option.getD_some, Option.isSome_some] at hlook
  unfold mgRow at hrow
  unfold TR.row txRow at hra
  rw [ha] at hra
  clear h htx
  go_enter Tryz.func29, Tryz.ntmps29
  go_wp2_with fail
  refine HN.out.mono ?_
  rintro e w' ⟨rfl, rfl⟩
  go_wp2
  go_ret2
  exact ⟨rfl, rfl⟩

set_option maxRecDepth 20000 in
set_option maxHeartbeats 2000000 in
theorem Mgr.active29_no (h : Mgr w cls P q S) {t : Nat} (ht : t < 2 ^ 40) (hp : ∀ p, S.T t = some p → p.2.act = false) :
    Calls Tryz.prog 29 #[.pointer (some ⟨P.m, 0, none⟩), .int .i64 (t : Nat)] w fun e w' => e = .returned (.tuple #[.pointer none, .int .i64 101]) ∧ w = w' := by
  have HN := Lib.hid (none25_any w P.m h.row)
  obtain ⟨n1, g1, hn1, htx⟩ := h.tx
  have hrow := h.row
  have hlook := htx.map.look law2 Tryz.underlying55 (Tryz.zeroValue92 w) (.int .i64 (t : Nat)) (key2 (wf_nat ht))
  unfold mgRow at hrow
  cases hpt : S.T t with
  | none =>
    have hf : g1 (.int .i64 (t : Nat)) = none := by
      cases hf : g1 (.int .i64 (t : Nat)) with
      | none => rfl
      | some x =>
        obtain ⟨i, p, h1, h2⟩ := htx.all _ _ hf
        have : i = t := by injection h1 with _ h1; omega
        rw [this, hpt] at h2; cases h2
    rw [hf] at hlook
    simp only [Option.getD_none, Option.isSome_none] at hlook
    clear h htx hp
    go_enter Tryz.func29, Tryz.ntmps29
    go_wp2_with fail
    refine HN.out.mono ?_
    rintro e w' ⟨rfl, rfl⟩
    go_wp2
    go_ret2
    exact ⟨rfl, rfl⟩
  | some p =>
    obtain ⟨hfa, hla, hra, ht40⟩ := htx.at_ t p hpt
    rw [hfa] at hlook
    simp only [Option.getD_some, Option.isSome_some] at hlook
    unfold TR.row txRow at hra
    rw [hp p hpt] at hra
    clear h htx hp
    go_enter Tryz.func29, Tryz.ntmps29
    go_wp2_with fail
    refine HN.out.mono ?_
    rintro e w' ⟨rfl, rfl⟩
    go_wp2
    go_ret2
    exact ⟨rfl, rfl⟩

/-- Where one is gone (under way no more). -/
def GoneRes (w : World) (cls : Nat → Nat) (P : MP) (q : Nat) (S : MS) (t : Nat) (w' : World) : Prop :=
  ∃ F, Mgr w' cls P q ((S.drop t).forget F) ∧ (∀ i, F i = true ↔ (S.drop t).old i) ∧ Fr (Mine cls P) w w'

theorem Mgr.gone' (H53 : Sorts53) (H68 : Sorts68) (h : Mgr w cls P q S) {t : Nat} {p : Nat × TR} (hp : S.T t = some p) :
    Calls Tryz.prog 33 #[.pointer (some ⟨P.m, 0, none⟩), .pointer (some ⟨p.1, 0, none⟩)] w fun e w' => e = .returned (.tuple #[]) ∧ Hid (GoneRes w cls P q S t w') := by
  refine (h.gone H53 H68 hp).mono ?_
  rintro e w' ⟨rfl, F, h1, h2, h3⟩
  exact ⟨rfl, F, h1, h2, h3.mono (fun k _ hk => hk.elim (fun h => .inr (.inl h)) (fun hk => hk.elim (fun e => .inl (by rw [e, h.cr_]; omega)) (fun hk => hk.elim (fun h => .inr (.inr (.inr h))) (fun h => .inr (.inr (.inl h))))))⟩

set_option maxRecDepth 20000 in
set_option maxHeartbeats 2000000 in
theorem Mgr.abort21 (H53 : Sorts53) (H68 : Sorts68) (h : Mgr w cls P q S) {t : Nat} {p : Nat × TR} (hp : S.T t = some p) (ha : p.2.act = true) :
    Calls Tryz.prog 21 #[.pointer (some ⟨P.m, 0, none⟩), .int .i64 (t : Nat)] w fun e w' => e = .returned (.int .i64 0) ∧ Hid (GoneRes w cls P q S t w') := by
  have HA := Lib.hid (h.active29 hp ha)
  have HG := Lib.hid (h.gone' H53 H68 hp)
  clear h hp
  go_enter Tryz.func21, Tryz.ntmps21
  go_wp2_with (first | (go_at_call 29; refine HA.out.mono ?_; rintro e w' ⟨rfl, rfl⟩) | (go_at_call 33; refine HG.out.mono ?_; rintro e w' ⟨rfl, hg⟩))
  go_ret
  exact ⟨rfl, hg⟩

set_option maxRecDepth 20000 in
set_option maxHeartbeats 2000000 in
theorem Mgr.abort21_no (h : Mgr w cls P q S) {t : Nat} (ht : t < 2 ^ 40) (hp : ∀ p, S.T t = some p → p.2.act = false) :
    Calls Tryz.prog 21 #[.pointer (some ⟨P.m, 0, none⟩), .int .i64 (t : Nat)] w fun e w' => e = .returned (.int .i64 101) ∧ w = w' := by
  have HA := Lib.hid (h.active29_no ht hp)
  clear h hp
  go_enter Tryz.func21, Tryz.ntmps21
  go_wp2_with (go_at_call 29; refine HA.out.mono ?_; rintro e w' ⟨rfl, rfl⟩)
  go_ret
  exact ⟨rfl, rfl⟩
end
end Go.Proofs.YteldfmgjbgedaaaGreat

namespace Go.Proofs.YteldfmgjbgedaaaGreat
open Go.RowKit Go.Maps

theorem eq66 (s u : List UInt8) (w : World) : (binOp .eql 66 (.agg #[.string ⟨#[116]⟩, .string ⟨s.toArray⟩]) (.agg #[.string ⟨#[116]⟩, .string ⟨u.toArray⟩])).run Tryz.prog w = .ok (.bool (s == u)) w := by
  have u9 := Tryz.underlying9
  have a9 := Tryz.isAgg9
  have z9 := Tryz.sizeOf9
  have hS : Tryz.prog.underlying 66 = some (.struct (Tryz.prog.fieldsOf 66)) := by kernel_rfl
  have hp : Tryz.prog.stoodInHeld 66 = false := by kernel_rfl
  rw [run_eql_struct, show (10000 : Nat) = 9999 + 1 from rfl, run_equalIn_agg w 9999 66 _ _ hS hp]
  simp only [Program.fieldsOf, Tryz.underlying66]
  go_simp
  by_cases h1 : s = u <;> simp [h1]

set_option maxRecDepth 20000 in
set_option maxHeartbeats 2000000 in
theorem index60 (w : World) {v : Value} {xs : List Key} {base : Nat} (ho : OwnRows w v 2 (lkRows xs) base) (s : Key) :
    Calls Tryz.prog 60 #[v, .agg #[.string ⟨#[116]⟩, .string ⟨s.toArray⟩]] w fun e w' => ∃ i : Int, e = .returned (.int .i64 i) ∧ (0 ≤ i ↔ s ∈ xs) ∧ Fr (fun _ => False) w w' := by
  obtain ⟨a, c, rfl⟩ := ho.len
  have hn : xs.length ≤ 9223372036854775807 := by have := ho.max; rw [lkRows_length] at this; exact this
  rw [lkRows_length] at ho ⊢
  have FB : Fr (fun _ => False) w (w.alloc (.cells #[.string ⟨#[116]⟩, .string ⟨s.toArray⟩] 66)) := (Fr.refl _ w).alloc _
  have HFB := Lib.hid FB
  have HO := Lib.hid (ho.keep FB (fun _ _ e => e))
  have hg66 : Tryz.prog.eqGuardType Tryz.prog.depth 66 = false := by kernel_rfl
  clear ho FB
  go_enter Tryz.func60, Tryz.ntmps60
  go_wp2
  go_loopw [8] (fun t8 wr => ∃ k : Nat, t8 = .int .i64 (k : Nat) ∧ k ≤ xs.length ∧ s ∉ xs.take k ∧ Fr (fun _ => False) (w.alloc (.cells #[.string ⟨#[116]⟩, .string ⟨s.toArray⟩] 66)) wr) (fun t8 _ => xs.length - (intOf t8).toNat)
  case atStart => exact ⟨0, rfl, Nat.zero_le _, by simp, Fr.refl _ _⟩
  case round =>
    obtain ⟨k, rfl, hk, hA, hf⟩ := hrel
    have HA := Lib.hid hA
    have HF := Lib.hid hf
    have rb : rowOf wr w.heap.size = #[.string ⟨#[116]⟩, .string ⟨s.toArray⟩] := (hf.row (by simp) (fun e => e)).trans (by simp [go_sem])
    clear hA
    by_cases hlt : k < xs.length
    · obtain ⟨g, rfl, hbg, hlg, -, hxc, hsz, hget⟩ := (HO.out.keep hf (fun _ _ e => e)).get (k := k) (by rw [lkRows_length]; exact hlt)
      have hrow : (lkRows xs)[k]'(by rw [lkRows_length]; exact hlt) = lkC xs[k] := by simp [lkRows]
      have c0 := hget 0 (by omega)
      have c1 := hget 1 (by omega)
      rw [hrow] at c0 c1
      have HM := Lib.hid (List.getElem_mem hlt)
      have HTK := Lib.hid (List.take_succ_eq_append_getElem hlt)
      have HLT := Lib.hid hlt
      generalize hq : xs[k] = u at c0 c1 HM HTK
      replace c0 : (rowOf wr g)[k * 2]? = some (.string ⟨#[116]⟩) := c0
      replace c1 : (rowOf wr g)[k * 2 + 1]? = some (.string ⟨u.toArray⟩) := c1
      have heq := fun w => eq66 s u w
      have hgd := fun (x y : Operand) (xs ys : Array Value) (w : World) => run_eqGuard_agg (P := Tryz.prog) w .eql 66 x y xs ys hg66
      have hki : (k : Int) < (xs.length : Int) := by omega
      clear hget hrow hq hf
      by_cases hsu : s = u
      · subst hsu
        have hb : (s == s) = true := by simp
        simp only [hb] at heq
        go_wp2_with fail
        go_region
        all_goals
          go_wp2
          go_ret
          exact ⟨k, rfl, ⟨fun _ => HM.out, fun _ => by omega⟩, HFB.out.trans HF.out.drew (fun _ _ h => h)⟩
      · have hb : (s == u) = false := by simp [hsu]
        simp only [hb] at heq
        go_wp2_with fail
        go_region
        all_goals
          go_wp2
          go_roundw
          case rel =>
            refine ⟨k + 1, by go_num, by have := HLT.out; omega, ?_, HF.out.drew⟩
            rw [HTK.out, List.mem_append]
            rintro (h | h)
            · exact HA.out h
            · exact hsu (List.mem_singleton.1 h)
          case measure => (have := HLT.out; simp only [intOf]; omega)
    · obtain rfl : k = xs.length := by omega
      clear hf
      go_wp2
      go_ret
      refine ⟨-1, rfl, ⟨fun h => by omega, fun h => ?_⟩, HFB.out.trans HF.out (fun _ _ h => h)⟩
      have := HA.out
      rw [List.take_of_length_le (Nat.le_refl _)] at this
      exact absurd h this

set_option maxRecDepth 20000 in
set_option maxHeartbeats 2000000 in
theorem contains36 (w : World) {v : Value} {xs : List Key} {base : Nat} (ho : OwnRows w v 2 (lkRows xs) base) (s : Key) :
    Calls Tryz.prog 36 #[v, .agg #[.string ⟨#[116]⟩, .string ⟨s.toArray⟩]] w fun e w' => ∃ rb, e = .returned (.bool rb) ∧ (rb = true ↔ s ∈ xs) ∧ Fr (fun _ => False) w w' := by
  have FB : Fr (fun _ => False) w (w.alloc (.cells #[.string ⟨#[116]⟩, .string ⟨s.toArray⟩] 66)) := (Fr.refl _ w).alloc _
  have HC := Lib.hid (index60 _ (ho.keep FB (fun _ _ e => e)) s)
  have HFB := Lib.hid FB
  clear ho FB
  go_enter Tryz.func36, Tryz.ntmps36
  go_wp2_with (go_at_call 60; refine HC.out.mono ?_; rintro e w3 ⟨i, rfl, hi, hf3⟩)
  go_ret
  exact ⟨_, rfl, by simp, HFB.out.trans hf3 (fun _ _ h => h)⟩

section
variable {w : World} {cls : Nat → Nat} {P : MP} {q : Nat} {S : MS}

set_option maxRecDepth 20000 in
set_option maxHeartbeats 2000000 in
/-- Write's first closure: whether another one has committed a write of the key. -/
theorem Mgr.write35 (h : Mgr w cls P q S) {o : Nat} {p : Nat × TR} (hp : S.T o = some p) (s : Key) {b : Nat} (hb : rowOf w b = #[.string ⟨#[116]⟩, .string ⟨s.toArray⟩]) :
    Calls Tryz.prog 35 (#[.pointer (some ⟨p.1, 0, none⟩)] ++ #[.pointer (some ⟨b, 0, none⟩)]) w fun e w' => ∃ rb, e = .returned (.bool rb) ∧ (rb = true ↔ p.2.act = false ∧ s ∈ S.W o) ∧ Fr (fun _ => False) w w' := by
  rw [show (#[.pointer (some ⟨p.1, 0, none⟩)] ++ #[.pointer (some ⟨b, 0, none⟩)] : Array Value) = #[.pointer (some ⟨p.1, 0, none⟩), .pointer (some ⟨b, 0, none⟩)] from by simp]
  obtain ⟨n1, g1, hn1, htx⟩ := h.tx
  obtain ⟨hfa, hla, hra, ht40⟩ := htx.at_ o p hp
  obtain ⟨how, hcw⟩ := h.wr o p hp
  have HC := Lib.hid (contains36 w.drew (how.keep ((Fr.refl (fun _ => False) w).drew) (fun _ _ e => e)) s)
  unfold TR.row txRow at hra
  clear h htx how hcw
  have hact : p.2.act = true ∨ p.2.act = false := by cases p.2.act <;> simp
  rcases hact with hact | hact <;> rw [hact] at hra
  · go_enter Tryz.func35, Tryz.ntmps35
    go_wp2_with fail
    go_region
    all_goals
      go_wp2
      go_ret
      exact ⟨false, rfl, by simp [hact], (Fr.refl _ w).drew⟩
  · go_enter Tryz.func35, Tryz.ntmps35
    go_wp2_with fail
    go_region_law (first | (go_simp; go_at_call 36; refine HC.out.mono ?_; rintro e w1 ⟨rb, rfl, h1, h2⟩))
    all_goals
      go_wp2
      go_ret
      exact ⟨rb, rfl, by simp [hact, h1], (Fr.refl _ w).drew.trans h2 (fun _ _ h => h)⟩

set_option maxRecDepth 20000 in
set_option maxHeartbeats 2000000 in
/-- Write's second closure: whether another one is among the readers. -/
theorem Mgr.write39 (h : Mgr w cls P q S) {o : Nat} {p : Nat × TR} (hp : S.T o = some p) {v : Value} {xs : List Nat} {base : Nat} (hv : OwnRows w v 1 (natRows xs) base) {b : Nat} (hb : rowOf w b = #[v]) :
    Calls Tryz.prog 39 (#[.pointer (some ⟨p.1, 0, none⟩)] ++ #[.pointer (some ⟨b, 0, none⟩)]) w fun e w' => ∃ rb, e = .returned (.bool rb) ∧ (rb = true ↔ o ∈ xs) ∧ Fr (fun _ => False) w w' := by
  rw [show (#[.pointer (some ⟨p.1, 0, none⟩)] ++ #[.pointer (some ⟨b, 0, none⟩)] : Array Value) = #[.pointer (some ⟨p.1, 0, none⟩), .pointer (some ⟨b, 0, none⟩)] from by simp]
  obtain ⟨n1, g1, hn1, htx⟩ := h.tx
  obtain ⟨hfa, hla, hra, ht40⟩ := htx.at_ o p hp
  have hnum := (h.ct o p hp).2.1
  obtain ⟨a, c, rfl⟩ := hv.len
  have HC := Lib.hid (contains40 w.drew (hv.keep ((Fr.refl (fun _ => False) w).drew) (fun _ _ e => e)) o)
  unfold TR.row txRow at hra
  rw [hnum] at hra
  clear h htx hv
  go_enter Tryz.func39, Tryz.ntmps39
  go_wp2_with fail
  go_region_law (first | (go_simp; go_at_call 40; refine HC.out.mono ?_; rintro e w1 ⟨rb, rfl, h1, h2⟩))
  all_goals
    go_wp2
    go_ret
    exact ⟨rb, rfl, h1, (Fr.refl _ w).drew.trans h2 (fun _ _ h => h)⟩
end
end Go.Proofs.YteldfmgjbgedaaaGreat
