/-
  The reference of package disk: Load.
-/
import Derived.Test.YtflnlpbcmcfblaaRef13
namespace Go.Proofs.Ytflnlpbcmcfblaa
open Go.RowKit

theorem results43 {w : World} {t : Array Value} {g : Nat} {q : Int} {c0 c1 c2 c3 c4 c5 c6 c7 : Value} (h2 : t[4]?.getD undef = .pointer (some ⟨g, 0, none⟩)) (h3 : t[5]?.getD undef = .int .i64 q) (hr : rowOf w g = #[c0, c1, c2, c3, c4, c5, c6, c7]) :
    (results Try.f43 t).run Try.prog w = .ok (.tuple #[.agg #[c0, c1, c2, c3, c4, c5, c6, c7], .int .i64 q]) w := by
  cases hi : Try.prog.info? 50 with
  | none => have := size50; rw [hi] at this; cases this
  | some i =>
    have hs : i.size = 8 := by have := size50; rw [hi] at this; exact Option.some.inj this
    simp [results, Try.results43, go_sem, h2, h3, isAgg, run_underlying Try.underlying50, sizeOf, typeInfo, hi, hs, hr]

/-- What Load takes. -/
def LoadFits (image : List UInt8) (torn : List Int) : Prop := image.length % 64 = 0 ∧ 1 ≤ image.length / 64 ∧ image.length / 64 ≤ 16384 ∧ ∀ t ∈ torn, 0 ≤ t ∧ t < (image.length / 64 : Nat)

set_option maxRecDepth 20000 in
set_option maxHeartbeats 1000000 in
theorem rload_bad1 (w : World) (a : Option Addr) (L cap : Nat) (tv : Value) (hL : L ≤ 9223372036854775807) (h : L % 64 ≠ 0 ∨ L / 64 < 1 ∨ 16384 < L / 64) :
    Calls Try.prog 43 #[.slice a L cap, tv] w fun e w' => e = .returned (.tuple #[.agg zero50, .int .i64 1]) ∧ Fr (fun _ => False) w w' := by
  have E1 : Int.tmod (L : Int) 64 = ((L % 64 : Nat) : Int) := by rfl
  have E2 : Int.tdiv (L : Int) 64 = ((L / 64 : Nat) : Int) := by rfl
  have hq : L / 64 ≤ 9223372036854775807 := by omega
  obtain ⟨n, hn⟩ : ∃ n, L / 64 = n := ⟨_, rfl⟩
  rw [hn] at hq
  obtain ⟨m, hm⟩ : ∃ n, L % 64 = n := ⟨_, rfl⟩
  rw [hm] at h E1
  rw [hn] at h E2
  clear hn hm
  by_cases h1 : m = 0
  · subst h1
    have E3 : Int.tmod (L : Int) 64 = 0 := E1
    by_cases h2 : n < 1
    · have h3 : (n : Int) < 1 := by omega
      clear h E1
      go_enter Try.func43, Try.ntmps43
      go_wp2
      exact bodyPost_ret (results43 rfl rfl (rowOf_alloc_at _ _ _ _ _ rfl)) rfl ⟨rfl, (Fr.refl _ w).alloc _⟩
    · have h3 : ¬ (n : Int) < 1 := by omega
      have h4 : (16384 : Int) < n := by omega
      clear h E1
      go_enter Try.func43, Try.ntmps43
      go_wp2
      exact bodyPost_ret (results43 rfl rfl (rowOf_alloc_at _ _ _ _ _ rfl)) rfl ⟨rfl, (Fr.refl _ w).alloc _⟩
  · have h3 : ((m : Int) != 0) = true := by simpa using h1
    clear h
    go_enter Try.func43, Try.ntmps43
    go_wp2
    exact bodyPost_ret (results43 rfl rfl (rowOf_alloc_at _ _ _ _ _ rfl)) rfl ⟨rfl, (Fr.refl _ w).alloc _⟩

set_option maxRecDepth 20000 in
set_option maxHeartbeats 1000000 in
theorem rload_bad2 (w : World) (a : Option Addr) (L cap : Nat) (tv : Value) (torn : List Int) (h0 : L % 64 = 0) (h1 : 1 ≤ L / 64) (h2 : L / 64 ≤ 16384) (ht : IntsAt w tv torn) (hbad : ¬ ∀ t ∈ torn, 0 ≤ t ∧ t < (L / 64 : Nat)) :
    Calls Try.prog 43 #[.slice a L cap, tv] w fun e w' => e = .returned (.tuple #[.agg zero50, .int .i64 1]) ∧ Fr (fun _ => False) w w' := by
  have E1 : Int.tmod (L : Int) 64 = ((L % 64 : Nat) : Int) := by rfl
  have E2 : Int.tdiv (L : Int) 64 = ((L / 64 : Nat) : Int) := by rfl
  rw [h0] at E1
  have E3 : Int.tmod (L : Int) 64 = 0 := E1
  obtain ⟨n, hn⟩ : ∃ n, L / 64 = n := ⟨_, rfl⟩
  rw [hn] at E2 h1 h2 hbad
  obtain ⟨at_, capt, rfl, hmt, -⟩ := id ht
  obtain ⟨q, hq⟩ : ∃ q, torn.length = q := ⟨_, rfl⟩
  have HQ := Lib.hid hq
  rw [hq] at ht hmt ⊢
  have HT := Lib.hid ht
  have HB := Lib.hid hbad
  have n1 : ¬ (n : Int) < 1 := by omega
  have n2 : ¬ (16384 : Int) < n := by omega
  clear hn h0 E1 ht hbad hq
  go_enter Try.func43, Try.ntmps43
  go_wp2
  go_loop [7] (fun i => ∃ k : Nat, k ≤ q ∧ i = .int .i64 k ∧ Hid (∀ j (h : j < torn.length), j < k → 0 ≤ torn[j] ∧ torn[j] < (n : Int))) (fun i => q - (intOf i).toNat)
  case atStart => exact ⟨0, Nat.zero_le _, rfl, fun j h hj => by omega⟩
  case round =>
    obtain ⟨k, hk, rfl, hall⟩ := hrel
    by_cases hlt : k < q
    · obtain ⟨gx, ox, hax, hc0⟩ := HT.out.cell HQ.out hlt
      subst hax
      have hgx : gx < w.heap.size := rowOf_lt (by have := (Array.getElem?_eq_some_iff.1 hc0).1; omega)
      have hki : (k : Int) < (q : Int) := by omega
      obtain ⟨x, hx⟩ : ∃ x, torn[k]'(by have := HQ.out; omega) = x := ⟨_, rfl⟩
      rw [hx] at hc0
      have HX := Lib.hid hx
      clear hx
      by_cases hx0 : x < 0
      · go_wp2
        exact bodyPost_ret (results43 rfl rfl (rowOf_alloc_at _ _ _ _ _ rfl)) rfl ⟨rfl, (Fr.refl _ w).alloc _⟩
      · by_cases hx1 : (n : Int) ≤ x
        · go_wp2
          exact bodyPost_ret (results43 rfl rfl (rowOf_alloc_at _ _ _ _ _ rfl)) rfl ⟨rfl, (Fr.refl _ w).alloc _⟩
        · go_wp2
          go_round
          case rel =>
            refine ⟨k + 1, by omega, by go_num, fun j h hj => ?_⟩
            by_cases e : j = k
            · subst e; rw [HX.out]; omega
            · exact hall.out j h (by omega)
          case measure => simp [intOf]; omega
    · exfalso
      apply HB.out
      intro x hx
      obtain ⟨j, hj, rfl⟩ := List.getElem_of_mem hx
      exact hall.out j hj (by have := HQ.out; omega)

/-- A block filled in place. -/
theorem RVal.fill {w w' : World} {f : Nat → Prop} {gd gt n : Nat} {S : DS} (h : RVal w f gd gt n S) (hd : RDist w gd n) {k gu ext : Nat} {c e : List UInt8} (hk : k < n) (hc : c.length = 64) (hu : (rowOf w gd)[k]? = some (.slice (some ⟨gu, 0, none⟩) 64 (64 + ext)))
    (hf : Fr (fun i => i = gu) w w') (he : e.length = ext) (hx : 64 + ext ≤ maxLen) (hl : live w' gu = true) (hrow : rowOf w' gu = bvA (c ++ e)) (ht : S.torn[k]? = some false) : RVal w' f gd gt n (S.lay (k, c)) ∧ RDist w' gd n := by
  have hkc : k < S.chunks.length := by rw [DS.chunks_len h.ok, h.nn]; exact hk
  obtain ⟨u, a1, a2, a3⟩ := h.data k hkc
  rw [hu] at a1
  obtain rfl := Option.some.inj a1
  obtain ⟨f1, n1, n2⟩ := a3 gu rfl
  have rd : rowOf w' gd = rowOf w gd := hf.row (live_lt h.ld) (fun e => n1 e.symm)
  have rt : rowOf w' gt = rowOf w gt := hf.row (live_lt h.lt) (fun e => n2 e.symm)
  have htr : S.torn.set k false = S.torn := by
    apply List.ext_getElem
    · simp
    · intro i h1 h2
      rw [List.getElem_set]
      by_cases e : k = i
      · subst e; rw [if_pos rfl]; rw [List.getElem?_eq_getElem h2] at ht; exact (Option.some.inj ht).symm
      · rw [if_neg e]
  refine ⟨⟨lay_ok h.ok hc, by simp [DS.lay, h.nn], h.pe, h.off, h.pl, h.wr, h.sy, by rw [hf.liv (live_lt h.ld) (fun e => n1 e.symm)]; exact h.ld, by rw [hf.liv (live_lt h.lt) (fun e => n2 e.symm)]; exact h.lt, fun i hi => ?_, fun i hi => ?_, h.fd, h.ft, h.n3, fun k hk => Nat.lt_of_lt_of_le (h.lt' k hk) hf.size⟩, ?_⟩
  · simp only [chunks_lay, List.length_set] at hi ⊢
    obtain ⟨v, b1, b2, b3⟩ := h.data i hi
    by_cases ei : k = i
    · subst ei
      rw [hu] at b1
      obtain rfl := Option.some.inj b1
      refine ⟨_, by rw [rd]; exact hu, ?_, b3⟩
      rw [List.getElem_set_self]
      exact ⟨gu, e, by rw [hc, he], Nat.zero_le _, hl, by rw [hc, he]; exact hx, hrow⟩
    · refine ⟨v, by rw [rd]; exact b1, ?_, b3⟩
      rw [List.getElem_set_ne ei]
      refine b2.keep hf (fun j hj e => ?_)
      have hin : i < n := by rw [DS.chunks_len h.ok, h.nn] at hi; exact hi
      rcases Nat.lt_or_gt_of_ne ei with hlt | hlt
      · exact hd k i hlt hin _ _ hu b1 (by rw [hj, e]; rfl)
      · exact hd i k hlt hk _ _ b1 hu (by rw [hj, e]; rfl)
  · simp only [DS.lay, htr] at hi ⊢
    rw [rt]; exact h.torn i hi
  · unfold RDist
    rw [rd]; exact hd

end Go.Proofs.Ytflnlpbcmcfblaa
