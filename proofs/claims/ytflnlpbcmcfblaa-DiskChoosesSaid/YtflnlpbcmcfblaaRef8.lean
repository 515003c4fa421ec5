/-
  The reference of package disk: Crash.
-/
import Derived.Test.YtflnlpbcmcfblaaRef7
namespace Go.Proofs.Ytflnlpbcmcfblaa
open Go.RowKit

/-- What the walk reads of a slice of ints of length q at index k. -/
theorem IntsAt.cell {w : World} {a : Option Addr} {q cap : Nat} {l : List Int} (h : IntsAt w (.slice a q cap) l) (hq : l.length = q) {k : Nat} (hk : k < q) :
    ∃ g o, a = some ⟨g, o, none⟩ ∧ (rowOf w g)[o + k]? = some (.int .i64 (l[k]'(by omega))) := by
  obtain ⟨a', c', he, -, hnil | ⟨g, o, hax, hcell⟩⟩ := h
  · exfalso; rw [hnil] at hq; simp at hq; omega
  · simp only [Value.slice.injEq] at he
    obtain ⟨rfl, -, -⟩ := he
    exact ⟨g, o, hax, hcell k (by omega)⟩

set_option maxRecDepth 20000 in
set_option maxHeartbeats 1000000 in
theorem rcrash_bad1 (w : World) (f : Nat → Prop) (r gd gt : Nat) (S : DS) (h : RRep w f r gd gt S) (a : Option Addr) (n cap : Nat) (hn : S.pend.length < n) :
    Calls Try.prog 35 #[.pointer (some ⟨r, 0, none⟩), .slice a n cap] w fun e w' => e = .returned (.int .i64 1) ∧ w = w' := by
  obtain ⟨cd, ct, wv, hrow, xs, hox, hsx, hlx, hex⟩ := h.ex
  have hxl : xs.length = S.pend.length := by rw [hlx]; simp [pendI]
  obtain ⟨a2, c2, rfl⟩ := hox.len
  rw [hxl] at hrow
  have h0 : (S.pend.length : Int) < (n : Int) := by omega
  clear h hsx hlx hex hox
  go_enter Try.func35, Try.ntmps35
  go_wp2
  go_ret
  exact ⟨rfl, rfl⟩

set_option maxRecDepth 20000 in
set_option maxHeartbeats 1000000 in
theorem rcrash_bad2 (w : World) (f : Nat → Prop) (r gd gt : Nat) (S : DS) (h : RRep w f r gd gt S) (a : Option Addr) (cap : Nat) (l : List Int) (hk : IntsAt w (.slice a l.length cap) l) (hn : l.length ≤ S.pend.length) (hbad : ¬ (∀ k ∈ l, 0 ≤ k ∧ k ≤ 2)) :
    Calls Try.prog 35 #[.pointer (some ⟨r, 0, none⟩), .slice a l.length cap] w fun e w' => e = .returned (.int .i64 1) ∧ w = w' := by
  obtain ⟨cd, ct, wv, hrow, xs, hox, hsx, hlx, hex⟩ := h.ex
  have hxl : xs.length = S.pend.length := by rw [hlx]; simp [pendI]
  obtain ⟨a2, c2, rfl⟩ := hox.len
  rw [hxl] at hrow
  have hlm : l.length ≤ 9223372036854775807 := by obtain ⟨_, _, _, h, _⟩ := hk; exact h
  have HB := Lib.hid hbad
  have HK := Lib.hid hk
  obtain ⟨q, hq⟩ : ∃ q, l.length = q := ⟨_, rfl⟩
  have HQ := Lib.hid hq
  rw [hq] at HK hlm hn ⊢
  have hd0 : decide (S.pend.length < q) = false := by simp; omega
  have h0 : ¬ ((S.pend.length : Int) < (q : Int)) := by omega
  clear h hsx hlx hex hox hbad hk hq hxl
  go_enter Try.func35, Try.ntmps35
  go_wp2
  go_loop [5] (fun i => ∃ k : Nat, k ≤ q ∧ i = .int .i64 k ∧ Hid (∀ j (h : j < l.length), j < k → 0 ≤ l[j] ∧ l[j] ≤ 2)) (fun i => q - (intOf i).toNat)
  case atStart => exact ⟨0, Nat.zero_le _, rfl, fun j h hj => by omega⟩
  case round =>
    obtain ⟨k, hk, rfl, hall⟩ := hrel
    by_cases hlt : k < q
    · obtain ⟨g, o, rfl, hc0⟩ := HK.out.cell HQ.out hlt
      have hki : (k : Int) < (q : Int) := by omega
      obtain ⟨x, hx⟩ : ∃ x, l[k]'(by have := HQ.out; omega) = x := ⟨_, rfl⟩
      rw [hx] at hc0
      have HX := Lib.hid hx
      clear hx
      by_cases hx0 : 0 ≤ x ∧ x ≤ 2
      · obtain ⟨hx1, hx2⟩ := hx0
        go_wp2
        go_round
        case rel =>
          refine ⟨k + 1, by omega, by go_num, fun j h hj => ?_⟩
          by_cases e : j = k
          · subst e; rw [HX.out]; exact ⟨hx1, hx2⟩
          · exact hall.out j h (by omega)
        case measure => simp [intOf]; omega
      · by_cases hx1 : x < 0
        · clear hx0
          go_wp2
          go_ret
          exact ⟨rfl, rfl⟩
        · have hx2 : 2 < x := by omega
          clear hx0
          go_wp2
          go_ret
          exact ⟨rfl, rfl⟩
    · exfalso
      apply HB.out
      intro x hx
      obtain ⟨j, hj, rfl⟩ := List.getElem_of_mem hx
      exact hall.out j hj (by have := HQ.out; omega)

theorem keepOne_ok {S : DS} (h : S.Ok) {x : (Nat × List UInt8) × Int} (hx : x.1 ∈ S.pend) : (S.keepOne x).Ok := by
  unfold DS.keepOne
  split
  · exact lay_ok h (h.pe _ hx).2
  · split
    · exact tearN_ok h x.1.1
    · exact h

set_option maxRecDepth 20000 in
set_option maxHeartbeats 4000000 in
theorem rcrash_ok (w : World) (f : Nat → Prop) (r gd gt : Nat) (S : DS) (h : RRep w f r gd gt S) (a : Option Addr) (cap : Nat) (l : List Int) (hk : ∀ w', Fr f w w' → IntsAt w' (.slice a l.length cap) l) (hn : l.length ≤ S.pend.length) (hall : ∀ k ∈ l, 0 ≤ k ∧ k ≤ 2) :
    Calls Try.prog 35 #[.pointer (some ⟨r, 0, none⟩), .slice a l.length cap] w fun e w' => e = .returned (.int .i64 0) ∧ ∃ f', RRep w' f' r gd gt { S.keepAll (S.pend.zip l) with pend := [], off := false, pl := false, left := 0 } ∧ Moves f f' w w' := by
  have H := Lib.hid h
  obtain ⟨cd, ct, wv, hrow, xs, hox, hsx, hlx, hex⟩ := h.ex
  have hxl : xs.length = S.pend.length := by rw [hlx]; simp [pendI]
  obtain ⟨a2, c2, rfl⟩ := hox.len
  rw [hxl] at hrow
  have hlm : l.length ≤ 9223372036854775807 := by obtain ⟨_, _, _, h, _⟩ := hk w (Fr.refl _ _); exact h
  have HA := Lib.hid hall
  have HK := Lib.hid hk
  obtain ⟨q, hq⟩ : ∃ q, l.length = q := ⟨_, rfl⟩
  have HQ := Lib.hid hq
  rw [hq] at HK hlm hn ⊢
  have h0 : ¬ ((S.pend.length : Int) < (q : Int)) := by omega
  have hd0 : decide (S.pend.length < q) = false := by simp; omega
  have HN := Lib.hid hn
  clear h hsx hlx hex hox hall hk hq hxl
  go_enter Try.func35, Try.ntmps35
  go_wp2
  go_loop [5] (fun i => ∃ k : Nat, k ≤ q ∧ i = .int .i64 k) (fun i => q - (intOf i).toNat)
  case atStart => exact ⟨0, Nat.zero_le _, rfl⟩
  case round =>
    obtain ⟨k, hk, rfl⟩ := hrel
    by_cases hlt : k < q
    · obtain ⟨g, o, rfl, hc0⟩ := (HK.out w (Fr.refl _ _)).cell HQ.out hlt
      have hki : (k : Int) < (q : Int) := by omega
      obtain ⟨hx1, hx2⟩ := HA.out _ (List.getElem_mem (show k < l.length by have := HQ.out; omega))
      obtain ⟨x, hx⟩ : ∃ x, l[k]'(by have := HQ.out; omega) = x := ⟨_, rfl⟩
      rw [hx] at hc0 hx1 hx2
      clear hx
      go_wp2
      go_round
      case rel => exact ⟨k + 1, by omega, by go_num⟩
      case measure => simp [intOf]; omega
    · obtain rfl : k = q := by omega
      clear hrow h0 hd0
      go_wp2
      go_loopw [6] (fun i wr => ∃ (j : Nat) (fk : Nat → Prop), j ≤ k ∧ i = .int .i64 j ∧ RRep wr fk r gd gt (S.keepAll ((S.pend.zip l).take j)) ∧ Moves f fk w wr) (fun i _ => k - (intOf i).toNat)
      case atStart => exact ⟨0, f, Nat.zero_le _, rfl, H.out, Moves.refl _ _⟩
      case round =>
        obtain ⟨j, fk, hj, rfl, hrep, hmv⟩ := hrel
        have HREP := Lib.hid hrep
        have HMV := Lib.hid hmv
        have LF := Lib.hid (keepAll_fields ((S.pend.zip l).take j) S)
        have TS := Lib.hid (fun hh => keepAll_take_succ S (S.pend.zip l) j hh)
        have KI := Lib.hid (HK.out wr hmv.fr)
        obtain ⟨T, hT⟩ : ∃ T, S.keepAll ((S.pend.zip l).take j) = T := ⟨_, rfl⟩
        rw [hT] at HREP LF TS hrep
        have HT := Lib.hid hT
        obtain ⟨cd2, ct2, wv2, hrow2, xs2, hox2, hsx2, hlx2, hex2⟩ := hrep.ex
        have hpl : T.pend = S.pend := LF.out.1
        have hlr := hrep.lr
        rw [hpl] at hlx2 hex2
        have hxl2 : xs2.length = S.pend.length := by rw [hlx2]; simp [pendI]
        clear hT hrep hmv
        by_cases hlt2 : j < k
        · have hjp : j < S.pend.length := by have := HN.out; omega
          have hjl : j < l.length := by have := HQ.out; omega
          obtain ⟨g, o, hga, hc0⟩ := KI.out.cell HQ.out hlt2
          subst hga
          obtain ⟨vd, e1, e2, e3⟩ := hex2 j (by omega) (by rw [← hlx2]; omega)
          have E2 := Lib.hid e2
          have E3 := Lib.hid e3
          rcases hox2 with ⟨rfl, rfl⟩ | ⟨gx, cx, rfl, b1, b2, ⟨b3, b3p⟩, b4, b5, b6⟩
          · simp at hxl2; omega
          have hc := b6 j (by omega)
          rw [e1] at hc
          have hb : j * 2 + 2 ≤ (rowOf wr gx).size := by have := Nat.mul_le_mul_right 2 (show j + 1 ≤ cx by omega); omega
          have g0 := cut_get (cur := rowOf wr gx) (off := j * 2) (n := 2) hb 0 (by omega)
          have g1 := cut_get (cur := rowOf wr gx) (off := j * 2) (n := 2) hb 1 (by omega)
          rw [hc] at g0 g1
          have hp0 : (pendI S.pend)[j]'(by rw [← hlx2]; omega) = ((S.pend[j].1 : Int), S.pend[j].2) := by simp [pendI]
          rw [hp0] at E2 g0 g1
          obtain ⟨q1, q2⟩ := H.out.ok.pe _ (List.getElem_mem hjp)
          have hz : (S.pend.zip l)[j]'(by simp; omega) = (S.pend[j], l[j]) := by simp
          have TK := Lib.hid (TS.out (by simp; omega))
          rw [hz] at TK
          obtain ⟨hx1, hx2⟩ := HA.out _ (List.getElem_mem hjl)
          obtain ⟨⟨ka, b⟩, hqq⟩ : ∃ q, S.pend[j] = q := ⟨_, rfl⟩
          obtain ⟨x, hx⟩ : ∃ x, l[j] = x := ⟨_, rfl⟩
          have HX := Lib.hid hx
          rw [hqq] at q1 q2 E2 g0 g1 TK
          rw [hx] at hc0 hx1 hx2 TK
          simp only at q1 q2 E2 g0 g1
          have c0 : (rowOf wr gx)[j * 2]? = some (.int .i64 ka) := by simpa using g0.symm
          have c1 : (rowOf wr gx)[j * 2 + 1]? = some vd := by simpa using g1.symm
          have hki : (j : Int) < (S.pend.length : Int) := by omega
          have hkq : (j : Int) < (k : Int) := by omega
          have hka : ka < T.data.length := by rw [LF.out.2.2.2]; exact q1
          rw [hxl2] at hrow2
          clear b3 b3p b4 b5 b6 b1 hc hb g0 g1 hp0 hex2 hsx2 hlx2 hqq e1 e2 e3 hxl2 LF hx hz TS
          by_cases hxa : x = 1
          · subst hxa
            go_wp2_with fail
            refine (rlay_any wr fk r gd gt T HREP.out ka b hka q2 vd E2.out.at_ (fun t ht => ⟨(E3.out t ht).2.2.1, (E3.out t ht).2.2.2⟩)).mono ?_
            rintro e w3 ⟨rfl, f3, h3, m3⟩
            have H3 := Lib.hid h3
            have M3 := Lib.hid (HMV.out.trans m3)
            obtain ⟨g5, o5, hg5, hc5⟩ := (HK.out w3 M3.out.fr).cell HQ.out hlt2
            simp only [Option.some.injEq, Addr.mk.injEq, and_true] at hg5
            obtain ⟨rfl, rfl⟩ := hg5
            rw [HX.out] at hc5
            have EK : S.keepAll ((S.pend.zip l).take (j + 1)) = T.lay (ka, b) := by rw [TK.out]; rfl
            have HEK := Lib.hid EK
            clear h3 m3 hrow2 c0 c1 hc0 EK
            go_wp2
            go_roundw
            case rel => exact ⟨j + 1, f3, by omega, by go_num, by rw [HEK.out]; exact H3.out, M3.out⟩
            case measure => simp [intOf]; omega
          · by_cases hxb : x = 2
            · subst hxb
              have EK : S.keepAll ((S.pend.zip l).take (j + 1)) = T.tearN ka := by rw [TK.out]; rfl
              have HEK := Lib.hid EK
              clear EK
              go_wp2_with fail
              refine (rtear_any wr fk r gd gt T HREP.out ka hka).mono ?_
              rintro e w3 ⟨rfl, f3, h3, m3⟩
              have H3 := Lib.hid h3
              have M3 := Lib.hid (HMV.out.trans m3)
              clear h3 m3 hrow2 c0 c1 hc0
              go_wp2
              go_roundw
              case rel => exact ⟨j + 1, f3, by omega, by go_num, by rw [HEK.out]; exact H3.out, M3.out⟩
              case measure => simp [intOf]; omega
            · have EK : S.keepAll ((S.pend.zip l).take (j + 1)) = T := by rw [TK.out]; unfold DS.keepOne; rw [if_neg hxa, if_neg hxb]
              have HEK := Lib.hid EK
              clear EK
              go_wp2
              go_roundw
              case rel => exact ⟨j + 1, fk, by omega, by go_num, by rw [HEK.out]; exact HREP.out, HMV.out⟩
              case measure => simp [intOf]; omega
        · obtain rfl : j = k := by omega
          have hl : ∃ a c, wv2 = .slice a S.pend.length c := by
            obtain ⟨a, c, e⟩ := hox2.len
            exact ⟨a, c, by rw [e, hxl2]⟩
          obtain ⟨a3, c3, rfl⟩ := hl
          have HR2 := Lib.hid hrow2
          have OKH := Lib.hid (show DS.Ok { T with pend := [], off := false, pl := false, left := 0 } from by
            have h := HREP.out.ok
            exact ⟨h.n0, h.n1, h.tl, h.dl, fun q hq => by simp at hq, by simp, by simp⟩)
          clear hex2 hsx2 hlx2 hox2
          go_wp2
          go_ret
          have eT : S.keepAll (S.pend.zip l) = T := by
            have := HT.out
            rwa [List.take_of_length_le (by simp; have := HQ.out; omega)] at this
          rw [eT]
          refine ⟨rfl, fk, ?_, ⟨HMV.out.fr.trans ((Fr.refl (fun k => k = r) wr).setRow _ _ (fun _ => rfl)) (fun t ht e => ?_), HMV.out.new⟩⟩
          · exact HREP.out.set (S' := { T with pend := [], off := false, pl := false, left := 0 }) HR2.out rfl rfl OKH.out rfl rfl rfl rfl (.inr ⟨rfl, rfl⟩)
          · rw [e]; exact H.out.fr

end Go.Proofs.Ytflnlpbcmcfblaa
