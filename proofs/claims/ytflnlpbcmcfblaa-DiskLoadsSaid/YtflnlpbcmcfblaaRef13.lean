/-
  The reference of package disk: Read.
-/
import Derived.Test.YtflnlpbcmcfblaaTwo
namespace Go.Proofs.Ytflnlpbcmcfblaa
open Go.RowKit

set_option maxRecDepth 20000 in
set_option maxHeartbeats 1000000 in
theorem rread_bad (w : World) (f : Nat → Prop) (r gd gt : Nat) (S : DS) (h : RRep w f r gd gt S) (n : Int) (hr : S.ready n ≠ 0) :
    Calls Try.prog 77 #[.pointer (some ⟨r, 0, none⟩), .int .i64 n] w fun e w' => e = .returned (.tuple #[.slice none 0 0, .int .i64 (S.ready n)]) ∧ w = w' := by
  obtain ⟨cd, ct, wv, hrow⟩ := h.row
  clear h
  unfold DS.ready at *
  cases ho : S.off with
  | true =>
    rw [ho] at hrow
    have e : readyI true n S.data.length = 22 := by simp [readyI]
    rw [e]
    clear hr ho
    go_enter Try.func77, Try.ntmps77
    go_wp2
    go_ret2
    exact ⟨rfl, rfl⟩
  | false =>
    rw [ho] at hrow hr
    have e : readyI false n S.data.length = 20 := by
      unfold readyI at hr ⊢
      simp at hr ⊢
      omega
    rw [e]
    have hb : n < 0 ∨ (S.data.length : Int) ≤ n := by
      unfold readyI at hr
      simp at hr
      omega
    clear hr ho e
    rcases hb with hb | hb
    · go_enter Try.func77, Try.ntmps77
      go_wp2
      go_ret2
      exact ⟨rfl, rfl⟩
    · have hn : ¬ n < 0 := by omega
      go_enter Try.func77, Try.ntmps77
      go_wp2
      go_ret2
      exact ⟨rfl, rfl⟩

set_option maxRecDepth 20000 in
set_option maxHeartbeats 2000000 in
theorem rread_ok (w : World) (f : Nat → Prop) (r gd gt : Nat) (S : DS) (h : RRep w f r gd gt S) (n : Nat) (hr : S.ready n = 0) (hm : S.pend.length ≤ 2199023255552) :
    Calls Try.prog 77 #[.pointer (some ⟨r, 0, none⟩), .int .i64 (n : Int)] w fun e w' => ∃ v, e = .returned (.tuple #[v, .int .i64 (S.read n).1]) ∧ ReadOut w' v (S.read n).2 w.heap.size ∧ Fr (fun _ => False) w w' := by
  obtain ⟨cd, ct, wv, hrow, xs, hox, hsx, hlx, hex⟩ := h.ex
  have hxl : xs.length = S.pend.length := by rw [hlx]; simp [pendI]
  obtain ⟨a2, c2, rfl⟩ := hox.len
  rw [hxl] at hrow
  obtain ⟨ho, h0, h1⟩ := readyI_zero.1 (show readyI S.off n S.data.length = 0 from hr)
  rw [ho] at hrow
  have hnl : n < S.data.length := by omega
  have hntl : n < S.torn.length := by rw [h.ok.tl]; exact hnl
  have hncl : n < S.chunks.length := by rw [DS.chunks_len h.ok]; exact hnl
  have hn0 : ¬ (n : Int) < 0 := by omega
  have hn1 : ¬ (S.data.length : Int) ≤ n := by omega
  have H := Lib.hid h
  have HR := Lib.hid hr
  have HOX := Lib.hid hox
  have HEX := Lib.hid hex
  have HLX := Lib.hid hlx
  have HXL := Lib.hid hxl
  obtain ⟨m, hmm⟩ : ∃ m, S.pend.length = m := ⟨_, rfl⟩
  have HMM := Lib.hid hmm
  rw [hmm] at hrow hm
  have ht0 := h.torn n hntl
  have hch := DS.chunk_get h.ok n hntl hnl hncl
  obtain ⟨u, hd0, ou, -⟩ := h.data n hncl
  have OU := Lib.hid ou
  have HCH := Lib.hid hch
  have C64 := Lib.hid (DS.chunk64 h.ok _ (List.getElem_mem hncl))
  clear h hr hox hsx hlx hex hxl ho h0 h1 hmm ou hch
  go_enter Try.func77, Try.ntmps77
  go_wp2
  go_loop [6] (fun i => ∃ j : Nat, j ≤ m ∧ i = .int .i64 ((j : Int) - 1) ∧ Hid (DS.lastOf (S.pend.take j) n = DS.lastOf S.pend n)) (fun i => (intOf i + 1).toNat)
  case atStart => exact ⟨m, Nat.le_refl _, rfl, by rw [List.take_of_length_le (by rw [HMM.out]; exact Nat.le_refl _)]; exact Lib.hid rfl⟩
  case round =>
    obtain ⟨j, hj, rfl, hlast⟩ := hrel
    cases j with
    | zero =>
      have hl : DS.lastOf S.pend n = none := by have := hlast.out; simp [lastOf_nil] at this; exact this.symm
      have E := Lib.hid (read_none HR.out hl)
      have ht1 : S.torn[n]?.getD false = S.torn[n] := by rw [List.getElem?_eq_getElem hntl]; rfl
      have hd1 : S.data[n]?.getD [] = S.data[n] := by rw [List.getElem?_eq_getElem hnl]; rfl
      have HT1 := Lib.hid ht1
      have HD1 := Lib.hid hd1
      clear hl ht1 hd1 hlast
      by_cases htt : S.torn[n] = true
      · rw [htt] at ht0
        have HTT := Lib.hid htt
        clear htt
        go_wp2
        go_ret2
        rw [E.out, HT1.out, HTT.out]
        exact ⟨_, rfl, rfl, Fr.refl _ _⟩
      · have htt2 : S.torn[n] = false := by simpa using htt
        rw [htt2] at ht0
        have HTT := Lib.hid htt2
        clear htt htt2
        go_wp2_with fail
        refine (copied_any w u S.chunks[n] OU.out.at_ (by have := C64.out; omega)).mono ?_
        rintro e w3 ⟨v3, rfl, o3, f3⟩
        have O3 := Lib.hid o3
        have F3 := Lib.hid f3
        clear o3 f3
        go_wp2
        go_ret2
        rw [E.out, HT1.out, HTT.out, HD1.out]
        refine ⟨_, rfl, ?_, F3.out⟩
        have hc : S.chunks[n] = S.data[n] := by have := HCH.out; rw [HTT.out] at this; simpa [shown] using this
        have := O3.out.own (by have := C64.out; omega)
        rw [hc] at this
        exact this
    | succ j =>
      have ej : (((j + 1 : Nat) : Int) - 1) = (j : Int) := by omega
      have hjp : j < S.pend.length := by have := HMM.out; omega
      have hjx : j < xs.length := by have := HXL.out; omega
      obtain ⟨vd, e1, e2, -⟩ := HEX.out j hjx (by rw [← HLX.out]; exact hjx)
      have E2 := Lib.hid e2
      have hp0 : (pendI S.pend)[j]'(by rw [← HLX.out]; exact hjx) = ((S.pend[j].1 : Int), S.pend[j].2) := by simp [pendI]
      rw [hp0] at e1 E2
      have hs : DS.lastOf (S.pend.take (j + 1)) n = if S.pend[j].1 = n then some S.pend[j].2 else DS.lastOf (S.pend.take j) n := by
        rw [List.take_succ_eq_append_getElem hjp, lastOf_snoc]
      rw [hlast.out] at hs
      obtain ⟨q1, q2⟩ := H.out.ok.pe _ (List.getElem_mem hjp)
      obtain ⟨⟨ka, b⟩, hqq⟩ : ∃ q, S.pend[j] = q := ⟨_, rfl⟩
      rw [hqq] at e1 E2 hs q1 q2
      simp only at e1 E2 hs q1 q2
      have HS := Lib.hid hs
      have Q2 := Lib.hid q2
      rcases HOX.out with ⟨hnil, hx0⟩ | ⟨gx, cx, hax, b1, b2, ⟨b3, b3p⟩, b4, b5, b6⟩
      · exfalso; rw [hx0] at hjx; simp at hjx
      simp only [Value.slice.injEq] at hax
      obtain ⟨rfl, -, rfl⟩ := hax
      have hc := b6 j hjx
      rw [e1] at hc
      have hb : j * 2 + 2 ≤ (rowOf w gx).size := by have := Nat.mul_le_mul_right 2 (show j + 1 ≤ c2 by omega); omega
      have g0 := cut_get (cur := rowOf w gx) (off := j * 2) (n := 2) hb 0 (by omega)
      have g1 := cut_get (cur := rowOf w gx) (off := j * 2) (n := 2) hb 1 (by omega)
      rw [hc] at g0 g1
      have c0 : (rowOf w gx)[j * 2]? = some (.int .i64 ka) := by simpa using g0.symm
      have c1 : (rowOf w gx)[j * 2 + 1]? = some vd := by simpa using g1.symm
      have hji : (j : Int) < (m : Int) := by omega
      clear g0 g1 hc hb b1 b2 b3 b3p b4 b5 b6 hqq e1 e2 hp0 hs q1 q2 hlast
      rw [ej]
      by_cases hka : ka = n
      · subst hka
        have hl : DS.lastOf S.pend ka = some b := by have := HS.out; rwa [if_pos rfl] at this
        have E := Lib.hid (read_some HR.out hl)
        clear hl
        go_wp2_with fail
        refine (copied_any w vd b E2.out.at_ (by have := Q2.out; omega)).mono ?_
        rintro e w3 ⟨v3, rfl, o3, f3⟩
        have O3 := Lib.hid o3
        have F3 := Lib.hid f3
        clear o3 f3
        go_wp2
        go_ret2
        rw [E.out]
        exact ⟨_, rfl, O3.out.own (by have := Q2.out; omega), F3.out⟩
      · have hkai : ((ka : Int) == (n : Int)) = false := by simp; omega
        have hl : DS.lastOf (S.pend.take j) n = DS.lastOf S.pend n := by have := HS.out; rw [if_neg hka] at this; exact this.symm
        have HL := Lib.hid hl
        clear hl
        go_wp2
        go_round
        case rel => exact ⟨j, by omega, by go_num, HL.out⟩
        case measure => simp [intOf]

theorem rread_any (w : World) (f : Nat → Prop) (r gd gt : Nat) (S : DS) (h : RRep w f r gd gt S) (n : Int) (hm : S.pend.length ≤ 2199023255552) :
    Calls Try.prog 77 #[.pointer (some ⟨r, 0, none⟩), .int .i64 n] w fun e w' => ∃ v, e = .returned (.tuple #[v, .int .i64 (S.read n).1]) ∧ ReadOut w' v (S.read n).2 w.heap.size ∧ Fr (fun _ => False) w w' := by
  by_cases hr : S.ready n = 0
  · have hn := (readyI_zero.1 (show readyI S.off n S.data.length = 0 from hr)).2.1
    obtain ⟨k, rfl⟩ : ∃ k : Nat, n = k := ⟨n.toNat, by omega⟩
    exact rread_ok w f r gd gt S h k hr hm
  · refine (rread_bad w f r gd gt S h n hr).mono ?_
    rintro e w' ⟨rfl, rfl⟩
    have e1 : S.read n = (S.ready n, none) := by unfold DS.read; rw [if_pos hr]
    rw [e1]
    exact ⟨_, rfl, rfl, Fr.refl _ _⟩

end Go.Proofs.Ytflnlpbcmcfblaa
