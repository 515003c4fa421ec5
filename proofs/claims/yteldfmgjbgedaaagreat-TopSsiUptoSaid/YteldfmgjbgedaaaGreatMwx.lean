/-
  Package siread: Note.
  Package siread: Readers; slices.Contains of numbers.
-/
import Derived.Test.YteldfmgjbgedaaaGreatMv
namespace Go.Proofs.YteldfmgjbgedaaaGreat
open Go.RowKit Go.Maps

set_option maxRecDepth 20000 in
set_option maxHeartbeats 8000000 in
theorem note56 (H124 : Sorted124) (w : World) (r t : Nat) {cls : Nat → Nat} {most : Int} {bn n B : Nat} {f : Value → Option Value} {N : Nat → Option (List RdT)} {x : RdT} (hr : rowOf w r = rdRow most bn (sumN N B : Nat)) (lr : live w r = true) (cr : cls r ≠ 5)
    (hN : NotesAt w cls bn n B f N) (hm : sumN N B ≤ 65536) (hmost : most ≤ 65536) (hn : n < 2 ^ 40) (htx : 1 ≤ t) (htB : t < B) (ht40 : t < 2 ^ 40) (hx : RdOk x) (hok : ∀ i L, N i = some L → ∀ y ∈ L, RdOk y) :
    Calls Tryz.prog 56 #[.pointer (some ⟨r, 0, none⟩), .int .i64 (t : Nat), rdV x] w fun e w' => (∃ c, c ≠ 0 ∧ e = .returned (.int .i64 c) ∧ Fr (fun _ => False) w w') ∨ (e = .returned (.int .i64 0) ∧ Fr (fun _ => False) w w' ∧ NoteRel N N t x) ∨
      (e = .returned (.int .i64 0) ∧ ∃ bn' f' N', NotesAt w' (cls5 w cls) bn' (n + 1) B f' N' ∧ rowOf w' r = rdRow most bn' (sumN N' B : Nat) ∧ live w' r = true ∧ sumN N' B ≤ 65536 ∧ NoteRel N N' t x ∧ w.heap.size ≤ bn' ∧ Fr (fun k => k = r) w w') := by
  have hlr := live_lt lr
  have hlb := hN.map.lt
  -- what is noted so far
  obtain ⟨v0, L0, hv0, ho0, hl0, hh0, hok0⟩ : ∃ v0 L0, (f (plKey t)).getD (.slice none 0 0) = v0 ∧ OwnRows w v0 4 (rdRows L0) 0 ∧ lenO (N t) = L0.length ∧ (∀ k, HN N t k ↔ ∃ y ∈ L0, covK y k = true) ∧ (∀ y ∈ L0, RdOk y) := by
    cases hNt : N t with
    | none => exact ⟨_, [], by rw [hN.none_ hNt]; rfl, OwnRows.nil _ _ _, rfl, fun k => ⟨fun ⟨L, h, _⟩ => by (rw [hNt] at h; cases h), fun ⟨y, h, _⟩ => by cases h⟩, fun y h => by cases h⟩
    | some L =>
      obtain ⟨-, -, v, h3, h4, -⟩ := hN.at_ t L hNt
      exact ⟨v, L, by rw [h3]; rfl, h4, rfl, fun k => ⟨fun ⟨L', h, hy⟩ => by (rw [hNt] at h; cases h; exact hy), fun hy => ⟨L, hNt, hy⟩⟩, hok t L hNt⟩
  obtain ⟨va, vc, rfl⟩ := ho0.len
  rw [rdRows_length] at hv0 ho0
  have hl0s : L0.length ≤ sumN N B := by rw [← hl0]; exact sumN_le N t htB
  have F5 : Fr (fun _ => False) w (w.alloc (.cells (rdC x) 104)) := (Fr.refl _ w).alloc _
  have HNN := Lib.hid (none54_any _ r ((F5.row hlr (fun e => e)).trans hr))
  have HMAY := Lib.hid (may88 (w.alloc (.cells (rdC x) 104)) x hx)
  have HF5 := Lib.hid F5
  have HNO := Lib.hid hN
  have HO0 := Lib.hid ho0
  have HV0 := Lib.hid hv0
  have HH0 := Lib.hid hh0
  have HOK0 := Lib.hid hok0
  have HOK := Lib.hid hok
  have HX := Lib.hid hx
  have HR := Lib.hid hr
  have HL0 := Lib.hid hl0
  have hn1 : decide ((t : Int) < 1) = false := decide_eq_false (by omega)
  obtain ⟨kl, hkl⟩ := plKey_key ht40
  have HKL := Lib.hid hkl
  unfold rdV rdC strV at *
  clear F5 hN ho0 hv0 hh0 hok0 hok hx hr hl0 hkl
  go_enter Tryz.func56, Tryz.ntmps56
  go_wp2_with (first
    | (go_at_call 54; refine HNN.out.mono ?_; rintro e w1 ⟨rfl, rfl⟩)
    | (go_at_call 88; refine HMAY.out.mono ?_; rintro e w1 ⟨rfl, hf1⟩; have HF1 := Lib.hid (HF5.out.trans hf1 (fun _ _ h => h)); have r5 := (hf1.row (g := w.heap.size) (by simp) (fun e => e)).trans (by simp [go_sem] : _ = #[.string ⟨#[116]⟩, .int .i64 x.kind, .string ⟨x.lo.toArray⟩, .string ⟨x.hi.toArray⟩]); have l5 := (hf1.liv (g := w.heap.size) (by simp) (fun e => e)).trans (by simp [go_sem] : _ = true); have l1 := hf1.size; clear hf1))
  have hb51 : w.heap.size < w1.heap.size := live_lt l5
  have hr1 : r < w1.heap.size := by omega
  have F6 : Fr (fun _ => False) w1 ((w1.alloc (.cells #[.int .i64 0, .string ⟨#[]⟩] 138)).setRow w1.heap.size #[.int .i64 (t : Nat), .string ⟨#[116]⟩]) := ((Fr.refl (fun _ => False) w1).alloc _).setNew (Nat.le_refl _) _
  have r7 : rowOf ((w1.alloc (.cells #[.int .i64 0, .string ⟨#[]⟩] 138)).setRow w1.heap.size #[.int .i64 (t : Nat), .string ⟨#[116]⟩]) w1.heap.size = #[.int .i64 (t : Nat), .string ⟨#[116]⟩] := by simp [go_sem]
  have l7 : live ((w1.alloc (.cells #[.int .i64 0, .string ⟨#[]⟩] 138)).setRow w1.heap.size #[.int .i64 (t : Nat), .string ⟨#[116]⟩]) w1.heap.size = true := by simp [go_sem]
  have r56 := (F6.row hb51 (fun e => e)).trans r5
  have l56 := (F6.liv hb51 (fun e => e)).trans l5
  have FW6 := HF1.out.trans F6 (fun _ _ h => h)
  generalize ((w1.alloc (.cells #[.int .i64 0, .string ⟨#[]⟩] 138)).setRow w1.heap.size #[.int .i64 (t : Nat), .string ⟨#[116]⟩]) = W6 at r7 l7 r56 l56 FW6 F6 ⊢
  have hr6 := (FW6.row hlr (fun e => e)).trans HR.out
  have hlr6 := (FW6.liv hlr (fun e => e)).trans lr
  have hlook := ((HNO.out.map.fr (FW6.drew) (fun e => e))).look1 law138 Tryz.underlying89 (Tryz.zeroValue117 _) (plKey t) HKL.out
  rw [HV0.out] at hlook
  unfold plKey at hlook
  unfold rdRow at hr6
  have eg89 : ∀ args w, (callFunc 89 args).run Tryz.prog w = .ok (.enter 89 args) w := enters_of Tryz.func89 (by kernel_rfl) rfl
  have eg93 : ∀ args w, (callFunc 93 args).run Tryz.prog w = .ok (.enter 93 args) w := enters_of Tryz.func93 (by kernel_rfl) rfl
  have h7lt := live_lt l7
  have h5lt := live_lt l56
  have HCF := Lib.hid (containsFuncRd W6.drew (HO0.out.keep FW6.drew (fun _ _ e => e)) (fg := 89) (cb := #[.pointer (some ⟨w.heap.size, 0, none⟩)]) (p := fun y => coversB y x) eg89 (fun W q hf hq => by
    have := note89 W w.heap.size x q HX.out (HOK0.out q hq) ((hf.row h5lt (fun e => e)).trans r56) ((hf.liv h5lt (fun e => e)).trans l56)
    unfold rdV at this
    rw [show (#[.agg #[.string ⟨#[116]⟩, .int .i64 q.kind, .string ⟨q.lo.toArray⟩, .string ⟨q.hi.toArray⟩]] ++ #[.pointer (some ⟨w.heap.size, 0, none⟩)] : Array Value) = #[.agg #[.string ⟨#[116]⟩, .int .i64 q.kind, .string ⟨q.lo.toArray⟩, .string ⟨q.hi.toArray⟩], .pointer (some ⟨w.heap.size, 0, none⟩)] from by simp]
    exact this))
  have HR6 := Lib.hid r56
  have HL6 := Lib.hid l56
  have HR7 := Lib.hid r7
  have HL7 := Lib.hid l7
  have HFW6 := Lib.hid FW6
  have HRR := Lib.hid hr6
  have HE93 := Lib.hid eg93
  clear F6 r5 l5 FW6 eg89 eg93 r56 l56
  go_region
  cases hany : L0.any (fun y => coversB y x) with
  | true =>
    rw [hany] at HCF
    go_wp2_with (go_at_call 61; refine HCF.out.mono ?_; rintro e w7 ⟨rfl, hf7⟩)
    go_ret
    refine .inr (.inl ⟨rfl, HFW6.out.drew.trans hf7 (fun _ _ h => h), fun _ _ h => h, fun k hk => ?_, fun i h => .inl h, HOK.out⟩)
    obtain ⟨y, hy, hc⟩ := List.any_eq_true.1 hany
    exact (HH0.out k).2 ⟨y, hy, covers_sound (HOK0.out y hy) HX.out hc k hk⟩
  | false =>
    rw [hany] at HCF
    go_wp2_with (first
      | (go_at_call 61; refine HCF.out.mono ?_; rintro e w7 ⟨rfl, hf7⟩; have HF7 := Lib.hid (HFW6.out.drew.trans hf7 (fun _ _ h => h)); have r57 := Lib.hid ((hf7.row h5lt (fun e => e)).trans HR6.out); have l57 := Lib.hid ((hf7.liv h5lt (fun e => e)).trans HL6.out); have r77 := Lib.hid ((hf7.row h7lt (fun e => e)).trans HR7.out); have l77 := Lib.hid ((hf7.liv h7lt (fun e => e)).trans HL7.out); have HCL := Lib.hid (clone92_any (HO0.out.keep HF7.out (fun _ _ e => e)) (by omega)); clear hf7)
      | (go_at_call 92; refine HCL.out.mono ?_; rintro e w8 ⟨v1, rfl, ho1, hf8⟩; have r58 := Lib.hid ((hf8.row (live_lt l57.out) (fun e => e)).trans r57.out); have l58 := Lib.hid ((hf8.liv (live_lt l57.out) (fun e => e)).trans l57.out); have r78 := Lib.hid ((hf8.row (live_lt l77.out) (fun e => e)).trans r77.out); have l78 := Lib.hid ((hf8.liv (live_lt l77.out) (fun e => e)).trans l77.out); have HF8 := Lib.hid (HF7.out.trans hf8 (fun _ _ h => h)); have HO1 := Lib.hid ho1; have HS8 := Lib.hid hf8.size; clear hf8 ho1))
    have hb7 : w1.heap.size < w7.heap.size := live_lt l77.out
    have hb5 : w.heap.size < w7.heap.size := live_lt l57.out
    have h1b : ∀ k, v1.ownBlock = some k → w7.heap.size ≤ k := fun k hk => (HO1.out.lt hk).1
    refine (delete_any w8 HO1.out (fg := 93) (cb := #[.pointer (some ⟨w.heap.size, 0, none⟩)]) (p := fun y => coversB x y) HE93.out (fun W q hf hq => by
      have := note93 W w.heap.size x q HX.out (HOK0.out q hq) ((hf.row (live_lt l58.out) (fun e => by have := h1b _ e; omega)).trans r58.out) ((hf.liv (live_lt l58.out) (fun e => by have := h1b _ e; omega)).trans l58.out)
      unfold rdV at this ⊢
      rw [show (#[.agg #[.string ⟨#[116]⟩, .int .i64 q.kind, .string ⟨q.lo.toArray⟩, .string ⟨q.hi.toArray⟩]] ++ #[.pointer (some ⟨w.heap.size, 0, none⟩)] : Array Value) = #[.agg #[.string ⟨#[116]⟩, .int .i64 q.kind, .string ⟨q.lo.toArray⟩, .string ⟨q.hi.toArray⟩], .pointer (some ⟨w.heap.size, 0, none⟩)] from by simp]
      exact this)).mono ?_
    rintro e w9 ⟨v2, rfl, ho2, hf9⟩
    have r59 := (hf9.row (live_lt l58.out) (fun e => by have := h1b _ e; omega)).trans r58.out
    have l59 := (hf9.liv (live_lt l58.out) (fun e => by have := h1b _ e; omega)).trans l58.out
    have r79 := (hf9.row (live_lt l78.out) (fun e => by have := h1b _ e; omega)).trans r78.out
    have l79 := (hf9.liv (live_lt l78.out) (fun e => by have := h1b _ e; omega)).trans l78.out
    have HF9 := Lib.hid (HF8.out.trans hf9 (fun k hk e => by have := h1b _ e; omega))
    have hs89 := hf9.size
    obtain ⟨Fl, hFl⟩ : ∃ Fl, L0.filter (fun y => !coversB x y) = Fl := ⟨_, rfl⟩
    rw [hFl] at ho2
    have hFll : Fl.length ≤ L0.length := by rw [← hFl]; exact List.length_filter_le _ _
    have HFL := Lib.hid hFl
    obtain ⟨a2, c2, rfl⟩ := ho2.len
    rw [rdRows_length] at ho2 ⊢
    have HO2 := Lib.hid ho2
    have hs7 : w7.heap.size ≤ w9.heap.size := Nat.le_trans HS8.out hs89
    have HB2 := Lib.hid (fun k (hk : (Value.slice a2 Fl.length c2).ownBlock = some k) => (ho2.lt hk).1)
    have hsl : (L0.length : Int) ≤ (sumN N B : Int) := by omega
    have hw1 : IntKind.i64.wrap ((sumN N B : Int) - (L0.length : Int)) = (sumN N B : Int) - (L0.length : Int) := by rw [IntKind.wrap_i64]; omega
    have hw2 : IntKind.i64.wrap ((sumN N B : Int) - (L0.length : Int) + ((Fl.length : Int) + 1)) = (sumN N B : Int) - (L0.length : Int) + ((Fl.length : Int) + 1) := by rw [IntKind.wrap_i64]; omega
    clear hf9 ho2 hFl
    have h5l := live_lt l59
    have h7l := live_lt l79
    have rr9 : rowOf w9 r = #[.int .i64 most, .map (some bn), .int .i64 (sumN N B : Nat)] := (HF9.out.row hlr (fun e => e)).trans HR.out
    have hrl9 : r < w9.heap.size := Nat.lt_of_lt_of_le hlr HF9.out.size
    go_wp2_with (first
      | (at_builtin; refine wpList_append_one0 rfl (.tmp 42) (.tmp 44) 117 rfl 104 _ 4 56 Tryz.underlying117 ti104 (.slice a2 Fl.length c2) (rdRows Fl) w7.heap.size rfl (HO2.out.keep ((Fr.refl (fun _ => False) w9).alloc _) (fun _ _ h => h)) (by simp; omega) w9.heap.size 1 rfl (rdC x) (by simp [go_sem]) (by simp [go_sem]; rfl) (by intro y hy; simp [rdC, strV] at hy; rcases hy with rfl | rfl | rfl | rfl <;> rfl) (rdRows_size _) (by rw [rdRows_length]; simp only [maxLen]; omega) (fitsN (by rw [rdRows_length]; omega) (by omega)) ?_; intro g3 cap3 w10 ho3 f3 hn3; rw [rdRows_length] at ho3 ⊢; have FA := ((Fr.refl (fun _ => False) w9).alloc (.cells (rdC x) 104)).mono (G := fun k => (Value.slice a2 Fl.length c2).ownBlock = some k) (fun _ _ h => h.elim) |>.trans f3 (fun _ _ h => h); have HF10 := Lib.hid (HF9.out.trans FA (fun k hk e => by have := HB2.out k e; omega)); have r710 := Lib.hid ((FA.row h7l (fun e => by have := HB2.out _ e; omega)).trans r79); have l710 := Lib.hid ((FA.liv h7l (fun e => by have := HB2.out _ e; omega)).trans l79); have rr10 := (FA.row hrl9 (fun e => by have := HB2.out _ e; omega)).trans rr9; have HO3 := Lib.hid ho3; have HS10 := Lib.hid FA.size; clear ho3 f3 hn3 FA)
      | (go_at_call 94; refine (clone94_any (HNO.out.map.fr HF10.out (fun e => e))).mono ?_; rintro e w11 ⟨rfl, hm11, hf11⟩; have HM11 := Lib.hid hm11; have HF11 := Lib.hid (HF10.out.trans hf11 (fun _ _ h => h)); have r711 := (hf11.row (live_lt l710.out) (fun e => e)).trans r710.out; have l711 := (hf11.liv (live_lt l710.out) (fun e => e)).trans l710.out; have HO11 := Lib.hid (HO3.out.keep hf11 (fun _ _ e => e)); clear hm11 hf11)
      | (at_mapUpdate; refine wpList_storeF _ rfl _ _ _ 89 rfl law138 Tryz.underlying89 HM11.out (by simp only [maxLen]; omega) rfl (plKey t) (.slice (some ⟨g3, 0, none⟩) (Fl.length + 1) cap3) rfl rfl HKL.out ?_; intro w12 hm12 hf12))
    try go_frame
    obtain ⟨bw, hbw⟩ : ∃ bw, w10.heap.size = bw := ⟨_, rfl⟩
    have HBW := Lib.hid (show w.heap.size ≤ bw by rw [← hbw]; exact HF10.out.size)
    rw [hbw] at hm12 hf12 HM11 ⊢
    have hb5' : w.heap.size ≤ w7.heap.size := Nat.le_of_lt hb5
    have hna : NotesAt w12 (cls5 w cls) bw (n + 1) B (updF f (plKey t) (some (.slice (some ⟨g3, 0, none⟩) (Fl.length + 1) cap3))) (setN N t (some (Fl ++ [x]))) := by
      have h11 := HNO.out.moved (cls' := cls5 w cls) HM11.out HF11.out (fun k hk h5 => ⟨fun e => e, by rw [cls5_lt (live_lt hk)]; exact h5⟩)
      refine h11.store htB ht40 hm12 ?_ ?_ hf12 (fun k hk _ e => by rw [e] at hk; exact (h11.map.ne_live hk) rfl)
      · have hO := HO11.out.keep hf12 (fun k hk e => HO11.out.ne_map h11.map (by rw [hk, e]))
        rcases hO with ⟨h, _⟩ | ⟨g, cap, e, h1, h2, h3, h4, h5, h6⟩
        · cases h
        · refine .inr ⟨g, cap, ?_, Nat.zero_le _, h2, ?_, h4, h5, ?_⟩
          · rw [e]; simp [rdRows]
          · simpa [rdRows] using h3
          · simpa [rdRows] using h6
      · intro k hk
        exact cls5_ge (Nat.le_trans hb5' (HO11.out.lt hk).1)
    have hsum := sumN_set N t (some (Fl ++ [x])) htB
    rw [HL0.out] at hsum
    simp only [lenO, List.length_append, List.length_cons, List.length_nil] at hsum
    have hrel0 : NoteRel N (setN N t (some (Fl ++ [x]))) t x := by
      refine ⟨fun i k h => ?_, fun k hk => ⟨Fl ++ [x], if_pos rfl, x, by simp, hk⟩, fun i hi => ?_, fun i L hL => ?_⟩
      · by_cases e : i = t
        · subst e
          obtain ⟨y, hy, hc⟩ := (HH0.out k).1 h
          refine ⟨Fl ++ [x], if_pos rfl, ?_⟩
          by_cases hcv : coversB x y = true
          · exact ⟨x, by simp, covers_sound HX.out (HOK0.out y hy) hcv k hc⟩
          · refine ⟨y, List.mem_append_left _ ?_, hc⟩
            rw [← HFL.out]
            exact List.mem_filter.2 ⟨hy, by simp [hcv]⟩
        · obtain ⟨L, hL, hy⟩ := h
          exact ⟨L, by unfold setN; rw [if_neg e]; exact hL, hy⟩
      · by_cases e : i = t
        · exact .inr e
        · unfold setN at hi; rw [if_neg e] at hi; exact .inl hi
      · by_cases e : i = t
        · subst e
          unfold setN at hL; rw [if_pos rfl] at hL; cases hL
          intro y hy
          rcases List.mem_append.1 hy with hy | hy
          · rw [← HFL.out] at hy
            exact HOK0.out y (List.mem_filter.1 hy).1
          · obtain rfl := List.mem_singleton.1 hy
            exact HX.out
        · unfold setN at hL; rw [if_neg e] at hL; exact HOK.out i L hL
    have HNA := Lib.hid hna
    have HREL := Lib.hid hrel0
    have HF12 := Lib.hid (HF11.out.trans hf12 (fun k hk e => by have := HBW.out; omega))
    have hsz1 : sumN (setN N t (some (Fl ++ [x]))) B ≤ 65537 := by omega
    have hsi : (sumN N B : Int) - (L0.length : Int) + ((Fl.length : Int) + 1) = (sumN (setN N t (some (Fl ++ [x]))) B : Nat) := by omega
    clear hna hrel0 hf12 hm12
    rw [hsi]
    go_loopw [10] (fun t10 wr => ∃ (N1 : Nat → Option (List RdT)) (f1 : Value → Option Value), t10 = .int .i64 (sumN N1 B : Nat) ∧ NotesAt wr (cls5 w cls) bw (n + 1) B f1 N1 ∧ NoteRel N N1 t x ∧ sumN N1 B ≤ 65537 ∧ Fr (fun _ => False) w wr) (fun t10 _ => (intOf t10).toNat)
    case atStart => exact ⟨_, _, rfl, HNA.out, HREL.out, hsz1, HF12.out⟩
    case round =>
      obtain ⟨N1, f1, rfl, hna, hrl, hsz, hf⟩ := hrel
      have HNA1 := Lib.hid hna
      have HRL := Lib.hid hrl
      have HF := Lib.hid hf
      have hrr : rowOf wr r = #[.int .i64 most, .map (some bn), .int .i64 (sumN N B : Nat)] := (hf.row hlr (fun e => e)).trans HR.out
      have hlw : live wr r = true := (hf.liv hlr (fun e => e)).trans lr
      clear rr10 rr9 hsi
      by_cases hgt : most < (sumN N1 B : Int)
      · have HCO := Lib.hid (coarsest95 H124 wr hna (by omega))
        clear hna hrl hf
        go_wp2_with fail
        refine HCO.out.mono ?_
        rintro e w13 ⟨rfl | ⟨t2, L2, hN2, hL2, rfl⟩, hf13⟩
        · go_wp2
          go_ret
          have f13 := HF.out.trans hf13 (fun _ _ h => h)
          exact .inl ⟨4, by omega, rfl, (f13.alloc _).setNew f13.size _⟩
        · have f13 := HF.out.trans hf13 (fun _ _ h => h)
          have FB : Fr (fun _ => False) w13 ((w13.alloc (.cells #[.int .i64 0, .string ⟨#[]⟩] 138)).setRow w13.heap.size #[.int .i64 (t2 : Nat), .string ⟨#[116]⟩]) := ((Fr.refl (fun _ => False) w13).alloc _).setNew (Nat.le_refl _) _
          have hN14 := HNA1.out.fr (hf13.trans FB (fun _ _ h => h)) (fun e => e) (fun _ _ h => ⟨fun e => e, h⟩)
          have hN15 := hN14.fr ((Fr.refl (fun _ => False) _).alloc (.cells (rdC ⟨3, [], []⟩) 104)) (fun e => e) (fun _ _ h => ⟨fun e => e, h⟩)
          obtain ⟨ht2B, ht2, v2, hfv, hov, -⟩ := hN14.at_ t2 L2 hN2
          obtain ⟨xa, xc, rfl⟩ := hov.len
          rw [rdRows_length] at hfv hov
          obtain ⟨kl2, hkl2⟩ := plKey_key ht2
          have hlook2 := hN14.map.look1 law138 Tryz.underlying89 (Tryz.zeroValue117 _) (plKey t2) hkl2
          rw [hfv] at hlook2
          simp only [Option.getD_some] at hlook2
          have hsome : (f1 (plKey t2)).isSome = true := by rw [hfv]; rfl
          have hL2s : L2.length ≤ sumN N1 B := by have := sumN_le N1 t2 ht2B; rw [hN2] at this; exact this
          have hsum2 := sumN_set N1 t2 (some [⟨3, [], []⟩]) ht2B
          rw [hN2] at hsum2
          simp only [lenO, List.length_cons, List.length_nil] at hsum2
          have HN15 := Lib.hid hN15
          have HKL2 := Lib.hid hkl2
          have HSM := Lib.hid hsome
          have HN2 := Lib.hid hN2
          have hwa : IntKind.i64.wrap ((L2.length : Int) - 1) = (L2.length : Int) - 1 := by rw [IntKind.wrap_i64]; omega
          have hwb : IntKind.i64.wrap ((sumN N1 B : Int) - ((L2.length : Int) - 1)) = (sumN (setN N1 t2 (some [⟨3, [], []⟩])) B : Nat) := by rw [IntKind.wrap_i64]; omega
          have F15 := Lib.hid ((f13.trans FB (fun _ _ h => h)).alloc (.cells (rdC ⟨3, [], []⟩) 104))
          have f13s := f13.size
          unfold plKey at hlook2 ⊢
          unfold rdC strV at HN15 F15
          clear hf13 f13 FB hN14 hN15 hfv hov hkl2 hsome hN2
          go_wp2_with (at_mapUpdate; refine wpList_storeSame _ rfl _ _ _ 89 rfl law138 Tryz.underlying89 HN15.out.map (by simp only [maxLen]; omega) rfl (plKey t2) (.slice (some ⟨w13.heap.size + 1, 0, none⟩) 1 1) rfl rfl HKL2.out HSM.out ?_; intro w16 hm16 hf16)
          try go_frame
          have hO15 : OwnRows _ (.slice (some ⟨w13.heap.size + 1, 0, none⟩) 1 1) 4 (rdRows [⟨3, [], []⟩]) (w13.heap.size + 1) :=
            .inr ⟨w13.heap.size + 1, 1, rfl, Nat.le_refl _, live_alloc_at (((w13.alloc (.cells #[.int .i64 0, .string ⟨#[]⟩] 138)).setRow w13.heap.size #[.int .i64 (t2 : Nat), .string ⟨#[116]⟩])) (rdC ⟨3, [], []⟩) 104 _ (by simp), ⟨by simp [rdRows], by simp [rdRows]⟩, by simp [maxLen],
              by rw [rowOf_alloc_at _ _ _ _ _ (by simp)]; rfl, fun i hi => by
                have hi0 : i = 0 := by simp [rdRows] at hi; exact hi
                subst hi0
                rw [rowOf_alloc_at _ _ _ _ _ (by simp)]; rfl⟩
          go_roundw
          case rel =>
            refine ⟨setN N1 t2 (some [⟨3, [], []⟩]), _, rfl, HN15.out.store ht2B ht2 hm16 ?_ ?_ hf16 (fun k hk _ e => by rw [e] at hk; exact (HN15.out.map.ne_live hk) rfl), ?_, by omega, F15.out.trans hf16 (fun k hk e => by have := HBW.out; omega)⟩
            · have := hO15.keep hf16 (fun k hk e => hO15.ne_map HN15.out.map (by rw [hk, e]))
              rcases this with ⟨h, _⟩ | ⟨g, cap, e, h1, h2, h3⟩
              · cases h
              · exact .inr ⟨g, cap, e, Nat.zero_le _, h2, h3⟩
            · intro k hk
              simp only [Value.ownBlock, Option.some.injEq] at hk
              subst hk
              exact cls5_ge (by omega)
            · refine ⟨fun i k h => ?_, fun k hk => ?_, fun i hi => ?_, fun i L hL => ?_⟩
              · have h' := HRL.out.mono i k h
                by_cases e : i = t2
                · exact ⟨[⟨3, [], []⟩], by unfold setN; rw [if_pos e], _, List.mem_singleton.2 rfl, rfl⟩
                · obtain ⟨L, hL, hy⟩ := h'
                  exact ⟨L, by unfold setN; rw [if_neg e]; exact hL, hy⟩
              · have h' := HRL.out.new k hk
                by_cases e : t = t2
                · exact ⟨[⟨3, [], []⟩], by unfold setN; rw [if_pos e], _, List.mem_singleton.2 rfl, rfl⟩
                · obtain ⟨L, hL, hy⟩ := h'
                  exact ⟨L, by unfold setN; rw [if_neg e]; exact hL, hy⟩
              · by_cases e : i = t2
                · subst e
                  exact HRL.out.only i (by rw [HN2.out]; simp)
                · unfold setN at hi; rw [if_neg e] at hi; exact HRL.out.only i hi
              · by_cases e : i = t2
                · unfold setN at hL; rw [if_pos e] at hL; cases hL
                  intro y hy
                  obtain rfl := List.mem_singleton.1 hy
                  exact ⟨.inr (.inr ⟨rfl, rfl, rfl⟩), by simp⟩
                · unfold setN at hL; rw [if_neg e] at hL; exact HRL.out.ok i L hL
          case measure => simp only [intOf]; omega
      · clear hna hrl hf
        go_wp2
        go_ret
        refine .inr (.inr ⟨rfl, bw, f1, N1, ?_, ?_, ?_, by omega, HRL.out, HBW.out, (HF.out.mono (fun _ _ h => h.elim)).setRow r _ (fun _ => rfl)⟩)
        · have hd : ¬ bw = r := fun e => by subst e; exact HNA1.out.map.ne_live hlw rfl
          exact HNA1.out.fr ((Fr.refl (fun k => k = r) wr).setRow r _ (fun _ => rfl)) hd (fun k hk h5 => ⟨fun e => by rw [e, cls5_lt hlr] at h5; exact cr h5, h5⟩)
        · rw [rowOf_setRow_same _ _ _ hlw]; rfl
        · rw [live_setRow]; exact hlw
end Go.Proofs.YteldfmgjbgedaaaGreat

namespace Go.Proofs.YteldfmgjbgedaaaGreat
open Go.RowKit Go.Maps

set_option maxRecDepth 20000 in
set_option maxHeartbeats 2000000 in
theorem index67 (w : World) {v : Value} {xs : List Nat} {base : Nat} (ho : OwnRows w v 1 (natRows xs) base) (t : Nat) :
    Calls Tryz.prog 67 #[v, .int .i64 (t : Nat)] w fun e w' => ∃ i : Int, e = .returned (.int .i64 i) ∧ (0 ≤ i ↔ t ∈ xs) ∧ Fr (fun _ => False) w w' := by
  obtain ⟨a, c, rfl⟩ := ho.len
  have hn : xs.length ≤ 9223372036854775807 := by have := ho.max; rw [natRows_length] at this; exact this
  rw [natRows_length] at ho ⊢
  have HO := Lib.hid ho
  clear ho
  go_enter Tryz.func67, Tryz.ntmps67
  go_wp2
  go_loopw [8] (fun t8 wr => ∃ k : Nat, t8 = .int .i64 (k : Nat) ∧ k ≤ xs.length ∧ t ∉ xs.take k ∧ Fr (fun _ => False) w wr) (fun t8 _ => xs.length - (intOf t8).toNat)
  case atStart => exact ⟨0, rfl, Nat.zero_le _, by simp, Fr.refl _ _⟩
  case round =>
    obtain ⟨k, rfl, hk, hA, hf⟩ := hrel
    have HA := Lib.hid hA
    have HF := Lib.hid hf
    clear hA
    by_cases hlt : k < xs.length
    · obtain ⟨g, rfl, hbg, hlg, -, hxc, hsz, hget⟩ := (HO.out.keep hf (fun _ _ e => e)).get (k := k) (by rw [natRows_length]; exact hlt)
      have hrow : (natRows xs)[k]'(by rw [natRows_length]; exact hlt) = #[.int .i64 (xs[k] : Nat)] := by simp [natRows]
      have c0 : (rowOf wr g)[k]? = some (.int .i64 (xs[k] : Nat)) := by have := hget 0 (by omega); rw [hrow] at this; simpa using this
      have HM := Lib.hid (List.getElem_mem hlt)
      have HTK := Lib.hid (List.take_succ_eq_append_getElem hlt)
      have HLT := Lib.hid hlt
      generalize hq : xs[k] = q at c0 HM HTK
      have hki : (k : Int) < (xs.length : Int) := by omega
      clear hget hrow hq hf
      by_cases htq : t = q
      · subst htq
        have hd : ((t : Int) == (t : Int)) = true := by simp
        go_wp2
        go_ret
        exact ⟨k, rfl, ⟨fun _ => HM.out, fun _ => by omega⟩, HF.out⟩
      · have hd : ((t : Int) == (q : Int)) = false := by rw [beq_eq_false_iff_ne]; omega
        have hd2 : decide ((t : Int) = (q : Int)) = false := decide_eq_false (by omega)
        go_wp2
        go_roundw
        case rel =>
          refine ⟨k + 1, by go_num, by have := HLT.out; omega, ?_, HF.out⟩
          rw [HTK.out, List.mem_append]
          rintro (h | h)
          · exact HA.out h
          · exact htq (List.mem_singleton.1 h)
        case measure => (have := HLT.out; simp only [intOf]; omega)
    · obtain rfl : k = xs.length := by omega
      clear hf
      go_wp2
      go_ret
      refine ⟨-1, rfl, ⟨fun h => by omega, fun h => ?_⟩, HF.out⟩
      have := HA.out
      rw [List.take_of_length_le (Nat.le_refl _)] at this
      exact absurd h this

set_option maxRecDepth 20000 in
set_option maxHeartbeats 2000000 in
theorem contains40 (w : World) {v : Value} {xs : List Nat} {base : Nat} (ho : OwnRows w v 1 (natRows xs) base) (t : Nat) :
    Calls Tryz.prog 40 #[v, .int .i64 (t : Nat)] w fun e w' => ∃ rb, e = .returned (.bool rb) ∧ (rb = true ↔ t ∈ xs) ∧ Fr (fun _ => False) w w' := by
  have HC := Lib.hid (index67 w ho t)
  clear ho
  go_enter Tryz.func40, Tryz.ntmps40
  go_wp2_with (go_at_call 67; refine HC.out.mono ?_; rintro e w3 ⟨i, rfl, hi, hf3⟩)
  go_ret
  exact ⟨_, rfl, by simp, hf3⟩

set_option maxRecDepth 20000 in
set_option maxHeartbeats 4000000 in
/-- Numbers of which none stands twice: slices.Compact leaves them. -/
theorem compact99 (w : World) {v : Value} {xs : List Nat} {base : Nat} (ho : OwnRows w v 1 (natRows xs) base) (hd : xs.Nodup) :
    Calls Tryz.prog 99 #[v] w fun e w' => e = .returned v ∧ Fr (fun _ => False) w w' := by
  obtain ⟨a, c, rfl⟩ := ho.len
  have hn : xs.length ≤ 9223372036854775807 := by have := ho.max; rw [natRows_length] at this; exact this
  rw [natRows_length] at ho ⊢
  have HO := Lib.hid ho
  have HD := Lib.hid hd
  clear ho hd
  by_cases h2 : xs.length < 2
  · have h2i : ((xs.length : Int) < 2) := by omega
    go_enter Tryz.func99, Tryz.ntmps99
    go_wp2
    go_ret
    exact ⟨rfl, Fr.refl _ _⟩
  · have h2i : ¬ ((xs.length : Int) < 2) := by omega
    go_enter Tryz.func99, Tryz.ntmps99
    go_wp2
    go_loopw [3] (fun t3 wr => ∃ k : Nat, t3 = .int .i64 (k : Nat) ∧ 1 ≤ k ∧ k ≤ xs.length ∧ Fr (fun _ => False) w wr) (fun t3 _ => xs.length - (intOf t3).toNat)
    case atStart => exact ⟨1, rfl, by omega, by omega, Fr.refl _ _⟩
    case round =>
      obtain ⟨k, rfl, hk1, hk, hf⟩ := hrel
      have HF := Lib.hid hf
      by_cases hlt : k < xs.length
      · have hO := HO.out.keep hf (fun _ _ e => e)
        obtain ⟨g, rfl, hbg, hlg, -, hxc, hsz, hget⟩ := hO.get (k := k) (by rw [natRows_length]; exact hlt)
        obtain ⟨g', e', -, -, -, -, hsz', hget'⟩ := hO.get (k := k - 1) (by rw [natRows_length]; omega)
        injection e' with e'
        injection e' with e'
        subst e'
        have hrow : (natRows xs)[k]'(by rw [natRows_length]; exact hlt) = #[.int .i64 (xs[k] : Nat)] := by simp [natRows]
        have hrow' : (natRows xs)[k - 1]'(by rw [natRows_length]; omega) = #[.int .i64 (xs[k - 1] : Nat)] := by simp [natRows]
        have c0 : (rowOf wr g)[k]? = some (.int .i64 (xs[k] : Nat)) := by have := hget 0 (by omega); rw [hrow] at this; simpa using this
        have c1 : (rowOf wr g)[k - 1]? = some (.int .i64 (xs[k - 1] : Nat)) := by have := hget' 0 (by omega); rw [hrow'] at this; simpa using this
        have hne : xs[k] ≠ xs[k - 1] := fun e => by
          exact (List.pairwise_iff_getElem.1 HD.out (k - 1) k (by omega) hlt (by omega)) e.symm
        have HLT := Lib.hid hlt
        have hki : (k : Int) < (xs.length : Int) := by omega
        generalize xs[k] = q at c0 hne
        generalize xs[k - 1] = q' at c1 hne
        have hd1 : ((q : Int) == (q' : Int)) = false := by rw [beq_eq_false_iff_ne]; omega
        have hd2 : decide ((q : Int) = (q' : Int)) = false := decide_eq_false (by omega)
        obtain ⟨k', rfl⟩ : ∃ k', k = k' + 1 := ⟨k - 1, by omega⟩
        simp only [Nat.add_sub_cancel] at c1
        have hk'' : IntKind.i64.wrap (((k' + 1 : Nat) : Int) - 1) = (k' : Int) := by rw [IntKind.wrap_i64]; omega
        have hk3 : (k' : Int) < (xs.length : Int) := by omega
        clear hget hget' hrow hrow' hf hO hsz hsz'
        go_wp2_with fail
        go_region
        all_goals
          go_wp2
          go_roundw
          case rel => exact ⟨k' + 2, by go_num, by omega, by have := HLT.out; omega, HF.out.drew⟩
          case measure => (have := HLT.out; simp only [intOf]; omega)
      · obtain rfl : k = xs.length := by omega
        clear hf
        go_wp2
        go_ret
        exact ⟨rfl, HF.out⟩

set_option maxRecDepth 20000 in
set_option maxHeartbeats 2000000 in
theorem rising64 (H53 : Sorts53) (w : World) {v : Value} {xs : List Nat} {base : Nat} (ho : OwnRows w v 1 (natRows xs) base) (hd : xs.Nodup) (hl : xs.length < 2 ^ 41) :
    Calls Tryz.prog 64 #[v] w fun e w' => e = .returned v ∧ ∃ ys, ys.Perm xs ∧ OwnRows w' v 1 (natRows ys) base ∧ Fr (fun k => v.ownBlock = some k) w w' := by
  have HS := Lib.hid (H53 w v xs base ho hl)
  have HD := Lib.hid hd
  clear ho hd hl
  go_enter Tryz.func64, Tryz.ntmps64
  go_wp2_with fail
  refine HS.out.mono ?_
  rintro e w1 ⟨rfl, ys, hp, ho1, hf1⟩
  have HC := Lib.hid (compact99 w1 ho1 (hp.nodup_iff.2 HD.out))
  go_wp2_with fail
  refine HC.out.mono ?_
  rintro e w2 ⟨rfl, hf2⟩
  go_wp2
  go_ret
  exact ⟨rfl, ys, hp, ho1.keep hf2 (fun _ _ e => e), hf1.trans hf2 (fun _ _ h => h.elim)⟩
end Go.Proofs.YteldfmgjbgedaaaGreat
