/-
  Package siread: Readers.
  Package siread: Of.
-/
import Derived.Test.YteldfmgjbgedaaaGreatMwx
namespace Go.Proofs.YteldfmgjbgedaaaGreat
open Go.RowKit Go.Maps

theorem natRows_nodup_snoc {xs : List Nat} {i : Nat} (h : xs.Nodup) (hi : i ∉ xs) : (xs ++ [i]).Nodup := by
  rw [List.nodup_append]
  exact ⟨h, by simp, fun a ha b hb e => hi (by rw [← List.mem_singleton.1 hb, ← e]; exact ha)⟩

set_option maxRecDepth 20000 in
set_option maxHeartbeats 4000000 in
theorem readers37 (H53 : Sorts53) (w : World) (r : Nat) {cls : Nat → Nat} {most many : Int} {bn n B : Nat} {f : Value → Option Value} {N : Nat → Option (List RdT)} (hr : rowOf w r = rdRow most bn many) (lr : live w r = true)
    (hN : NotesAt w cls bn n B f N) (hn : n < 2 ^ 40) (hok : ∀ i L, N i = some L → ∀ y ∈ L, RdOk y) (k : Key) :
    Calls Tryz.prog 37 #[.pointer (some ⟨r, 0, none⟩), .string ⟨#[116]⟩, .string ⟨k.toArray⟩] w fun e w' => ∃ v xs, e = .returned v ∧ OwnRows w' v 1 (natRows xs) w.heap.size ∧ (∀ i, i ∈ xs ↔ HN N i k) ∧ Fr (fun _ => False) w w' := by
  have HNN := Lib.hid (none54_any w r hr)
  have hlr := live_lt lr
  have hrne : r ≠ w.heap.size := by omega
  have HNA := Lib.hid hN
  have HOK := Lib.hid hok
  have hlb := hN.map.lt
  have FA : Fr (fun _ => False) w ((w.alloc (.cells #[.string ⟨#[]⟩, .int .i64 0, .string ⟨#[]⟩, .string ⟨#[]⟩] 104)).setRow w.heap.size #[.string ⟨#[116]⟩, .int .i64 1, .string ⟨k.toArray⟩, .string ⟨#[]⟩]) := ((Fr.refl (fun _ => False) w).alloc _).setNew (Nat.le_refl _) _
  have hown := hN.map.fr FA (fun e => e)
  have rx : rowOf ((w.alloc (.cells #[.string ⟨#[]⟩, .int .i64 0, .string ⟨#[]⟩, .string ⟨#[]⟩] 104)).setRow w.heap.size #[.string ⟨#[116]⟩, .int .i64 1, .string ⟨k.toArray⟩, .string ⟨#[]⟩]) w.heap.size = rdC ⟨1, k, []⟩ := by simp [go_sem]; rfl
  have lx : live ((w.alloc (.cells #[.string ⟨#[]⟩, .int .i64 0, .string ⟨#[]⟩, .string ⟨#[]⟩] 104)).setRow w.heap.size #[.string ⟨#[116]⟩, .int .i64 1, .string ⟨k.toArray⟩, .string ⟨#[]⟩]) w.heap.size = true := by simp [go_sem]
  have HFA := Lib.hid FA
  have HRX := Lib.hid rx
  have HLX := Lib.hid lx
  have eg : ∀ args w, (callFunc 62 args).run Tryz.prog w = .ok (.enter 62 args) w := enters_of Tryz.func62 (by kernel_rfl) rfl
  have HEG := Lib.hid eg
  unfold rdRow at hr
  clear hN hok FA rx lx eg
  go_enter Tryz.func37, Tryz.ntmps37
  go_wp2_with (first | (go_at_call 54; refine HNN.out.mono ?_; rintro e w' ⟨rfl, rfl⟩) | (at_range; refine wpList_rangeF _ rfl _ 89 rfl law138 Tryz.underlying89 hown rfl ?_; intro w0 cnt0 hrg0 hcn0 hf0 hs0))
  try go_frame
  have es0 : ((w.alloc (.cells #[.string ⟨#[]⟩, .int .i64 0, .string ⟨#[]⟩, .string ⟨#[]⟩] 104)).setRow w.heap.size #[.string ⟨#[116]⟩, .int .i64 1, .string ⟨k.toArray⟩, .string ⟨#[]⟩]).heap.size = w.heap.size + 1 := by simp
  rw [es0] at hrg0 hs0
  try rw [es0]
  have HB0 := Lib.hid (HFA.out.trans hf0 (fun _ _ h => h))
  have HRX0 := Lib.hid ((hf0.row (live_lt HLX.out) (fun e => e)).trans HRX.out)
  have HLX0 := Lib.hid ((hf0.liv (live_lt HLX.out) (fun e => e)).trans HLX.out)
  go_loopw [8] (fun l wr => ∃ (left : Value → Prop) (cnt : Nat) (v : Value) (xs : List Nat), l = v ∧ RangeF wr 138 bn (w.heap.size + 1) n f left cnt ∧ xs.length + cnt ≤ n ∧ OwnRows wr v 1 (natRows xs) (w.heap.size + 2) ∧ (∀ i, i ∈ xs ↔ HN N i k ∧ ¬ left (plKey i)) ∧ xs.Nodup ∧ (∀ v, left v → (f v).isSome = true) ∧ rowOf wr w.heap.size = rdC ⟨1, k, []⟩ ∧ live wr w.heap.size = true ∧ Fr (fun _ => False) w wr) (fun _ wr => wr.rangeLeft bn (w.heap.size + 1))
  case atStart =>
    refine ⟨_, cnt0, _, [], rfl, hrg0, by simpa using hcn0, OwnRows.nil _ _ _, ?_, by simp, fun _ h => h, HRX0.out, HLX0.out, HB0.out⟩
    intro i
    refine ⟨fun h => (by cases h), ?_⟩
    rintro ⟨⟨L, h1, _⟩, h3⟩
    refine absurd ?_ h3
    show (f _).isSome = true
    obtain ⟨_, _, v, hv, _⟩ := HNA.out.at_ i L h1
    rw [hv]; rfl
  case round =>
    obtain ⟨left, cnt, v, xs, rfl, hrg, hcn, ho, hm, hnd, hle, hrx, hlx, hf⟩ := hrel
    have HO := Lib.hid ho
    have HM := Lib.hid hm
    have HND := Lib.hid hnd
    have HLE := Lib.hid hle
    have HF := Lib.hid hf
    have HRG := Lib.hid hrg
    have HRX1 := Lib.hid hrx
    have HLX1 := Lib.hid hlx
    clear hm hnd hle hf ho hr hrx hlx
    go_wp2_with (at_next; refine wpList_nextF _ rfl _ rfl law138 (w.heap.size + 1) rfl hrg ?_ ?_)
    · intro hc0 hl0
      clear hrg
      have HX := Lib.hid (rising64 H53 wr HO.out HND.out (by omega))
      go_wp2_with (go_at_call 64; refine HX.out.mono ?_; rintro e w2 ⟨rfl, ys, hp, hoy, hf2⟩)
      go_ret
      refine ⟨_, ys, rfl, ?_, ?_, HF.out.trans hf2 (fun k hk e => by have := (HO.out.lt e).1; omega)⟩
      · rcases hoy with ⟨h1, h2⟩ | ⟨g, cap, h1, h2, h3⟩
        · exact .inl ⟨h1, h2⟩
        · exact .inr ⟨g, cap, h1, by omega, h3⟩
      · intro i
        rw [hp.mem_iff, HM.out]
        exact ⟨fun h => h.1, fun h => ⟨h, hl0 _⟩⟩
    · intro key x kl w1 cnt1 hkey hlk hfx hrg1 hlt hf1 hs1 hen
      obtain ⟨t, L, rfl, hNt, hox, hcx, htB, ht40⟩ := HNA.out.get hfx
      obtain ⟨a, c, rfl⟩ := hox.len
      rw [rdRows_length] at *
      have FB : Fr (fun _ => False) w1 ((w1.alloc (.cells #[.int .i64 0, .string ⟨#[]⟩] 138)).setRow w1.heap.size #[.int .i64 (t : Nat), .string ⟨#[116]⟩]) := ((Fr.refl (fun _ => False) w1).alloc _).setNew (Nat.le_refl _) _
      have FW := (HF.out.trans hf1 (fun k hk h => by omega))
      have hs2 : w.heap.size + 2 ≤ w1.heap.size := by have := HRG.out.lt; omega
      have hbx : w.heap.size < wr.heap.size := live_lt HLX1.out
      have rxB := Lib.hid ((FB.row (by omega) (fun e => e)).trans ((hf1.row hbx (by omega)).trans HRX1.out))
      have lxB := Lib.hid ((FB.liv (by omega) (fun e => e)).trans ((hf1.liv hbx (by omega)).trans HLX1.out))
      have HC := Lib.hid (containsFuncRd ((w1.alloc (.cells #[.int .i64 0, .string ⟨#[]⟩] 138)).setRow w1.heap.size #[.int .i64 (t : Nat), .string ⟨#[116]⟩]) ((hox.keep FW (fun _ _ e => e)).keep FB (fun _ _ e => e)) (fg := 62) (cb := #[.pointer (some ⟨w.heap.size, 0, none⟩)]) (p := fun y => covK y k) HEG.out (fun W q hfW hq => by
        have := readers62 W w.heap.size ⟨1, k, []⟩ q (HOK.out t L hNt q hq) ((hfW.row (live_lt lxB.out) (fun e => e)).trans rxB.out) ((hfW.liv (live_lt lxB.out) (fun e => e)).trans lxB.out)
        unfold rdV at this
        rw [show (#[.agg #[.string ⟨#[116]⟩, .int .i64 q.kind, .string ⟨q.lo.toArray⟩, .string ⟨q.hi.toArray⟩]] ++ #[.pointer (some ⟨w.heap.size, 0, none⟩)] : Array Value) = #[.agg #[.string ⟨#[116]⟩, .int .i64 q.kind, .string ⟨q.lo.toArray⟩, .string ⟨q.hi.toArray⟩], .pointer (some ⟨w.heap.size, 0, none⟩)] from by simp]
        exact this))
      have HO1 := Lib.hid ((HO.out.keep hf1 (fun k hk e => by have := (HO.out.lt hk).1; omega)).keep FB (fun _ _ e => e))
      have HRG1 := Lib.hid (hrg1.fr FB (fun e => e) (fun e => e))
      have HLK := Lib.hid hlk
      have HNT := Lib.hid hNt
      have HFW := Lib.hid (FW.trans FB (fun _ _ h => h))
      have HS1 := Lib.hid hs1
      unfold plKey at hen
      clear hrg hrg1 hf1 hkey hlk hfx hNt hox hcx FW FB hs1
      have hbb : ∃ cb, cb = L.any (fun y => covK y k) := ⟨_, rfl⟩
      obtain ⟨cb, hcb⟩ := hbb
      rw [← hcb] at HC
      have HCB := Lib.hid hcb
      clear hcb
      have hcbb : cb = true ∨ cb = false := by cases cb <;> simp
      rcases hcbb with rfl | rfl
      · go_wp2_with (first
          | (go_at_call 61; refine HC.out.mono ?_; rintro e w2 ⟨rfl, hf2⟩; have rk : rowOf w2 w1.heap.size = #[.int .i64 (t : Nat), .string ⟨#[116]⟩] := (hf2.row (by simp) (fun e => e)).trans (by simp [go_sem]); have HO2 := Lib.hid (HO1.out.keep hf2 (fun _ _ e => e)); have HRG2 := Lib.hid (HRG1.out.fr hf2 (fun e => e) (fun e => e)); have HF2 := Lib.hid (HFW.out.trans hf2 (fun _ _ h => h)); have rx2 := Lib.hid ((hf2.row (live_lt lxB.out) (fun e => e)).trans rxB.out); have lx2 := Lib.hid ((hf2.liv (live_lt lxB.out) (fun e => e)).trans lxB.out); have hs22 := hf2.size; simp only [size_setRow', World.size_alloc] at hs22; clear hf2)
          | (at_builtin; refine wpList_append_one rfl (.tmp 35) (.tmp 38) 83 rfl 2 _ 1 8 Tryz.underlying83 ti2 u8 (natRows xs) (w.heap.size + 2) rfl (HO2.out.keep ((Fr.refl (fun _ => False) w2).alloc _) (fun _ _ h => h)) (by simp; omega) w2.heap.size 1 rfl #[.int .i64 (t : Nat)] (by simp [go_sem]) (by simp [go_sem]; rfl) (by intro y hy; simp at hy; subst hy; rfl) (natRows_size _) (by rw [natRows_length]; simp only [maxLen]; omega) (fitsN (by rw [natRows_length]; omega) (by omega)) ?_; intro g' cap' w3 ho3 f3 hn3; have HO3 := Lib.hid ho3; have F3 := Lib.hid f3; have N3 := Lib.hid hn3; clear ho3 f3 hn3))
        have FC : Fr (fun k => u8.ownBlock = some k) w2 w3 := ((Fr.refl (fun _ => False) w2).alloc _).mono (fun _ _ h => h.elim) |>.trans F3.out (fun _ _ h => h)
        have hbl : ∀ k, u8.ownBlock = some k → w.heap.size + 2 ≤ k := fun k hk => (HO.out.lt hk).1
        have hrg3 := HRG2.out.fr FC (fun e => by have := hbl _ e; omega) (fun e => by have := hbl _ e; omega)
        go_roundw
        case rel =>
          refine ⟨_, cnt1, _, xs ++ [t], rfl, hrg3, by simp; omega, ?_, ?_, natRows_nodup_snoc HND.out (fun h => ((HM.out t).1 h).2 HLK.out), fun v hv => HLE.out v hv.1, (FC.row (live_lt lx2.out) (fun e => by have := hbl _ e; omega)).trans rx2.out, (FC.liv (live_lt lx2.out) (fun e => by have := hbl _ e; omega)).trans lx2.out, HF2.out.trans FC (fun k hk h => by have := hbl _ h; omega)⟩
          · rw [natRows_snoc]; have := HO3.out; rwa [natRows_length] at this ⊢
          · intro j
            rw [List.mem_append, HM.out]
            constructor
            · rintro (⟨h1, h3⟩ | hj)
              · exact ⟨h1, fun h => h3 h.1⟩
              · obtain rfl := List.mem_singleton.1 hj
                obtain ⟨y, hy, hc⟩ := List.any_eq_true.1 HCB.out.symm
                exact ⟨⟨L, HNT.out, y, hy, hc⟩, fun h => h.2 rfl⟩
            · rintro ⟨h1, h3⟩
              by_cases hji : j = t
              · subst hji; exact .inr (by simp)
              · exact .inl ⟨h1, fun h => h3 ⟨h, fun e => hji (plKey_inj e)⟩⟩
        case measure => rw [hrg3.left_eq, HRG.out.left_eq]; exact hlt
      · go_wp2_with (go_at_call 61; refine HC.out.mono ?_; rintro e w2 ⟨rfl, hf2⟩)
        have hrg2 := HRG1.out.fr hf2 (fun e => e) (fun e => e)
        go_roundw
        case rel =>
          refine ⟨_, cnt1, _, xs, rfl, hrg2, by omega, HO1.out.keep hf2 (fun _ _ e => e), ?_, HND.out, fun v hv => HLE.out v hv.1, (hf2.row (live_lt lxB.out) (fun e => e)).trans rxB.out, (hf2.liv (live_lt lxB.out) (fun e => e)).trans lxB.out, HFW.out.trans hf2 (fun _ _ h => h)⟩
          intro j
          rw [HM.out]
          refine ⟨fun h => ⟨h.1, fun hh => h.2 hh.1⟩, fun h => ⟨h.1, fun hl => h.2 ⟨hl, fun e => ?_⟩⟩⟩
          obtain rfl := plKey_inj e
          obtain ⟨L', h1, y, hy, hc⟩ := h.1
          rw [HNT.out] at h1; cases h1
          have : L.any (fun y => covK y k) = true := List.any_eq_true.2 ⟨y, hy, hc⟩
          rw [← HCB.out] at this; cases this
        case measure => rw [hrg2.left_eq, HRG.out.left_eq]; exact hlt
end Go.Proofs.YteldfmgjbgedaaaGreat

namespace Go.Proofs.YteldfmgjbgedaaaGreat
open Go.RowKit Go.Maps

/-- What sorting does to a slice of notes. -/
def Sorts72 : Prop := ∀ (w : World) (v : Value) (xs : List RdT) (base : Nat), OwnRows w v 4 (rdRows xs) base → xs.length < 2 ^ 41 →
  Calls Tryz.prog 72 #[v, .func (.func 73) #[] #[]] w fun e w' => e = .returned (.tuple #[]) ∧ ∃ ys, ys.Perm xs ∧ OwnRows w' v 4 (rdRows ys) base ∧ Fr (fun k => v.ownBlock = some k) w w'

set_option maxRecDepth 20000 in
set_option maxHeartbeats 4000000 in
theorem of42 (H72 : Sorts72) (w : World) (r : Nat) {cls : Nat → Nat} {most many : Int} {bn n B : Nat} {f : Value → Option Value} {N : Nat → Option (List RdT)} (hr : rowOf w r = rdRow most bn many)
    (hN : NotesAt w cls bn n B f N) (hs : sumN N B ≤ 65536) (t : Nat) :
    Calls Tryz.prog 42 #[.pointer (some ⟨r, 0, none⟩), .int .i64 (t : Nat)] w fun e w' => ∃ a c, e = .returned (.slice a (lenO (N t)) c) ∧ Fr (fun _ => False) w w' := by
  have HNN := Lib.hid (none54_any w r hr)
  have HNA := Lib.hid hN
  have hlb := hN.map.lt
  have hown := hN.map
  unfold rdRow at hr
  clear hN
  go_enter Tryz.func42, Tryz.ntmps42
  go_wp2_with (first | (go_at_call 54; refine HNN.out.mono ?_; rintro e w' ⟨rfl, rfl⟩) | (at_range; refine wpList_rangeF _ rfl _ 89 rfl law138 Tryz.underlying89 hown rfl ?_; intro w0 cnt0 hrg0 hcn0 hf0 hs0))
  try go_frame
  go_loopw [5] (fun l wr => ∃ (left : Value → Prop) (cnt : Nat) (v : Value) (xs : List RdT), l = v ∧ RangeF wr 138 bn w.heap.size n f left cnt ∧ OwnRows wr v 4 (rdRows xs) (w.heap.size + 1) ∧ ((xs = [] ∧ (∀ L, N t = some L → L ≠ [] → left (plKey t))) ∨ (N t = some xs ∧ ¬ left (plKey t))) ∧ Fr (fun _ => False) w wr) (fun _ wr => wr.rangeLeft bn w.heap.size)
  case atStart =>
    refine ⟨_, cnt0, _, [], rfl, hrg0, OwnRows.nil _ _ _, .inl ⟨rfl, fun L hL _ => ?_⟩, hf0⟩
    show (f _).isSome = true
    obtain ⟨_, _, v, hv, _⟩ := HNA.out.at_ t L hL
    rw [hv]; rfl
  case round =>
    obtain ⟨left, cnt, v, xs, rfl, hrg, ho, hm, hf⟩ := hrel
    have HO := Lib.hid ho
    have HM := Lib.hid hm
    have HF := Lib.hid hf
    have HRG := Lib.hid hrg
    clear hm hf ho hr
    go_wp2_with (at_next; refine wpList_nextF _ rfl _ rfl law138 w.heap.size rfl hrg ?_ ?_)
    · intro hc0 hl0
      clear hrg
      have hxl : xs.length = lenO (N t) := by
        rcases HM.out with ⟨rfl, h⟩ | ⟨h, _⟩
        · cases hNt : N t with
          | none => rfl
          | some L =>
            cases L with
            | nil => rfl
            | cons a b => exact absurd (h _ hNt (by simp)) (hl0 _)
        · rw [h]; rfl
      have hxs : xs.length < 2 ^ 41 := by
        rw [hxl]
        cases hNt : N t with
        | none => simp [lenO]
        | some L =>
          have := sumN_le N t (HNA.out.at_ t L hNt).1
          rw [hNt] at this
          simp only [lenO] at this ⊢; omega
      have HX := Lib.hid (H72 wr u5 xs (w.heap.size + 1) HO.out hxs)
      have HXL := Lib.hid hxl
      clear hxs hxl
      go_wp2_with (go_at_call 72; refine HX.out.mono ?_; rintro e w2 ⟨rfl, ys, hp, hoy, hf2⟩)
      go_ret
      obtain ⟨a, c, e⟩ := hoy.len
      refine ⟨a, c, ?_, HF.out.trans hf2 (fun k hk e => by have := (HO.out.lt e).1; omega)⟩
      show Ending.returned u5 = _
      rw [e, rdRows_length, hp.length_eq, HXL.out]
    · intro key x kl w1 cnt1 hkey hlk hfx hrg1 hlt hf1 hs1 hen
      obtain ⟨i, L, rfl, hNt, hox, hcx, htB, ht40⟩ := HNA.out.get hfx
      obtain ⟨a, c, rfl⟩ := hox.len
      rw [rdRows_length] at *
      have FB : Fr (fun _ => False) w1 ((w1.alloc (.cells #[.int .i64 0, .string ⟨#[]⟩] 138)).setRow w1.heap.size #[.int .i64 (i : Nat), .string ⟨#[116]⟩]) := ((Fr.refl (fun _ => False) w1).alloc _).setNew (Nat.le_refl _) _
      have FW := (HF.out.trans hf1 (fun k hk h => by omega)).trans FB (fun _ _ h => h)
      have HO1 := Lib.hid ((HO.out.keep hf1 (fun k hk e => by have := (HO.out.lt hk).1; omega)).keep FB (fun _ _ e => e))
      have HRG1 := Lib.hid (hrg1.fr FB (fun e => e) (fun e => e))
      have HOX := Lib.hid (hox.keep FW (fun _ _ e => e))
      have HLK := Lib.hid hlk
      have HNT := Lib.hid hNt
      have HFW := Lib.hid FW
      have HS1 := Lib.hid hs1
      have HFB := Lib.hid FB
      have hlim : L.length ≤ 65536 := by have := sumN_le N i htB; rw [hNt] at this; simp only [lenO] at this; omega
      unfold plKey at hen
      clear hrg hrg1 hf1 hkey hlk hfx hNt hox hcx FW FB hs1
      by_cases hit : i = t
      · subst hit
        have hd : ((i : Int) == (i : Int)) = true := by simp
        have hxs0 : xs = [] := by
          rcases HM.out with ⟨h, _⟩ | ⟨_, h⟩
          · exact h
          · exact absurd HLK.out h
        subst hxs0
        have hu5 : u5 = .slice none 0 0 := by
          rcases HO.out with ⟨h, _⟩ | ⟨g, cap, _, _, _, h, _⟩
          · exact h
          · simp [rdRows] at h
        subst hu5
        rcases HOX.out with ⟨e, hL⟩ | ⟨g, cap, e, h1, h2, h3, h4, h5, h6⟩
        · have hL0 : L = [] := by
            cases L with
            | nil => rfl
            | cons a b => simp [rdRows] at hL
          subst hL0
          injection e with e1 e2 e3
          subst e1 e3
          go_wp2
          go_roundw
          case rel => exact ⟨_, cnt1, _, [], rfl, HRG1.out, HO1.out, .inr ⟨HNT.out, fun h => h.2 rfl⟩, HFW.out⟩
          case measure => rw [HRG1.out.left_eq, HRG.out.left_eq]; exact hlt
        · injection e with e1 e2 e3
          subst e1 e3
          clear e2
          rw [rdRows_length] at h3
          have hmul := Nat.mul_le_mul_right 4 h3.1
          have H6 := Lib.hid h6
          have h3b := h3.2
          have hsz : 0 + L.length * 4 ≤ (rowOf ((w1.alloc (.cells #[.int .i64 0, .string ⟨#[]⟩] 138)).setRow w1.heap.size #[.int .i64 (i : Nat), .string ⟨#[116]⟩]) g).size := by rw [h5]; omega
          have HSZ := Lib.hid hsz
          clear h5 h6 h3 h1 h2 h4 hsz
          go_wp2_with (at_builtin; refine wpList_append_fresh rfl (.tmp 24) (.tmp 25) 117 rfl 104 _ 4 56 Tryz.underlying117 ti104 none g 0 L.length c rfl rfl (.inl rfl) h3b HSZ.out (by simp only [maxLen]; omega) (by omega) ?_; intro cp cur c1 c2 c3 c4 c5)
          have FC := ((HFW.out.alloc (.cells cur 104)).drew)
          have hrg3 := HRG1.out.fr (((Fr.refl (fun _ => False) _).alloc (.cells cur 104)).drew) (fun e => e) (fun e => e)
          go_roundw
          case rel =>
            refine ⟨_, cnt1, _, L, rfl, hrg3, ?_, .inr ⟨HNT.out, fun h => h.2 rfl⟩, FC⟩
            have hs31 : w.heap.size + 1 ≤ w1.heap.size := by have := HRG.out.lt; have := HS1.out; omega
            refine .inr ⟨w1.heap.size + 1, cp, by simp [rdRows], by omega, by simp [go_sem], ⟨by rw [rdRows_length]; exact c1, by rw [rdRows_length]; exact h3b⟩, c2, by simp [go_sem, c3], fun q hq => ?_⟩
            have hq2 : q < L.length := by simpa [rdRows] using hq
            have h4' := c4.out
            have hm' := Nat.mul_le_mul_right 4 c1
            have hi4 : q * 4 + 4 ≤ L.length * 4 := by have := Nat.mul_le_mul_right 4 hq2; rw [Nat.succ_mul] at this; exact this
            rw [rowOf_drew, rowOf_alloc_at _ _ _ _ _ (by simp)]
            have hz := HSZ.out
            rw [← H6.out q hq]
            refine cut_ext (cut_size (by omega)) (by omega) (fun j hj => ?_)
            rw [cut_get (by omega) j hj]
            have e1 := cut_get (cur := cur) (off := 0) (n := L.length * 4) (by omega) (q * 4 + j) (by omega)
            have e2 := cut_get (off := 0) (n := L.length * 4) hz (q * 4 + j) (by omega)
            rw [Nat.zero_add] at e1 e2
            rw [← e1, ← e2, h4']
          case measure => rw [hrg3.left_eq, HRG.out.left_eq]; exact hlt
      · have hd : ((i : Int) == (t : Int)) = false := by rw [beq_eq_false_iff_ne]; omega
        have hd2 : decide ((i : Int) = (t : Int)) = false := decide_eq_false (by omega)
        go_wp2
        go_roundw
        case rel =>
          refine ⟨_, cnt1, _, xs, rfl, HRG1.out, HO1.out, ?_, HFW.out⟩
          rcases HM.out with ⟨h, h2⟩ | ⟨h, h2⟩
          · exact .inl ⟨h, fun L hL hne => ⟨h2 L hL hne, fun e => hit (plKey_inj e).symm⟩⟩
          · exact .inr ⟨h, fun hh => h2 hh.1⟩
        case measure => rw [HRG1.out.left_eq, HRG.out.left_eq]; exact hlt
end Go.Proofs.YteldfmgjbgedaaaGreat
