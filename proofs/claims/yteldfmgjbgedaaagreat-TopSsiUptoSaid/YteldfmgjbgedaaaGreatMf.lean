/-
  Package siread: the notes; Drop.
-/
import Derived.Test.YteldfmgjbgedaaaGreatMce
namespace Go.Proofs.YteldfmgjbgedaaaGreat
open Go.RowKit Go.Maps

/-- A note: its kind, its keys. -/
structure RdT where
  kind : Int
  lo : List UInt8
  hi : List UInt8

/-- A note as it may be. -/
structure RdOk (y : RdT) : Prop where
  kind : (y.kind = 1 ∧ y.hi = []) ∨ (y.kind = 2 ∧ (y.hi = [] ∨ Op.bytesLess y.lo y.hi = true)) ∨ (y.kind = 3 ∧ y.lo = [] ∧ y.hi = [])
  len : y.lo.length < 2 ^ 40

def rdC (y : RdT) : Array Value := #[.string ⟨#[116]⟩, .int .i64 y.kind, strV y.lo, strV y.hi]
def rdRows (L : List RdT) : List (Array Value) := L.map rdC
theorem rdRows_length (L : List RdT) : (rdRows L).length = L.length := by simp [rdRows]
theorem rdRows_size (L : List RdT) : ∀ y ∈ rdRows L, y.size = 4 := by
  intro y hy
  simp only [rdRows, List.mem_map] at hy
  obtain ⟨s, -, rfl⟩ := hy
  rfl

/-- The place of transaction t's notes. -/
def plKey (t : Nat) : Value := .agg #[.int .i64 (t : Nat), .string ⟨#[116]⟩]
theorem plKey_inj {a b : Nat} (h : plKey a = plKey b) : a = b := by
  unfold plKey at h; injection h with h
  have := congrArg (fun a : Array Value => a[0]?) h
  simp at this
  omega
theorem plKey_key {t : Nat} (h : t < 2 ^ 40) : ∃ kl, keyOf Tryz.prog 138 (plKey t) = some kl := key138 (wf_nat h) (by decide)

def lenO (x : Option (List RdT)) : Nat := match x with | some L => L.length | none => 0
/-- How many notes there are. -/
def sumN (N : Nat → Option (List RdT)) : Nat → Nat
  | 0 => 0
  | b + 1 => sumN N b + lenO (N b)
def setN (N : Nat → Option (List RdT)) (t : Nat) (x : Option (List RdT)) : Nat → Option (List RdT) := fun u => if u = t then x else N u

theorem sumN_congr {N N' : Nat → Option (List RdT)} : ∀ {B : Nat}, (∀ i, i < B → N i = N' i) → sumN N B = sumN N' B
  | 0, _ => rfl
  | b + 1, h => by simp only [sumN]; rw [sumN_congr (fun i hi => h i (by omega)), h b (by omega)]
theorem sumN_set (N : Nat → Option (List RdT)) (t : Nat) (x : Option (List RdT)) : ∀ {B : Nat}, t < B → sumN (setN N t x) B + lenO (N t) = sumN N B + lenO x
  | 0, h => by omega
  | b + 1, h => by
    simp only [sumN]
    by_cases e : t = b
    · subst e
      have : sumN (setN N t x) t = sumN N t := sumN_congr (fun i hi => by unfold setN; rw [if_neg (by omega)])
      rw [this]
      have : setN N t x t = x := if_pos rfl
      rw [this]; omega
    · have ih := sumN_set N t x (B := b) (by omega)
      have : setN N t x b = N b := if_neg (by omega)
      rw [this]; omega
theorem sumN_none {N : Nat → Option (List RdT)} : ∀ {B : Nat}, (∀ i, N i = none) → sumN N B = 0
  | 0, _ => rfl
  | b + 1, h => by simp only [sumN, h b, lenO]; rw [sumN_none h]
theorem sumN_le (N : Nat → Option (List RdT)) (t : Nat) {B : Nat} (h : t < B) : lenO (N t) ≤ sumN N B := by
  have := sumN_set N t none h
  simp only [lenO] at this ⊢
  omega

/-- The notes: of each transaction. (cls: what a block is for; 5: a slice of notes.) -/
structure NotesAt (w : World) (cls : Nat → Nat) (bn n B : Nat) (f : Value → Option Value) (N : Nat → Option (List RdT)) : Prop where
  map : MapF w 138 bn n f
  at_ : ∀ t L, N t = some L → t < B ∧ t < 2 ^ 40 ∧ ∃ v, f (plKey t) = some v ∧ OwnRows w v 4 (rdRows L) 0 ∧ ∀ k, v.ownBlock = some k → cls k = 5
  all : ∀ v x, f v = some x → ∃ t L, v = plKey t ∧ N t = some L

theorem OwnRows.ne_map {w : World} {v : Value} {size : Nat} {xs : List (Array Value)} {base : Nat} (h : OwnRows w v size xs base) {k : TypeId} {b n : Nat} {f : Value → Option Value} (hm : MapF w k b n f) : v.ownBlock ≠ some b := by
  rcases h with ⟨rfl, _⟩ | ⟨g, cap, rfl, _, h2, _⟩
  · simp [Value.ownBlock]
  · intro e
    simp only [Value.ownBlock, Option.some.injEq] at e
    exact hm.ne_live h2 e

theorem OwnRows.liv {w : World} {v : Value} {size : Nat} {xs : List (Array Value)} {base : Nat} (h : OwnRows w v size xs base) {k : Nat} (hk : v.ownBlock = some k) : live w k = true := by
  rcases h with ⟨rfl, _⟩ | ⟨g, cap, rfl, h1, h2, _⟩
  · cases hk
  · simp only [Value.ownBlock, Option.some.injEq] at hk; subst hk; exact h2

theorem NotesAt.fr {w w' : World} {cls cls' : Nat → Nat} {bn n B : Nat} {f : Value → Option Value} {N : Nat → Option (List RdT)} (h : NotesAt w cls bn n B f N) {F : Nat → Prop} (hf : Fr F w w') (hb : ¬ F bn) (hF : ∀ k, live w k = true → cls k = 5 → ¬ F k ∧ cls' k = 5) : NotesAt w' cls' bn n B f N :=
  ⟨h.map.fr hf hb, fun t L hN => by
    obtain ⟨h1, h2, v, h3, h4, h5⟩ := h.at_ t L hN
    exact ⟨h1, h2, v, h3, h4.keep hf (fun k hk => (hF k (h4.liv hk) (h5 k hk)).1), fun k hk => (hF k (h4.liv hk) (h5 k hk)).2⟩, h.all⟩
theorem NotesAt.none_ {w : World} {cls : Nat → Nat} {bn n B : Nat} {f : Value → Option Value} {N : Nat → Option (List RdT)} (h : NotesAt w cls bn n B f N) {t : Nat} (ht : N t = none) : f (plKey t) = none := by
  cases hf : f (plKey t) with
  | none => rfl
  | some x =>
    obtain ⟨s, L, h1, h2⟩ := h.all _ _ hf
    rw [← plKey_inj h1, ht] at h2; cases h2
theorem NotesAt.get {w : World} {cls : Nat → Nat} {bn n B : Nat} {f : Value → Option Value} {N : Nat → Option (List RdT)} (h : NotesAt w cls bn n B f N) {v x : Value} (hv : f v = some x) : ∃ t L, v = plKey t ∧ N t = some L ∧ OwnRows w x 4 (rdRows L) 0 ∧ (∀ k, x.ownBlock = some k → cls k = 5) ∧ t < B ∧ t < 2 ^ 40 := by
  obtain ⟨t, L, rfl, hN⟩ := h.all v x hv
  obtain ⟨h1, h2, y, h3, h4, h5⟩ := h.at_ t L hN
  rw [hv] at h3; cases h3
  exact ⟨t, L, rfl, hN, h4, h5, h1, h2⟩
theorem NotesAt.del {w w' : World} {cls : Nat → Nat} {bn n B : Nat} {f : Value → Option Value} {N : Nat → Option (List RdT)} (h : NotesAt w cls bn n B f N) {t : Nat} (hm : MapF w' 138 bn n (updF f (plKey t) none)) {F : Nat → Prop} (hf : Fr F w w') (hF : ∀ k, k < w.heap.size → cls k = 5 → k ≠ bn → ¬ F k) : NotesAt w' cls bn n B (updF f (plKey t) none) (setN N t none) := by
  refine ⟨hm, fun u L hu => ?_, fun v x hv => ?_⟩
  · by_cases e : u = t
    · unfold setN at hu; rw [if_pos e] at hu; cases hu
    · unfold setN at hu; rw [if_neg e] at hu
      obtain ⟨h1, h2, v, h3, h4, h5⟩ := h.at_ u L hu
      exact ⟨h1, h2, v, by rw [updF_ne f _ (fun h => e (plKey_inj h))]; exact h3, h4.keep hf (fun k hk => hF k (h4.lt hk).2 (h5 k hk) (fun e => h4.ne_map h.map (by rw [hk, e]))), h5⟩
  · by_cases e : v = plKey t
    · rw [e, updF_same] at hv; cases hv
    · rw [updF_ne f _ e] at hv
      obtain ⟨u, L, h1, h2⟩ := h.all v x hv
      exact ⟨u, L, h1, by unfold setN; rw [if_neg (fun hh => e (by rw [h1, hh]))]; exact h2⟩

set_option maxRecDepth 20000 in
set_option maxHeartbeats 2000000 in
/-- Drop's closure. -/
theorem drop76 (W : World) (b2 b3 r t tx : Nat) {most many : Int} {bn len c : Nat} {a : Option Addr} (h3 : rowOf W b3 = #[.int .i64 (tx : Nat)]) (h2 : rowOf W b2 = #[.pointer (some ⟨r, 0, none⟩)]) (hr : rowOf W r = rdRow most bn many) (l2 : live W b2 = true) (l3 : live W b3 = true) (lr : live W r = true) (hm1 : (len : Int) ≤ many) (hm2 : many ≤ 65536) :
    Calls Tryz.prog 76 #[plKey t, .slice a len c, .pointer (some ⟨b3, 0, none⟩), .pointer (some ⟨b2, 0, none⟩)] W fun e w' => e = .returned (.bool (decide (t = tx))) ∧ Fr (fun k => k = r) W w' ∧ rowOf w' r = rdRow most bn (if t = tx then many - len else many) ∧ live w' r = true := by
  have e2 := live_lt l2
  have e3 := live_lt l3
  have er := live_lt lr
  have F1 : ∀ o, Fr (fun k => k = r) W (W.alloc o) := fun o => (Fr.refl _ W).alloc o
  unfold plKey
  unfold rdRow at hr ⊢
  by_cases htx : t = tx
  · subst htx
    have hne : ((t : Int) != (t : Int)) = false := by simp
    have hw : IntKind.i64.wrap (many - (len : Int)) = many - len := by rw [IntKind.wrap_i64]; omega
    go_enter Tryz.func76, Tryz.ntmps76
    go_wp2
    all_goals go_ret
    refine ⟨by simp, (F1 _).setRow _ _ (fun _ => rfl), ?_, ?_⟩
    · rw [rowOf_setRow_same _ _ _ (by rw [live_alloc_lt _ _ _ er]; exact lr)]
    · rw [live_setRow, live_alloc_lt _ _ _ er]; exact lr
  · have hne : ((t : Int) != (tx : Int)) = true := by simp; omega
    go_enter Tryz.func76, Tryz.ntmps76
    go_wp2
    all_goals go_ret
    refine ⟨by simp, F1 _, ?_, ?_⟩
    · rw [rowOf_alloc_lt _ _ _ er]; exact hr
    · rw [live_alloc_lt _ _ _ er]; exact lr

/-- What the map holds, and how many notes there are, before and behind the deletion. -/
noncomputable def offF (f : Value → Option Value) (tx : Nat) (done : Bool) : Value → Option Value := match done with | true => updF f (plKey tx) none | false => f
def offM (many : Int) (l : Nat) (done : Bool) : Int := match done with | true => many - l | false => many

theorem offM_ge (N : Nat → Option (List RdT)) {B : Nat} (hN : ∀ t L, N t = some L → t < B) {t tx : Nat} (ht : t < B) (done : Bool) (hd : done = true → t ≠ tx) : (lenO (N t) : Int) ≤ offM (sumN N B : Nat) (lenO (N tx)) done := by
  have h1 := sumN_le N t ht
  cases done with
  | false => simp only [offM]; omega
  | true =>
    have hne := hd rfl
    simp only [offM]
    by_cases hB : tx < B
    · have h2 := sumN_set N tx none hB
      have h3 := sumN_le (setN N tx none) t ht
      have h4 : setN N tx none t = N t := if_neg hne
      rw [h4] at h3
      simp only [lenO] at h2 h3 ⊢
      omega
    · have h5 : N tx = none := by
        cases hx : N tx with
        | none => rfl
        | some L => exact absurd (hN tx L hx) hB
      rw [h5]
      simp only [lenO] at h1 ⊢
      omega

set_option maxRecDepth 20000 in
set_option maxHeartbeats 2000000 in
/-- maps.DeleteFunc with Drop's closure. -/
theorem deleteFunc75 (w : World) (b2 b3 r tx : Nat) {cls : Nat → Nat} {most many : Int} {bn n B : Nat} {f : Value → Option Value} {N : Nat → Option (List RdT)} (h3 : rowOf w b3 = #[.int .i64 (tx : Nat)]) (h2 : rowOf w b2 = #[.pointer (some ⟨r, 0, none⟩)]) (hr : rowOf w r = rdRow most bn many) (l2 : live w b2 = true) (l3 : live w b3 = true) (lr : live w r = true)
    (n2 : b2 ≠ r) (n3 : b3 ≠ r) (cr : cls r ≠ 5) (hN : NotesAt w cls bn n B f N) (hs : many = (sumN N B : Nat)) (hm : many ≤ 65536) :
    Calls Tryz.prog 75 #[.map (some bn), .func (.func 76) #[] #[.pointer (some ⟨b3, 0, none⟩), .pointer (some ⟨b2, 0, none⟩)]] w fun e w' => e = .returned (.tuple #[]) ∧ (∃ f', NotesAt w' cls bn n B f' (setN N tx none)) ∧ rowOf w' r = rdRow most bn (sumN (setN N tx none) B : Nat) ∧ live w' r = true ∧ Fr (fun k => k = r ∨ k = bn) w w' := by
  have e2 := live_lt l2
  have e3 := live_lt l3
  have er := live_lt lr
  have hown := hN.map
  have nb2 : b2 ≠ bn := hown.ne_live l2
  have nb3 : b3 ≠ bn := hown.ne_live l3
  have nbr : r ≠ bn := hown.ne_live lr
  have hlb := hown.lt
  have HT := Lib.hid hN
  have H3 := Lib.hid h3
  have H2 := Lib.hid h2
  have HR := Lib.hid hr
  have L2 := Lib.hid l2
  have L3 := Lib.hid l3
  have LR := Lib.hid lr
  clear hN h3 h2 hr l2 l3 lr
  go_enter Tryz.func75, Tryz.ntmps75
  go_wp2_with (at_range; refine wpList_rangeF _ rfl _ 89 rfl law138 Tryz.underlying89 hown rfl ?_; intro w0 cnt0 hrg0 hcn0 hf0 hs0)
  go_frame
  go_loopw [] (fun wr => ∃ (left : Value → Prop) (cnt : Nat) (done : Bool), RangeF wr 138 bn w.heap.size n (offF f tx done) left cnt ∧ (done = false → (N tx).isSome = true → left (plKey tx)) ∧
      rowOf wr r = rdRow most bn (offM many (lenO (N tx)) done) ∧ live wr r = true ∧ Fr (fun k => k = r ∨ k = bn) w wr) (fun wr => wr.rangeLeft bn w.heap.size)
  case atStart =>
    refine ⟨_, cnt0, false, hrg0, fun _ h => ?_, ?_, ?_, hf0.mono (fun _ _ h => h.elim)⟩
    · cases hn : N tx with
      | none => rw [hn] at h; cases h
      | some L =>
        obtain ⟨_, _, v, hv, _⟩ := HT.out.at_ tx L hn
        show (f (plKey tx)).isSome = true
        rw [hv]; rfl
    · rw [hf0.row er (fun e => e)]; exact HR.out
    · rw [hf0.liv er (fun e => e)]; exact LR.out
  case round =>
    obtain ⟨left, cnt, done, hrg, hdn, hrr, hlr, hf⟩ := hrel
    have HF := Lib.hid hf
    have HRG := Lib.hid hrg
    have HDN := Lib.hid hdn
    have HRR := Lib.hid hrr
    have HLR := Lib.hid hlr
    clear hf hdn hrr hlr
    go_wp2_with (at_next; refine wpList_nextF _ rfl _ rfl law138 w.heap.size rfl hrg ?_ ?_)
    · intro hc0 hl0
      clear hrg
      go_wp2
      go_end0
      refine ⟨rfl, ?_, ?_, HLR.out, HF.out⟩
      · cases done with
        | true =>
          have hm := HRG.out.map
          exact ⟨_, HT.out.del (t := tx) hm HF.out (fun k _ hk hkb e => e.elim (fun e => cr (e ▸ hk)) hkb)⟩
        | false =>
          have hn : N tx = none := by
            cases hx : N tx with
            | none => rfl
            | some L => exact absurd (HDN.out rfl (by rw [hx]; rfl)) (hl0 _)
          have e : setN N tx none = N := by
            funext u; unfold setN
            by_cases h : u = tx
            · rw [if_pos h, h, hn]
            · rw [if_neg h]
          rw [e]
          have hm := HRG.out.map
          refine ⟨f, ⟨hm, fun t L hN => ?_, HT.out.all⟩⟩
          obtain ⟨h1, h2, v, h3, h4, h5⟩ := HT.out.at_ t L hN
          exact ⟨h1, h2, v, h3, h4.keep HF.out (fun k hk e => e.elim (fun e => cr (e ▸ h5 k hk)) (fun e => h4.ne_map HT.out.map (by rw [hk, e]))), h5⟩
      · have hr := HRR.out
        cases done with
        | true =>
          simp only [offM] at hr
          by_cases hB : tx < B
          · have := sumN_set N tx none hB
            simp only [lenO] at this
            rw [hr]; congr 1; simp only [lenO]; omega
          · have hn : N tx = none := by
              cases hx : N tx with
              | none => rfl
              | some L => exact absurd (HT.out.at_ tx L hx).1 hB
            have : sumN (setN N tx none) B = sumN N B := sumN_congr (fun i hi => by unfold setN; rw [if_neg (by omega)])
            rw [hr, this, hn]; congr 1; simp only [lenO]; omega
        | false =>
          simp only [offM] at hr
          have hn : N tx = none := by
            cases hx : N tx with
            | none => rfl
            | some L => exact absurd (HDN.out rfl (by rw [hx]; rfl)) (hl0 _)
          have e : setN N tx none = N := by
            funext u; unfold setN
            by_cases h : u = tx
            · rw [if_pos h, h, hn]
            · rw [if_neg h]
          rw [e, hr, hs]
    · intro key x kl w1 cnt1 hkey hlk hfx hrg1 hlt hf1 hs1 hen
      obtain ⟨t, L, rfl, hNt, hox, hcx, htB, ht40⟩ : ∃ t L, key = plKey t ∧ N t = some L ∧ OwnRows w x 4 (rdRows L) 0 ∧ (∀ k, x.ownBlock = some k → cls k = 5) ∧ t < B ∧ t < 2 ^ 40 := by
        cases done with
        | false => exact HT.out.get hfx
        | true =>
          simp only [offF] at hfx
          by_cases e : key = plKey tx
          · rw [e, updF_same] at hfx; cases hfx
          · rw [updF_ne f _ e] at hfx; exact HT.out.get hfx
      obtain ⟨a, c, rfl⟩ := hox.len
      rw [rdRows_length] at *
      have hL : lenO (N t) = L.length := by rw [hNt]; rfl
      have hLs := sumN_le N t htB
      have hd1 : done = true → t ≠ tx := fun hd e => by
        subst hd
        simp only [offF] at hfx
        rw [e, updF_same] at hfx; cases hfx
      have FA : Fr (fun _ => False) w1 ((w1.alloc (.cells #[.int .i64 0, .string ⟨#[]⟩] 138)).setRow w1.heap.size #[.int .i64 (t : Nat), .string ⟨#[116]⟩]) := ((Fr.refl (fun _ => False) w1).alloc _).setNew (Nat.le_refl _) _
      have FW : Fr (fun k => k = r ∨ k = bn) w ((w1.alloc (.cells #[.int .i64 0, .string ⟨#[]⟩] 138)).setRow w1.heap.size #[.int .i64 (t : Nat), .string ⟨#[116]⟩]) := (HF.out.trans hf1 (fun k hk e => by omega)).trans FA (fun _ _ e => e.elim)
      have er1 : r < wr.heap.size := Nat.lt_of_lt_of_le er HF.out.size
      have er2 : r < w1.heap.size := by omega
      have hrA := (FA.row er2 (fun e => e)).trans ((hf1.row er1 (by omega)).trans HRR.out)
      have lrA := (FA.liv er2 (fun e => e)).trans ((hf1.liv er1 (by omega)).trans HLR.out)
      have HC := Lib.hid (drop76 _ b2 b3 r t tx (len := L.length) (c := c) (a := a) ((FW.row e3 (fun e => e.elim n3 nb3)).trans H3.out) ((FW.row e2 (fun e => e.elim n2 nb2)).trans H2.out) hrA ((FW.liv e2 (fun e => e.elim n2 nb2)).trans L2.out) ((FW.liv e3 (fun e => e.elim n3 nb3)).trans L3.out) lrA (by rw [hs, ← hL]; exact offM_ge N (fun u L hu => (HT.out.at_ u L hu).1) htB done hd1) (by cases done <;> simp only [offM] <;> omega))
      have HRGA := Lib.hid (hrg1.fr FA (fun e => e) (fun e => e))
      have HFW := Lib.hid FW
      have HRG1 := Lib.hid hrg1
      have HF1 := Lib.hid hf1
      have HS1 := Lib.hid hs1
      have HK := Lib.hid hkey
      have HLK := Lib.hid hlk
      have HN1 := Lib.hid hNt
      clear hrg hrg1 hf1 hs1 hkey hlk hfx hNt hox hcx FA FW hrA lrA
      unfold plKey at hen HC
      have hkz : w1.heap.size ≠ r := by omega
      by_cases htx : t = tx
      · subst htx
        have hdf : done = false := by
          cases done with
          | true => exact absurd rfl (hd1 rfl)
          | false => rfl
        subst hdf
        obtain ⟨kl2, hk2⟩ := plKey_key ht40
        have HK2 := Lib.hid hk2
        clear hd1 hk2
        go_wp2_with (first
          | (go_at_call 76; refine HC.out.mono ?_; rintro e w2 ⟨rfl, f2, r2, l2⟩; have rk : rowOf w2 w1.heap.size = #[.int .i64 (t : Nat), .string ⟨#[116]⟩] := (f2.row (by simp) hkz).trans (by simp [go_sem]); rw [decide_eq_true rfl]; have HR2 := Lib.hid r2; have HL2 := Lib.hid l2; have HRG2 := Lib.hid (HRGA.out.fr f2 nbr.symm (by omega)); have F2 := Lib.hid f2; clear f2 r2 l2)
          | (at_delete; refine wpList_dropRF _ rfl _ _ 89 138 rfl law138 Tryz.underlying89 HRG2.out rfl (plKey t) rfl HK2.out ?_; intro w3 cnt3 hrg3 hle3 hf3))
        go_frame
        go_roundw
        case rel =>
          refine ⟨_, cnt3, true, hrg3, fun h => (by cases h), ?_, ?_, (HFW.out.trans F2.out (fun _ _ e => .inl e)).trans hf3 (fun _ _ e => .inr e)⟩
          · rw [hf3.row (live_lt HL2.out) nbr, HR2.out, if_pos trivial, HN1.out]; rfl
          · rw [hf3.liv (live_lt HL2.out) nbr]; exact HL2.out
        case measure => rw [hrg3.left_eq, HRG.out.left_eq]; omega
      · rw [decide_eq_false htx] at HC
        go_wp2_with (go_at_call 76; refine HC.out.mono ?_; rintro e w2 ⟨rfl, f2, r2, l2⟩)
        have HRG2 := HRGA.out.fr f2 nbr.symm (by omega)
        rw [if_neg htx] at r2
        go_roundw
        case rel =>
          exact ⟨_, cnt1, done, HRG2, fun h1 h2 => ⟨HDN.out h1 h2, fun e => htx (plKey_inj e).symm⟩, r2, l2, HFW.out.trans f2 (fun _ _ e => .inl e)⟩
        case measure => rw [HRG2.left_eq, HRG.out.left_eq]; exact hlt

set_option maxRecDepth 20000 in
set_option maxHeartbeats 2000000 in
/-- Drop. -/
theorem drop44_any (w : World) (r tx : Nat) {cls : Nat → Nat} {most : Int} {bn n B : Nat} {f : Value → Option Value} {N : Nat → Option (List RdT)} (hr : rowOf w r = rdRow most bn (sumN N B : Nat)) (lr : live w r = true)
    (cr : cls r ≠ 5) (hN : NotesAt w cls bn n B f N) (hm : sumN N B ≤ 65536) (htx : 1 ≤ tx) :
    Calls Tryz.prog 44 #[.pointer (some ⟨r, 0, none⟩), .int .i64 (tx : Nat)] w fun e w' => e = .returned (.int .i64 0) ∧ (∃ f', NotesAt w' cls bn n B f' (setN N tx none)) ∧ rowOf w' r = rdRow most bn (sumN (setN N tx none) B : Nat) ∧ live w' r = true ∧ Fr (fun k => k = r ∨ k = bn) w w' := by
  have er := live_lt lr
  have hown := hN.map
  have hlb := hown.lt
  have F0 : Fr (fun _ => False) w ((w.alloc (.cells #[.pointer (some ⟨r, 0, none⟩)] 52)).alloc (.cells #[.int .i64 (tx : Nat)] 2)) := ((Fr.refl _ w).alloc _).alloc _
  have hr0 := (F0.row er (fun e => e)).trans hr
  have HN := Lib.hid (none54_any _ r hr0)
  have HC := Lib.hid (deleteFunc75 ((w.alloc (.cells #[.pointer (some ⟨r, 0, none⟩)] 52)).alloc (.cells #[.int .i64 (tx : Nat)] 2)) w.heap.size (w.heap.size + 1) r tx (cls := cls) (most := most) (many := (sumN N B : Nat)) (bn := bn) (n := n) (B := B) (f := f) (N := N)
    (by simp [go_sem]) (by simp [go_sem]) hr0 (by simp [go_sem]) (by simp [go_sem]) ((F0.liv er (fun e => e)).trans lr) (by omega) (by omega) cr (hN.fr F0 (fun e => e) (fun _ _ h => ⟨fun e => e, h⟩)) rfl (by omega))
  have HF0 := Lib.hid F0
  have e1 : decide ((tx : Int) < 1) = false := decide_eq_false (by omega)
  unfold rdRow at hr
  clear hr0 F0 hN lr
  go_enter Tryz.func44, Tryz.ntmps44
  go_wp2_with (first | (go_at_call 54; refine HN.out.mono ?_; rintro e w' ⟨rfl, rfl⟩) | (go_at_call 75; refine HC.out.mono ?_; rintro e w2 ⟨rfl, ⟨f', h1⟩, h2, h3, h4⟩))
  go_ret
  exact ⟨rfl, ⟨f', h1⟩, h2, h3, HF0.out.mono (fun _ _ h => h.elim) |>.trans h4 (fun _ _ h => h)⟩
end Go.Proofs.YteldfmgjbgedaaaGreat
