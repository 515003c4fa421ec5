/-
  Package ssi: others.
  Package ssi: a transaction's record is turned; put's closure.
-/
import Derived.Test.YteldfmgjbgedaaaGreatMjl
namespace Go.Proofs.YteldfmgjbgedaaaGreat
open Go.RowKit Go.Maps

/-- The block of a transaction. -/
def MS.blk (S : MS) (o : Nat) : Nat := match S.T o with | some p => p.1 | none => 0
theorem MS.blk_eq {S : MS} {o : Nat} {p : Nat × TR} (h : S.T o = some p) : S.blk o = p.1 := by unfold MS.blk; rw [h]
def ptrRows (S : MS) (os : List Nat) : List (Array Value) := os.map fun o => #[.pointer (some ⟨S.blk o, 0, none⟩)]
theorem ptrRows_length (S : MS) (os : List Nat) : (ptrRows S os).length = os.length := by simp [ptrRows]
theorem ptrRows_snoc (S : MS) (os : List Nat) (o : Nat) : ptrRows S (os ++ [o]) = ptrRows S os ++ [#[.pointer (some ⟨S.blk o, 0, none⟩)]] := by simp [ptrRows]
theorem ptrRows_size (S : MS) (os : List Nat) : ∀ y ∈ ptrRows S os, y.size = 1 := by
  intro y hy
  simp only [ptrRows, List.mem_map] at hy
  obtain ⟨i, -, rfl⟩ := hy
  rfl

/-- Whether o is concurrent with t, which is under way. -/
def MS.with_ (S : MS) (t o : Nat) : Prop := o ≠ t ∧ ∃ r p, S.T t = some r ∧ S.T o = some p ∧ (p.2.act = true ∨ r.2.b < p.2.e)

set_option maxRecDepth 20000 in
set_option maxHeartbeats 4000000 in
theorem Mgr.others {w : World} {cls : Nat → Nat} {P : MP} {q : Nat} {S : MS} (h : Mgr w cls P q S) {t : Nat} {rt : Nat × TR} (ht : S.T t = some rt) {fg : Nat} {cb : Array Value} {so : Nat → Prop} (eg : ∀ args w, (callFunc fg args).run Tryz.prog w = .ok (.enter fg args) w)
    (hp : ∀ W o p, Fr (fun _ => False) w W → S.T o = some p → Calls Tryz.prog fg (#[.pointer (some ⟨p.1, 0, none⟩)] ++ cb) W fun e w' => ∃ rb, e = .returned (.bool rb) ∧ (rb = true ↔ so o) ∧ Fr (fun _ => False) W w') :
    Calls Tryz.prog 34 #[.pointer (some ⟨P.m, 0, none⟩), .pointer (some ⟨rt.1, 0, none⟩), .func (.func fg) #[] cb] w fun e w' => ∃ v os, e = .returned v ∧ OwnRows w' v 1 (ptrRows S os) w.heap.size ∧ (∀ o, o ∈ os ↔ S.with_ t o ∧ so o) ∧ os.length ≤ q ∧ Fr (fun _ => False) w w' := by
  have H := Lib.hid h
  have hqb := h.qb
  obtain ⟨n1, g1, hn1, htx⟩ := h.tx
  have HTX := Lib.hid htx
  have hown := htx.map
  have hrow := h.row
  have HP := Lib.hid hp
  have HT := Lib.hid ht
  unfold mgRow at hrow
  have hlb : P.bm < w.heap.size := hown.lt
  clear h htx hp
  go_enter Tryz.func34, Tryz.ntmps34
  go_wp2_with (at_range; refine wpList_rangeF _ rfl _ 55 rfl law2 Tryz.underlying55 hown rfl ?_; intro w0 cnt0 hrg0 hcn0 hf0 hs0)
  try go_frame
  go_loopw [7] (fun l wr => ∃ (left : Value → Prop) (cnt : Nat) (v : Value) (os : List Nat), l = v ∧ RangeF wr 2 P.bm w.heap.size n1 g1 left cnt ∧ os.length + cnt ≤ n1 ∧ OwnRows wr v 1 (ptrRows S os) (w.heap.size + 1) ∧ (∀ o, o ∈ os ↔ (S.with_ t o ∧ so o) ∧ ¬ left (.int .i64 (o : Nat))) ∧ (∀ v, left v → (g1 v).isSome = true) ∧ Fr (fun _ => False) w wr) (fun _ wr => wr.rangeLeft P.bm w.heap.size)
  case atStart =>
    refine ⟨_, cnt0, _, [], rfl, hrg0, by simpa using hcn0, OwnRows.nil _ _ _, ?_, fun _ h => h, hf0⟩
    intro o
    refine ⟨fun h => (by cases h), ?_⟩
    rintro ⟨⟨⟨_, r, p, _, h1, _⟩, _⟩, h3⟩
    refine absurd ?_ h3
    show (g1 _).isSome = true
    rw [(HTX.out.at_ o p h1).1]; rfl
  case round =>
    obtain ⟨left, cnt, v, os, rfl, hrg, hcn, ho, hm, hle, hf⟩ := hrel
    have HO := Lib.hid ho
    have HM := Lib.hid hm
    have HLE := Lib.hid hle
    have HF := Lib.hid hf
    have HRG := Lib.hid hrg
    clear hm hle hf ho hrow
    go_wp2_with (at_next; refine wpList_nextF _ rfl _ rfl law2 w.heap.size rfl hrg ?_ ?_)
    · intro hc0 hl0
      clear hrg
      go_wp2
      go_ret
      refine ⟨_, os, rfl, ?_, ?_, by omega, HF.out⟩
      · rcases HO.out with ⟨h1, h2⟩ | ⟨g, cap, h1, h2, h3⟩
        · exact .inl ⟨h1, h2⟩
        · exact .inr ⟨g, cap, h1, by omega, h3⟩
      · intro o
        rw [HM.out]
        exact ⟨fun h => h.1, fun h => ⟨h, hl0 _⟩⟩
    · intro key x kl w1 cnt1 hkey hlk hfx hrg1 hlt hf1 hs1 hen
      obtain ⟨i, p, rfl, hpi, rfl, hpl, hpr, hi⟩ := HTX.out.ptr hfx
      have FW := HF.out.trans hf1 (fun k hk h => by omega)
      have hM1 := H.out.fr0 FW
      have htx1 := hM1.txOf hrg1.map
      obtain ⟨-, hla, hra, -⟩ := htx1.at_ i p hpi
      obtain ⟨-, hlt', hrt', -⟩ := htx1.at_ t rt HT.out
      have HCC := Lib.hid (concurrent_any w1 rt.1 p.1 hrt' hra hlt' hla)
      have HFW := Lib.hid FW
      have HRG1 := Lib.hid hrg1
      have HF1 := Lib.hid hf1
      have HS1 := Lib.hid hs1
      have HLK := Lib.hid hlk
      have HPI := Lib.hid hpi
      have HO1 := Lib.hid (HO.out.keep hf1 (fun k hk e => by have := (HO.out.lt hk).1; omega))
      have hbe : (!decide (p.1 = rt.1) && (p.2.act || decide ((rt.2.b : Int) < (p.2.e : Int)))) = true ↔ S.with_ t i := by
        unfold MS.with_
        constructor
        · intro hh
          simp only [Bool.and_eq_true, Bool.not_eq_true', decide_eq_false_iff_not, Bool.or_eq_true, decide_eq_true_eq] at hh
          refine ⟨fun e => hh.1 ?_, rt, p, HT.out, HPI.out, hh.2.imp id (fun h => by omega)⟩
          subst e; rw [HT.out] at hpi; cases hpi; rfl
        · rintro ⟨hne, r, p', h1, h2, h3⟩
          rw [HT.out] at h1; cases h1
          rw [HPI.out] at h2; cases h2
          simp only [Bool.and_eq_true, Bool.not_eq_true', decide_eq_false_iff_not, Bool.or_eq_true, decide_eq_true_eq]
          exact ⟨fun e => hne (htx1.inj i t p rt HPI.out HT.out e), h3.imp id (fun h => by omega)⟩
      have HBE := Lib.hid hbe
      generalize (!decide (p.1 = rt.1) && (p.2.act || decide ((rt.2.b : Int) < (p.2.e : Int)))) = cb1 at HCC HBE
      have hblk := Lib.hid (MS.blk_eq hpi)
      have hsz := HF.out.size
      clear hrg hrg1 hf1 hs1 hlk hpi FW hM1 htx1 hla hra hlt' hrt' hkey hpl hpr hfx hbe
      have hcb1 : cb1 = true ∨ cb1 = false := by cases cb1 <;> simp
      rcases hcb1 with rfl | rfl
      · go_wp2_with (go_at_call 59; refine HCC.out.mono ?_; rintro e w2 ⟨rfl, hf2⟩; have HSO := Lib.hid (HP.out w2 i p (HFW.out.trans hf2 (fun _ _ h => h)) HPI.out))
        refine HSO.out.mono ?_
        rintro e w3 ⟨rb, rfl, hrb, hf3⟩
        have HF3 := Lib.hid (hf2.trans hf3 (fun _ _ h => h))
        have HRB := Lib.hid hrb
        have HO3 := Lib.hid ((HO1.out.keep hf2 (fun _ _ e => e)).keep hf3 (fun _ _ e => e))
        have hrg3 := HRG1.out.fr HF3.out (fun e => e) (fun e => e)
        have HRG3 := Lib.hid hrg3
        have hs31 := HF3.out.size
        have hs11 := HS1.out
        have hsr : w.heap.size + 1 ≤ w1.heap.size := by rw [HS1.out]; have := HF.out.size; have := HRG.out.lt; omega
        have hs3 : w.heap.size + 1 ≤ w3.heap.size := by omega
        have hrbb : rb = true ∨ rb = false := by cases rb <;> simp
        clear hf2 hf3 hrb hrg3 hs31 hs11 hsr
        rcases hrbb with rfl | rfl
        · go_wp2_with (at_builtin; refine wpList_append_one rfl (.tmp 27) (.tmp 29) 109 rfl 92 _ 1 8 Tryz.underlying109 ti92 u7 (ptrRows S os) (w.heap.size + 1) rfl (HO3.out.keep ((Fr.refl (fun _ => False) w3).alloc _) (fun _ _ h => h)) (by simp; omega) w3.heap.size 1 rfl #[.pointer (some ⟨p.1, 0, none⟩)] (by simp [go_sem]) (by simp [go_sem]; rfl) (by intro y hy; simp at hy; subst hy; rfl) (ptrRows_size _ _) (by rw [ptrRows_length]; simp only [maxLen]; omega) (fitsN (by rw [ptrRows_length]; omega) (by omega)) ?_; intro g' cap' w4 ho4 f4 hn4; have HO4 := Lib.hid ho4; have F4 := Lib.hid f4; have N4 := Lib.hid hn4; clear ho4 f4 hn4)
          have FA : Fr (fun k => u7.ownBlock = some k) w3 w4 := ((Fr.refl (fun _ => False) w3).alloc _).mono (fun _ _ h => h.elim) |>.trans F4.out (fun _ _ h => h)
          have hbl : ∀ k, u7.ownBlock = some k → w.heap.size + 1 ≤ k := fun k hk => (HO.out.lt hk).1
          have hrg4 := HRG3.out.fr FA (fun e => by have := hbl _ e; omega) (fun e => by have := hbl _ e; omega)
          go_roundw
          case rel =>
            refine ⟨_, cnt1, _, os ++ [i], rfl, hrg4, by simp; omega, ?_, ?_, fun v hv => HLE.out v hv.1, (HFW.out.trans HF3.out (fun _ _ h => h)).trans FA (fun k hk h => by have := hbl _ h; omega)⟩
            · rw [ptrRows_snoc, hblk.out]; have := HO4.out; rwa [ptrRows_length] at this ⊢
            · intro o
              rw [List.mem_append, HM.out]
              constructor
              · rintro (⟨h1, h3⟩ | hj)
                · exact ⟨h1, fun h => h3 h.1⟩
                · obtain rfl := List.mem_singleton.1 hj
                  exact ⟨⟨HBE.out.1 (by simp), HRB.out.1 (by simp)⟩, fun h => h.2 rfl⟩
              · rintro ⟨h1, h3⟩
                by_cases hji : o = i
                · subst hji; exact .inr (by simp)
                · exact .inl ⟨h1, fun h => h3 ⟨h, fun e => hji (by injection e with _ e; omega)⟩⟩
          case measure => rw [hrg4.left_eq, HRG.out.left_eq]; exact hlt
        · go_wp2
          go_roundw
          case rel =>
            refine ⟨_, cnt1, _, os, rfl, HRG3.out, by omega, HO3.out, ?_, fun v hv => HLE.out v hv.1, HFW.out.trans HF3.out (fun _ _ h => h)⟩
            intro o
            rw [HM.out]
            refine ⟨fun h => ⟨h.1, fun hh => h.2 hh.1⟩, fun h => ⟨h.1, fun hl => h.2 ⟨hl, fun e => ?_⟩⟩⟩
            obtain rfl : o = i := by injection e with _ e; omega
            have := HRB.out.2 h.1.2; cases this
          case measure => rw [HRG3.out.left_eq, HRG.out.left_eq]; exact hlt
      · go_wp2_with (go_at_call 59; refine HCC.out.mono ?_; rintro e w2 ⟨rfl, hf2⟩)
        have HRG2 := HRG1.out.fr hf2 (fun e => e) (fun e => e)
        go_roundw
        case rel =>
          refine ⟨_, cnt1, _, os, rfl, HRG2, by omega, HO1.out.keep hf2 (fun _ _ e => e), ?_, fun v hv => HLE.out v hv.1, HFW.out.trans hf2 (fun _ _ h => h)⟩
          intro o
          rw [HM.out]
          refine ⟨fun h => ⟨h.1, fun hh => h.2 hh.1⟩, fun h => ⟨h.1, fun hl => h.2 ⟨hl, fun e => ?_⟩⟩⟩
          obtain rfl : o = i := by injection e with _ e; omega
          have := HBE.out.2 h.1.1; cases this
        case measure => rw [HRG2.left_eq, HRG.out.left_eq]; exact hlt
end Go.Proofs.YteldfmgjbgedaaaGreat

namespace Go.Proofs.YteldfmgjbgedaaaGreat
open Go.RowKit Go.Maps

/-- The record (and what was written) of i, turned. -/
def MS.setTx (S : MS) (i : Nat) (p : Nat × TR) (l : List Key) : MS := { S with T := fun j => if j = i then some p else S.T j, W := fun j => if j = i then l else S.W j }

theorem Mgr.setTx {w w' : World} {cls cls' : Nat → Nat} {P : MP} {q : Nat} {S : MS} (h : Mgr w cls P q S) {i : Nat} {p : Nat × TR} (hp : S.T i = some p) (r : TR) (l : List Key) (hrow : rowOf w' p.1 = r.row) (hl : live w' p.1 = true) (hn : r.n = i)
    (hwr : OwnRows w' r.wr 2 (lkRows l) 0 ∧ ∀ k, r.wr.ownBlock = some k → cls' k = 6) (hf : Fr (fun k => k = p.1) w w') (hc : ∀ k, k < w.heap.size → cls' k = cls k) : Mgr w' cls' P q (S.setTx i (p.1, r) l) := by
  obtain ⟨m1, m2, m3, m4, m5, m6⟩ := h.lts
  obtain ⟨n1, g1, h1, htx⟩ := h.tx
  obtain ⟨n2, g2, h2, hlk⟩ := h.lk
  obtain ⟨n3, g3, h3, hnt⟩ := h.nt
  obtain ⟨hfa, hla, hra, ha40⟩ := htx.at_ i p hp
  have hcp := (h.ct i p hp).1
  obtain ⟨k1, k2, k3⟩ := h.maps hla
  have d1 : ¬ P.m = p.1 := fun e => by have := h.cm; rw [e, hcp] at this; omega
  have d2 : ¬ P.bl = p.1 := fun e => by have := h.cl_; rw [e, hcp] at this; omega
  have d3 : ¬ P.br = p.1 := fun e => by have := h.cr_; rw [e, hcp] at this; omega
  have hT : TxnsAt w' P.bm n1 g1 (S.setTx i (p.1, r) l).T := by
    refine ⟨htx.map.fr hf k1.symm, fun j p' hp' => ?_, fun v x hv => ?_, fun a b pa pb ha hb e => ?_⟩
    · by_cases e : j = i
      · subst e
        simp only [MS.setTx, if_true] at hp'
        cases hp'
        exact ⟨hfa, hl, hrow, ha40⟩
      · simp only [MS.setTx, if_neg e] at hp'
        obtain ⟨a1, a2, a3, a4⟩ := htx.at_ j p' hp'
        have hne : ¬ p'.1 = p.1 := fun e2 => e (htx.inj j i p' p hp' hp e2)
        exact ⟨a1, by rw [hf.liv (live_lt a2) hne]; exact a2, by rw [hf.row (live_lt a2) hne]; exact a3, a4⟩
    · obtain ⟨j, p', hj, hp'⟩ := htx.all v x hv
      by_cases e : j = i
      · exact ⟨j, (p.1, r), hj, by simp only [MS.setTx, if_pos e]⟩
      · exact ⟨j, p', hj, by simp only [MS.setTx, if_neg e]; exact hp'⟩
    · have key : ∀ j pj, (S.setTx i (p.1, r) l).T j = some pj → ∃ pj', S.T j = some pj' ∧ pj'.1 = pj.1 := fun j pj hj => by
        by_cases e : j = i
        · subst e; simp only [MS.setTx, if_true] at hj; cases hj; exact ⟨p, hp, rfl⟩
        · simp only [MS.setTx, if_neg e] at hj; exact ⟨pj, hj, rfl⟩
      obtain ⟨pa', ha', ea⟩ := key a pa ha
      obtain ⟨pb', hb', eb⟩ := key b pb hb
      exact htx.inj a b pa' pb' ha' hb' (by rw [ea, eb, e])
  exact {
    row := by rw [hf.row m1 d1]; exact h.row
    lm := by rw [hf.liv m1 d1]; exact h.lm
    rowl := by rw [hf.row m2 d2]; exact h.rowl
    ll := by rw [hf.liv m2 d2]; exact h.ll
    rowr := by rw [hf.row m3 d3]; exact h.rowr
    lr := by rw [hf.liv m3 d3]; exact h.lr
    cm := (hc _ m1).trans h.cm
    cl_ := (hc _ m2).trans h.cl_
    cr_ := (hc _ m3).trans h.cr_
    tx := ⟨n1, g1, h1, hT⟩
    ct := fun j p' hp' => by
      by_cases e : j = i
      · subst e
        simp only [MS.setTx, if_true] at hp'; cases hp'
        exact ⟨(hc _ (live_lt hla)).trans hcp, hn, (h.ct j p hp).2.2⟩
      · simp only [MS.setTx, if_neg e] at hp'
        exact ⟨(hc _ (live_lt (htx.at_ j p' hp').2.1)).trans (h.ct j p' hp').1, (h.ct j p' hp').2⟩
    wr := fun j p' hp' => by
      by_cases e : j = i
      · subst e
        simp only [MS.setTx, if_true] at hp'; cases hp'
        simp only [MS.setTx, if_true]
        exact hwr
      · simp only [MS.setTx, if_neg e] at hp' ⊢
        obtain ⟨a1, a2⟩ := h.wr j p' hp'
        exact ⟨a1.keep hf (fun k hk e2 => by have := a2 k hk; rw [e2, hcp] at this; omega), fun k hk => (hc k (a1.lt hk).2).trans (a2 k hk)⟩
    lk := ⟨n2, g2, h2, hlk.fr hf k2.symm⟩
    nt := ⟨n3, g3, h3, hnt.fr hf k3.symm (fun k hk h5 => ⟨fun e => by rw [e, hcp] at h5; omega, (hc k (live_lt hk)).trans h5⟩)⟩
    nb := h.nb
    mb := h.mb
    qb := h.qb
    nok := h.nok }

/-- Flags, with one more. -/
def TR.flag (r : TR) (inn : Bool) : TR := { r with fi := r.fi || inn, fo := r.fo || !inn }

set_option maxRecDepth 20000 in
set_option maxHeartbeats 2000000 in
theorem flag66 (W : World) (b : Nat) (r : TR) (inn : Bool) (h : rowOf W b = r.row) (l : live W b = true) :
    Calls Tryz.prog 66 #[.pointer (some ⟨b, 5, none⟩), .bool inn] W fun e w' => e = .returned (.tuple #[]) ∧ rowOf w' b = (r.flag inn).row ∧ live w' b = true ∧ Fr (fun k => k = b) W w' := by
  have e1 := live_lt l
  have L := Lib.hid l
  unfold TR.row txRow at h ⊢
  unfold TR.flag
  obtain ⟨n, sn, a, bb, ee, fi, fo, wr⟩ := r
  simp only at h ⊢
  cases inn <;> cases fi <;> cases fo <;>
  · go_enter Tryz.func66, Tryz.ntmps66
    go_wp2_with fail
    go_region
    all_goals
      go_wp2
      go_end0
      refine ⟨rfl, ?_, ?_, ?_⟩
      · simp [go_sem, L.out]
      · simp [go_sem, L.out]
      · exact (((Fr.refl (fun k => k = b) W).drew.setRow _ _ (fun _ => rfl)))
end Go.Proofs.YteldfmgjbgedaaaGreat
