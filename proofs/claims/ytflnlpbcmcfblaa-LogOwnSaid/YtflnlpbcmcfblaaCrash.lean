/-
  (*Disk).Crash.
-/
import Derived.Test.YtflnlpbcmcfblaaSync
namespace Go.Proofs.Ytflnlpbcmcfblaa
open Go.RowKit

/-- A slice of ints in memory. -/
def IntsAt (w : World) (v : Value) (l : List Int) : Prop :=
  ∃ a cap, v = .slice a l.length cap ∧ l.length ≤ 9223372036854775807 ∧ (l = [] ∨ ∃ g off, a = some ⟨g, off, none⟩ ∧ ∀ i (h : i < l.length), (rowOf w g)[off + i]? = some (.int .i64 l[i]))

theorem IntsAt.keep {w w' : World} {v : Value} {b : List Int} (h : IntsAt w v b) {F : Nat → Prop} (hf : Fr F w w') (hF : ∀ k, v.ownBlock = some k → ¬ F k) : IntsAt w' v b := by
  obtain ⟨a, cap, rfl, hm, h | ⟨g, off, rfl, h1⟩⟩ := h
  · exact ⟨a, cap, rfl, hm, .inl h⟩
  · by_cases hb : b = []
    · exact ⟨_, cap, rfl, hm, .inl hb⟩
    · have hl : 0 < b.length := List.length_pos_iff.2 hb
      have h0 := (Array.getElem?_eq_some_iff.1 (h1 0 hl)).1
      have hr := hf.row (rowOf_lt (w := w) (g := g) (by omega)) (hF g rfl)
      exact ⟨_, cap, rfl, hm, .inr ⟨g, off, rfl, by rw [hr]; exact h1⟩⟩

/-- A block torn: the rep behind it. -/
theorem DiskRep.tore {w w' : World} {p : DP} {S : DS} (h : DiskRep w p S) {k : Nat}
    (rt : rowOf w' p.gt = (rowOf w p.gt).setIfInBounds k (.bool true)) (f : Fr (fun i => i = p.gt) w w') (lt : live w' p.gt = true) :
    DiskRep w' p { S with torn := S.torn.set k true } := by
  obtain ⟨cb, ct, hs, h1, h2, h3, h4⟩ := h.ex
  have rb := f.row (live_lt h.lb) (fun e => h.n3 e)
  refine ⟨⟨h.ok.n0, h.ok.n1, by simp [h.ok.tl], h.ok.dl, h.ok.pe, h.ok.l0, h.ok.l1⟩, ⟨cb, ct, hs.keep f h.n2, h1, h2, by rw [rb]; exact h3, by rw [rt]; simpa using h4⟩,
    by rw [f.liv (live_lt h.lb) (fun e => h.n3 e)]; exact h.lb, lt, by rw [rb]; exact h.rb, ?_, h.rp.keep f (fun j hj e => h.n4.2.2 (by rw [hj, e])), h.n1, h.n2, h.n3, h.n4⟩
  intro i hi
  simp only [List.length_set] at hi
  simp only [List.getElem_set, rt]
  rw [setIf_get (h.rt i hi)]
  by_cases e : k = i <;> simp [e]

theorem keepOne_fields (S : DS) (x : (Nat × List UInt8) × Int) : (S.keepOne x).pend = S.pend ∧ (S.keepOne x).wr = S.wr ∧ (S.keepOne x).sy = S.sy ∧ (S.keepOne x).data.length = S.data.length := by
  unfold DS.keepOne
  split
  · simp [DS.lay]
  · split <;> simp

def DS.keepAll (S : DS) (l : List ((Nat × List UInt8) × Int)) : DS := l.foldl DS.keepOne S

theorem keepAll_fields (l : List ((Nat × List UInt8) × Int)) : ∀ S : DS, (S.keepAll l).pend = S.pend ∧ (S.keepAll l).wr = S.wr ∧ (S.keepAll l).sy = S.sy ∧ (S.keepAll l).data.length = S.data.length := by
  induction l with
  | nil => intro S; simp [DS.keepAll]
  | cons x l ih =>
    intro S
    have h1 := ih (S.keepOne x)
    have h2 := keepOne_fields S x
    have e : S.keepAll (x :: l) = (S.keepOne x).keepAll l := rfl
    rw [e]
    exact ⟨h1.1.trans h2.1, h1.2.1.trans h2.2.1, h1.2.2.1.trans h2.2.2.1, h1.2.2.2.trans h2.2.2.2⟩

theorem keepAll_take_succ (S : DS) (l : List ((Nat × List UInt8) × Int)) (k : Nat) (h : k < l.length) : S.keepAll (l.take (k + 1)) = (S.keepAll (l.take k)).keepOne l[k] := by
  unfold DS.keepAll
  rw [List.take_succ_eq_append_getElem h, List.foldl_append]
  rfl

set_option maxHeartbeats 400000 in
theorem crash_bad1 (w : World) (p : DP) (S : DS) (h : DiskRep w p S) (a : Option Addr) (n cap : Nat) (hn : S.pend.length < n) :
    Calls Try.prog 23 #[.pointer (some ⟨p.d, 0, none⟩), .slice a n cap] w fun e w' => e = .returned (.int .i64 1) ∧ w = w' := by
  obtain ⟨cb, ct, hd, hx⟩ := h.ex
  have H := Lib.hid h
  obtain ⟨r, l⟩ := hd
  rcases h.rp with ⟨hpv, hpd⟩ | ⟨g, cap', hpv, _⟩
  · rw [hpv] at r
    have h0 : (0 : Int) < (n : Int) := by omega
    clear h hx hpv hpd
    go_enter Try.func23, Try.ntmps23
    go_wp2_with (go_at_call 64; refine (none_rep _ _ _ H.out).mono ?_; rintro e w' ⟨rfl, rfl⟩)
    go_ret
    exact ⟨rfl, rfl⟩
  · rw [hpv] at r
    have h0 : (S.pend.length : Int) < (n : Int) := by omega
    clear h hx hpv
    go_enter Try.func23, Try.ntmps23
    go_wp2_with (go_at_call 64; refine (none_rep _ _ _ H.out).mono ?_; rintro e w' ⟨rfl, rfl⟩)
    go_ret
    exact ⟨rfl, rfl⟩

set_option maxRecDepth 20000 in
set_option maxHeartbeats 1000000 in
theorem crash_bad2 (w : World) (p : DP) (S : DS) (h : DiskRep w p S) (vk : Value) (l : List Int) (hk : IntsAt w vk l) (hn : l.length ≤ S.pend.length) (hbad : ¬ (∀ k ∈ l, 0 ≤ k ∧ k ≤ 2)) :
    Calls Try.prog 23 #[.pointer (some ⟨p.d, 0, none⟩), vk] w fun e w' => e = .returned (.int .i64 1) ∧ Fr (fun _ => False) w w' := by
  obtain ⟨cb, ct, hd, hx⟩ := h.ex
  have H := Lib.hid h
  obtain ⟨r, lv⟩ := hd
  obtain ⟨a, cap, rfl, hmx, hl0 | ⟨g, off, rfl, hg⟩⟩ := hk
  · subst hl0; exact absurd (by simp) hbad
  rcases h.rp with ⟨hpv, hpd⟩ | ⟨gp, cap', hpv, -⟩
  · rw [hpd] at hn
    have : l = [] := List.eq_nil_of_length_eq_zero (by simpa using hn)
    subst this; exact absurd (by simp) hbad
  rw [hpv] at r
  have hd0 : decide (S.pend.length < l.length) = false := by simp; omega
  have HG := Lib.hid hg
  have HB := Lib.hid hbad
  clear h hx hpv hg hbad hn
  go_enter Try.func23, Try.ntmps23
  go_wp2_with (go_at_call 64; refine (none_rep _ _ _ H.out).mono ?_; rintro e w' ⟨rfl, rfl⟩)
  go_loop [22] (fun i => ∃ k : Nat, k ≤ l.length ∧ i = .int .i64 k ∧ Hid (∀ j (h : j < l.length), j < k → 0 ≤ l[j] ∧ l[j] ≤ 2)) (fun i => l.length - (intOf i).toNat)
  case atStart => exact ⟨0, Nat.zero_le _, rfl, fun j h hj => by omega⟩
  case round =>
    obtain ⟨k, hk, rfl, hall⟩ := hrel
    by_cases hlt : k < l.length
    · have hcell := HG.out k hlt
      have hki : (k : Int) < (l.length : Int) := by omega
      obtain ⟨x, hx⟩ : ∃ x, l[k] = x := ⟨_, rfl⟩
      rw [hx] at hcell
      have HX := Lib.hid hx
      clear hx
      by_cases hx0 : 0 ≤ x ∧ x ≤ 2
      · obtain ⟨hx1, hx2⟩ := hx0
        go_wp2
        go_round
        case rel =>
          refine ⟨k + 1, by omega, by go_num, fun j h hj => ?_⟩
          by_cases e : j = k
          · subst e; rw [HX.out]; exact ⟨hx1, hx2⟩
          · exact hall.out j h (by omega)
        case measure => simp [intOf]; omega
      · by_cases hx1 : x < 0
        · clear hx0
          go_wp2
          go_ret
          exact ⟨rfl, Fr.refl _ _⟩
        · have hx2 : 2 < x := by omega
          clear hx0
          go_wp2
          go_ret
          exact ⟨rfl, Fr.refl _ _⟩
    · exfalso
      apply HB.out
      intro x hx
      obtain ⟨j, hj, rfl⟩ := List.getElem_of_mem hx
      exact hall.out j hj (by omega)


/-- The end of Crash: nothing is pending, the power is on. -/
theorem DiskRep.crashEnd {w : World} {p : DP} {S : DS} (h : DiskRep w p S) {cb ct : Nat} {n : Nat} {pv0 : Value} {off0 pl0 : Bool} {left0 wr0 sy0 : Int} (hn : S.data.length = n)
    (hd0 : DStruct w p.d (.slice (some ⟨p.gb, 0, none⟩) n cb) (.slice (some ⟨p.gt, 0, none⟩) n ct) pv0 off0 pl0 left0 wr0 sy0) :
    DiskRep (w.setRow p.d #[.slice (some ⟨p.gb, 0, none⟩) n cb, .slice (some ⟨p.gt, 0, none⟩) n ct, .slice none 0 0, .bool false, .bool false, .int .i64 0, .int .i64 wr0, .int .i64 sy0])
      { p with pv := .slice none 0 0 } { S with pend := [], off := false, pl := false, left := 0, wr := wr0, sy := sy0 } := by
  subst hn
  exact h.upd ((Fr.refl (· = p.d) w).setRow p.d _ (fun _ => rfl)) (fun e => h.n1 e.symm) (fun e => h.n2 e.symm) hd0 ⟨rowOf_setRow_same _ _ _ hd0.liv, by rw [live_setRow]; exact hd0.liv⟩ (.inl ⟨rfl, rfl⟩)
    (by simp [Value.ownBlock]) (by simp) (by simp) (by simp)

set_option maxRecDepth 20000 in
set_option maxHeartbeats 2000000 in
theorem crash_ok1 (w : World) (p : DP) (S : DS) (h : DiskRep w p S) (g off cap : Nat) (l : List Int) (hg : ∀ i (h : i < l.length), (rowOf w g)[off + i]? = some (.int .i64 l[i])) (hsep : ¬ p.foot g) (hl0 : 0 < l.length)
    (hn : l.length ≤ S.pend.length) (hall : ∀ k ∈ l, 0 ≤ k ∧ k ≤ 2) (gp capp : Nat) (hpv : p.pv = .slice (some ⟨gp, 0, none⟩) S.pend.length capp) :
    Calls Try.prog 23 #[.pointer (some ⟨p.d, 0, none⟩), .slice (some ⟨g, off, none⟩) l.length cap] w fun e w' => e = .returned (.int .i64 0) ∧
      DiskRep w' { p with pv := .slice none 0 0 } { S.keepAll (S.pend.zip l) with pend := [], off := false, pl := false, left := 0 } ∧ Fr p.foot w w' := by
  obtain ⟨cb, ct, hd, hx⟩ := h.ex
  have H := Lib.hid h
  obtain ⟨r, lv⟩ := hd
  have Hpv := Lib.hid hpv
  obtain ⟨hcap, hmx⟩ := (PendSl.get (hpv ▸ h.rp)).2.2.1
  rw [hpv] at r
  have hd0 : decide (S.pend.length < l.length) = false := by simp; omega
  have hlm : l.length ≤ 9223372036854775807 := by omega
  have HG := Lib.hid hg
  have HA := Lib.hid hall
  have HS := Lib.hid hsep
  have hgl : g < w.heap.size := rowOf_lt (by have := (Array.getElem?_eq_some_iff.1 (hg 0 hl0)).1; omega)
  clear h hx hpv hg hall hsep
  go_enter Try.func23, Try.ntmps23
  go_wp2_with (go_at_call 64; refine (none_rep _ _ _ H.out).mono ?_; rintro e w' ⟨rfl, rfl⟩)
  go_loop [22] (fun i => ∃ k : Nat, k ≤ l.length ∧ i = .int .i64 k) (fun i => l.length - (intOf i).toNat)
  case atStart => exact ⟨0, Nat.zero_le _, rfl⟩
  case round =>
    obtain ⟨k, hk, rfl⟩ := hrel
    by_cases hlt : k < l.length
    · have hcell := HG.out k hlt
      have hki : (k : Int) < (l.length : Int) := by omega
      obtain ⟨hx1, hx2⟩ := HA.out _ (List.getElem_mem hlt)
      obtain ⟨x, hx⟩ : ∃ x, l[k] = x := ⟨_, rfl⟩
      rw [hx] at hcell hx1 hx2
      clear hx
      go_wp2
      go_round
      case rel => exact ⟨k + 1, by omega, by go_num⟩
      case measure => simp [intOf]; omega
    · obtain rfl : k = l.length := by omega
      clear r lv
      go_wp2
      go_loopw [35] (fun i wr => ∃ k : Nat, k ≤ l.length ∧ i = .int .i64 k ∧ DiskRep wr p (S.keepAll ((S.pend.zip l).take k)) ∧ Fr p.foot w wr) (fun i _ => l.length - (intOf i).toNat)
      case atStart => exact ⟨0, Nat.zero_le _, rfl, by simpa [DS.keepAll] using H.out, Fr.refl _ _⟩
      case round =>
        obtain ⟨k, hk, rfl, hrep, hf⟩ := hrel
        have HF := Lib.hid hf
        have HR := Lib.hid hrep
        have hfl := keepAll_fields ((S.pend.zip l).take k) S
        have TS := Lib.hid (fun hh => keepAll_take_succ S (S.pend.zip l) k hh)
        obtain ⟨S', hS'⟩ : ∃ S', S.keepAll ((S.pend.zip l).take k) = S' := ⟨_, rfl⟩
        rw [hS'] at hfl hrep HR TS
        obtain ⟨hpd, -, -, hdl⟩ := hfl
        obtain ⟨cb2, ct2, hd2, -⟩ := hrep.ex
        have hrp := hrep.rp
        rw [hpd, Hpv.out] at hrp
        rw [Hpv.out] at hd2
        have HD2 := Lib.hid hd2
        obtain ⟨r2, lv2⟩ := hd2
        obtain ⟨-, lw, ⟨hc, -⟩, hsz, hct⟩ := hrp.get
        have HDL := Lib.hid hdl
        have HS' := Lib.hid hS'
        clear hdl hpd hrp hS'
        by_cases hlt : k < l.length
        · have hlp : k < S.pend.length := by omega
          have ct0 := hct k hlp
          have hsz2 : k * 65 + 65 ≤ (rowOf wr gp).size := by rw [hsz]; have := Nat.mul_le_mul_right 65 (Nat.le_trans hlp hc); omega
          obtain ⟨q1, q2⟩ := H.out.ok.pe _ (List.getElem_mem hlp)
          rw [← HDL.out] at q1
          have hzl : k < (S.pend.zip l).length := by simp; omega
          have TS2 := Lib.hid (TS.out hzl)
          rw [List.getElem_zip] at TS2
          obtain ⟨⟨ka, b⟩, hq⟩ : ∃ q, S.pend[k] = q := ⟨_, rfl⟩
          obtain ⟨x, hx⟩ : ∃ x, l[k] = x := ⟨_, rfl⟩
          have hcell : (rowOf wr g)[off + k]? = some (.int .i64 x) := by rw [hf.row hgl HS.out, ← hx]; exact HG.out k hlt
          obtain ⟨hx1, hx2⟩ := HA.out _ (List.getElem_mem hlt)
          simp only [hq, hx] at ct0 q1 q2 TS2 hx1 hx2
          obtain ⟨tb, htorn⟩ : ∃ tb, (rowOf wr p.gt)[ka]? = some tb := ⟨_, hrep.rt ka (by rw [hrep.ok.tl]; exact q1)⟩
          have s65 : (wrC (ka : Int) (bvA b)).size = 65 := by rw [wrC_size, bvA_size, q2]
          have o65 : ones (wrC (ka : Int) (bvA b)) := wrC_ones (bvA_ones b)
          have hgw : g < wr.heap.size := Nat.lt_of_lt_of_le hgl hf.size
          have hdw : p.d < wr.heap.size := live_lt lv2
          have hgpw : gp < wr.heap.size := live_lt lw
          have hki : (k : Int) < (l.length : Int) := by omega
          have hkp : (k : Int) < (S.pend.length : Int) := by omega
          have fa : Fr (fun _ => False) wr (wr.alloc (.cells (wrC (ka : Int) (bvA b)) 112)) := (Fr.refl _ _).alloc _
          have RA := Lib.hid (HR.out.keep fa (fun _ _ h => h))
          have FA := Lib.hid fa
          clear hq hx hct hsz fa hf hrep
          have hrep2 := HR.out
          have hcase : x = 0 ∨ x = 1 ∨ x = 2 := by omega
          rcases hcase with rfl | rfl | rfl
          · clear htorn hrep2
            go_wp2
            go_roundw
            case rel =>
              refine ⟨k + 1, by omega, by go_num, ?_, HF.out.trans (FA.out.mono (fun _ _ h => h.elim)) (fun _ _ h => h)⟩
              rw [TS2.out]; exact RA.out
            case measure => simp [intOf]; omega
          · clear htorn hrep2
            go_wp2_with fail
            refine (lay_rep _ p _ RA.out ka b q1 q2).mono ?_
            rintro e w2 ⟨rfl, hr2, f2⟩
            have HR2 := Lib.hid hr2
            have F2 : Hid (Fr p.foot wr w2) := (FA.out.mono (fun _ _ h => h.elim)).trans f2 (fun i _ h => h.elim (fun e => .inr (.inl e)) (fun e => .inr (.inr (.inl e))))
            clear hr2 f2
            go_wp2
            go_roundw
            case rel =>
              refine ⟨k + 1, by omega, by go_num, ?_, HF.out.trans F2.out (fun _ _ h => h)⟩
              rw [TS2.out]; exact HR2.out
            case measure => simp [intOf]; omega
          · have lt2 := hrep2.lt
            have hgt := live_lt lt2
            have q1i : (ka : Int) < (S'.data.length : Int) := by omega
            clear hrep2
            have ngt : p.gt ≠ wr.heap.size := by omega
            go_wp2
            go_region
            go_wp2
            go_roundw
            case rel =>
              refine ⟨k + 1, by omega, by go_num, ?_, HF.out.trans (((FA.out.mono (fun _ _ h => h.elim)).setRow p.gt _ (fun _ => .inr (.inr (.inl rfl)))).drew) (fun _ _ h => h)⟩
              rw [TS2.out, show S'.keepOne ((ka, b), 2) = { S' with torn := S'.torn.set ka true } from rfl]
              have lta : live (wr.alloc (.cells (wrC (ka : Int) (bvA b)) 112)) p.gt = true := by rw [live_alloc_lt _ _ _ hgt]; exact lt2
              refine RA.out.tore (k := ka) ?_ (((Fr.refl (fun i => i = p.gt) _).setRow p.gt _ (fun _ => rfl)).drew) ?_
              · rw [rowOf_drew, rowOf_setRow_same _ _ _ lta, rowOf_alloc_lt _ _ _ hgt]
              · rw [live_drew, live_setRow]; exact lta
            case measure => simp [intOf]; omega
        · obtain rfl : k = l.length := by omega
          have HL := HDL.out
          have fld := keepAll_fields ((S.pend.zip l).take l.length) S
          have HFD := Lib.hid fld
          clear hct hsz hrep fld HL lw
          go_wp2
          go_ret
          have ez : (S.pend.zip l).take l.length = S.pend.zip l := List.take_of_length_le (by simp; omega)
          have hS := HS'.out
          rw [ez] at hS
          have hd3 := HD2.out
          have f3 := HFD.out
          rw [ez, hS] at f3
          refine ⟨rfl, ?_, HF.out.setRow p.d _ (fun _ => .inl rfl)⟩
          rw [hS]
          exact HR.out.crashEnd rfl hd3

set_option maxRecDepth 20000 in
set_option maxHeartbeats 1000000 in
theorem crash_ok0 (w : World) (p : DP) (S : DS) (h : DiskRep w p S) (a : Option Addr) (cap : Nat) :
    Calls Try.prog 23 #[.pointer (some ⟨p.d, 0, none⟩), .slice a 0 cap] w fun e w' => e = .returned (.int .i64 0) ∧
      DiskRep w' { p with pv := .slice none 0 0 } { S with pend := [], off := false, pl := false, left := 0 } ∧ Fr p.foot w w' := by
  obtain ⟨cb, ct, hd, hx⟩ := h.ex
  have H := Lib.hid h
  have HD := Lib.hid hd
  obtain ⟨r, lv⟩ := hd
  obtain ⟨b, m, c, hpv⟩ : ∃ b m c, p.pv = .slice b m c := by
    rcases h.rp with ⟨hpv, hpd⟩ | ⟨g, cap', hpv, -⟩
    · exact ⟨_, _, _, hpv⟩
    · exact ⟨_, _, _, hpv⟩
  rw [hpv] at r
  clear h hx hpv
  go_enter Try.func23, Try.ntmps23
  go_wp2_with (go_at_call 64; refine (none_rep _ _ _ H.out).mono ?_; rintro e w' ⟨rfl, rfl⟩)
  refine wp_loop_once ?_
  go_wp2
  refine wp_loop_once ?_
  go_wp2
  go_ret
  exact ⟨rfl, H.out.crashEnd rfl HD.out, (Fr.refl _ _).setRow p.d _ (fun _ => .inl rfl)⟩

theorem zip_take_len {α β : Type} (a : List α) (b : List β) : (a.zip b) = (a.take b.length).zip b := by
  induction a generalizing b with
  | nil => simp
  | cons x a ih => cases b with
    | nil => simp
    | cons y b => simp [ih b]

/-- Crash, in every case. -/
theorem crash_any (w : World) (p : DP) (S : DS) (h : DiskRep w p S) (vk : Value) (l : List Int) (hk : IntsAt w vk l) (hsep : ∀ k, vk.ownBlock = some k → ¬ p.foot k) :
    Calls Try.prog 23 #[.pointer (some ⟨p.d, 0, none⟩), vk] w fun e w' => ∃ p', p'.d = p.d ∧ e = .returned (.int .i64 (S.crash l).1) ∧ DiskRep w' p' (S.crash l).2 ∧ Moves p.foot p'.foot w w' := by
  have mv : ∀ w', Fr p.foot w w' → Moves p.foot ({ p with pv := .slice none 0 0 } : DP).foot w w' := by
    intro w' f
    refine ⟨f, ?_⟩
    rintro k (rfl | rfl | rfl | hk)
    · exact .inl (.inl rfl)
    · exact .inl (.inr (.inl rfl))
    · exact .inl (.inr (.inr (.inl rfl)))
    · cases hk
  by_cases h1 : S.pend.length < l.length
  · have e1 : S.crash l = (1, S) := by unfold DS.crash; rw [if_pos h1]
    obtain ⟨a, cap, rfl, _, _⟩ := hk
    rw [e1]
    refine (crash_bad1 w p S h a l.length cap h1).mono ?_
    rintro e w' ⟨rfl, rfl⟩
    exact ⟨p, rfl, rfl, h, Moves.refl _ _⟩
  · by_cases h2 : ∀ k ∈ l, 0 ≤ k ∧ k ≤ 2
    · have e1 : S.crash l = (0, { S.keepAll (S.pend.zip l) with pend := [], off := false, pl := false, left := 0 }) := by unfold DS.crash; rw [if_neg h1, if_neg (by simpa using h2)]; rfl
      rw [e1]
      obtain ⟨a, cap, rfl, hmx, hl0⟩ := hk
      by_cases hl : l = []
      · subst hl
        refine (crash_ok0 w p S h a cap).mono ?_
        rintro e w' ⟨rfl, hr, f⟩
        refine ⟨{ p with pv := .slice none 0 0 }, rfl, rfl, ?_, mv w' f⟩
        simpa [DS.keepAll] using hr
      · obtain ⟨g, off, rfl, hg⟩ := hl0.resolve_left hl
        have hpos : 0 < l.length := List.length_pos_iff.2 hl
        rcases h.rp with ⟨hpv, hpd⟩ | ⟨gp, capp, hpv, -⟩
        · rw [hpd, List.length_nil] at h1; exact absurd hpos h1
        · refine (crash_ok1 w p S h g off cap l hg (hsep g rfl) hpos (by omega) h2 gp capp hpv).mono ?_
          rintro e w' ⟨rfl, hr, f⟩
          exact ⟨{ p with pv := .slice none 0 0 }, rfl, rfl, hr, mv w' f⟩
    · have e1 : S.crash l = (1, S) := by unfold DS.crash; rw [if_neg h1, if_pos h2]
      rw [e1]
      refine (crash_bad2 w p S h vk l hk (by omega) h2).mono ?_
      rintro e w' ⟨rfl, f⟩
      exact ⟨p, rfl, rfl, h.keep f (fun _ _ h => h), f.mono (fun _ _ h => h.elim), fun k hk => .inl hk⟩

end Go.Proofs.Ytflnlpbcmcfblaa
