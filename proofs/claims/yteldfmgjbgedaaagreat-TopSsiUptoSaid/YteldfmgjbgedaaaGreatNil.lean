/-
  Package ssi: Commit.
  Package ssi: Tracked (with nobody under way or kept).
-/
import Derived.Test.YteldfmgjbgedaaaGreatNd
import Derived.Test.YteldfmgjbgedaaaGreatNbc
import Derived.Test.YteldfmgjbgedaaaGreatMyz
import Derived.Test.YteldfmgjbgedaaaGreatSx
namespace Go.Proofs.YteldfmgjbgedaaaGreat
open Go.RowKit Go.Maps

/-- t has committed, having written l. -/
def MS.commit (S : MS) (t : Nat) (rt : Nat × TR) (v : Value) (l : List Key) : MS :=
  { ({ S with now := if l = [] then S.now else S.now + 1, clock := S.clock + 1 } : MS).setTx t (rt.1, { rt.2 with act := false, e := S.clock + 1, wr := v }) l with G := fun s => if S.G s = some t then none else S.G s }

/-- t leaves (without its locks). -/
def MS.left (S : MS) (t : Nat) : Bool → MS
  | true => { S with T := fun i => if i = t then none else S.T i, N := setN S.N t none }
  | false => S

section
variable {w : World} {cls : Nat → Nat} {P : MP} {q : Nat} {S : MS}

theorem Mgr.held41 (H68 : Sorts68) (h : Mgr w cls P q S) (t : Nat) :
    Calls Tryz.prog 41 #[.pointer (some ⟨P.bl, 0, none⟩), .int .i64 (t : Nat)] w fun e w' => ∃ a c xs, e = .returned (.slice a (List.length xs) c) ∧ Hid (OwnRows w' (.slice a (List.length xs) c) 2 (lkRows xs) w.heap.size) ∧ Hid (∀ s, s ∈ xs ↔ S.G s = some t) ∧ Hid (Fr (fun _ => False) w w') ∧ xs.length < 2 ^ 40 := by
  obtain ⟨n2, g2, h2, hlk⟩ := h.lk
  refine (held_any H68 w P.bl h.rowl hlk (by have := h.qb; omega) t).mono ?_
  rintro e w' ⟨v, xs, rfl, ho, hx, hl, hf⟩
  obtain ⟨a, c, rfl⟩ := ho.len
  rw [lkRows_length] at ho ⊢
  exact ⟨a, c, xs, rfl, Lib.hid ho, Lib.hid hx, Lib.hid hf, by have := h.qb; omega⟩

theorem Mgr.active26 (H53 : Sorts53) (h : Mgr w cls P q S) :
    Calls Tryz.prog 26 #[.pointer (some ⟨P.m, 0, none⟩)] w fun e w' => ∃ a c xs, e = .returned (.slice a (List.length xs) c) ∧ Hid (∀ i, i ∈ xs ↔ ∃ p, S.T i = some p ∧ p.2.act = true) ∧ Hid (Fr (fun _ => False) w w') ∧ xs.length < 2 ^ 40 := by
  refine (h.active (HS := H53)).mono ?_
  rintro e w' ⟨v, xs, rfl, ho, hx, hl, hf⟩
  obtain ⟨a, c, rfl⟩ := ho.len
  rw [natRows_length] at ho ⊢
  exact ⟨a, c, xs, rfl, Lib.hid hx, Lib.hid hf, by have := h.qb; omega⟩

theorem Mgr.of42' (H72 : Sorts72) (h : Mgr w cls P q S) (t : Nat) :
    Calls Tryz.prog 42 #[.pointer (some ⟨P.br, 0, none⟩), .int .i64 (t : Nat)] w fun e w' => ∃ a c, e = .returned (.slice a (lenO (S.N t)) c) ∧ Hid (Fr (fun _ => False) w w') := by
  obtain ⟨n3, g3, h3, hnt⟩ := h.nt
  refine (of42 H72 w P.br h.rowr hnt h.mb.1 t).mono ?_
  rintro e w' ⟨a, c, rfl, hf⟩
  exact ⟨a, c, rfl, Lib.hid hf⟩

/-- What a commit leaves. -/
def CommitRes (w : World) (cls : Nat → Nat) (P : MP) (q : Nat) (S : MS) (t : Nat) (rt : Nat × TR) (l : List Key) (w' : World) : Prop :=
  ∃ v cls' dr F, ¬ (rt.2.fi = true ∧ rt.2.fo = true) ∧ (∀ s, s ∈ l ↔ S.G s = some t) ∧ (dr = true → (∀ o p, o ≠ t → S.T o = some p → p.2.act = false) ∨ (l = [] ∧ lenO (S.N t) = 0)) ∧
    (∀ k, k < w.heap.size → cls' k = cls k) ∧ Fr (Mine cls P) w w' ∧ Mgr w' cls' P q (((S.commit t rt v l).left t dr).forget F) ∧ ∀ i, F i = true ↔ ((S.commit t rt v l).left t dr).old i

/-- The stores of Commit: the manager's struct, and the transaction's record. -/
theorem Mgr.commitRow {W : World} (h : Mgr w cls P q S) (hf : Fr (fun _ => False) w W) {t : Nat} {rt : Nat × TR} (ht : S.T t = some rt) {v : Value} {l : List Key} {lo : Nat} (ho : OwnRows W v 2 (lkRows l) lo) (hlo : w.heap.size ≤ lo) (now' : Nat)
    (R1 R2 : Array Value) (h1 : R1 = mgRow P.ca P.ck P.cr P.cl now' S.last ((S.clock + 1 : Nat) : Int) P.bm P.bl P.br) (h2 : R2 = ({ rt.2 with act := false, e := S.clock + 1, wr := v } : TR).row) :
    ∃ cls', (∀ k, k < w.heap.size → cls' k = cls k) ∧ Fr (Mine cls P) w ((W.setRow P.m R1).setRow rt.1 R2) ∧ Mgr ((W.setRow P.m R1).setRow rt.1 R2) cls' P q ((({ S with now := now', clock := S.clock + 1 } : MS)).setTx t (rt.1, { rt.2 with act := false, e := S.clock + 1, wr := v }) l) := by
  have hc : ∀ k, k < w.heap.size → (fun k => if v.ownBlock = some k then 6 else cls k) k = cls k := fun k hk => if_neg (fun e => by have := (ho.lt e).1; omega)
  have hW : Mgr W (fun k => if v.ownBlock = some k then 6 else cls k) P q S := h.fr hf (Off.none _ _ _) hc
  have hlm := hW.lm
  have hA := hW.struct (w' := W.setRow P.m R1) (now := now') (last := S.last) (clock := S.clock + 1) (by rw [rowOf_setRow_same _ _ _ hlm, h1]) (by rw [live_setRow]; exact hlm) ((Fr.refl _ W).setRow _ _ (fun _ => rfl))
  obtain ⟨n1, g1, hn1, htx⟩ := hA.tx
  obtain ⟨-, hla, -, -⟩ := htx.at_ t rt ht
  have hct := (h.ct t rt ht)
  have hm1 : Mine cls P P.m := .inl (by rw [h.cm]; omega)
  have hm2 : Mine cls P rt.1 := .inl (by rw [hct.1]; omega)
  refine ⟨_, hc, (((Fr.mono hf (fun _ _ h => h.elim)).setRow _ _ (fun _ => hm1)).setRow _ _ (fun _ => hm2)), hA.setTx ht _ l (by rw [rowOf_setRow_same _ _ _ hla]; exact h2) (by rw [live_setRow]; exact hla) hct.2.1 ⟨?_, fun k hk => if_pos hk⟩ ((Fr.refl _ _).setRow _ _ (fun _ => rfl)) (fun _ _ => rfl)⟩
  have hne : ∀ k, v.ownBlock = some k → k ≠ P.m ∧ k ≠ rt.1 := fun k hk => by
    have := (ho.lt hk).1
    obtain ⟨m1, -⟩ := h.lts
    have m2 : rt.1 < w.heap.size := by
      obtain ⟨n2, g2, hn2, htx2⟩ := h.tx
      exact live_lt (htx2.at_ t rt ht).2.1
    exact ⟨by omega, by omega⟩
  have h3 := (ho.keep (F := fun k => k = P.m ∨ k = rt.1) (((Fr.refl _ W).setRow P.m R1 (fun _ => .inl rfl)).setRow rt.1 R2 (fun _ => .inr rfl)) (fun k hk e => e.elim (hne k hk).1 (hne k hk).2))
  rcases h3 with ⟨e1, e2⟩ | ⟨g, cap, e1, -, e2⟩
  · exact .inl ⟨e1, e2⟩
  · exact .inr ⟨g, cap, e1, Nat.zero_le _, e2⟩

end
end Go.Proofs.YteldfmgjbgedaaaGreat

namespace Go.Proofs.YteldfmgjbgedaaaGreat
open Go.RowKit Go.Maps

theorem len28_none {w : World} {m : Nat} {most : Int} {bk n : Nat} {f : Value → Option Value} {G : Key → Option Nat} (h : rowOf w m = lkRow most bk) (hl : LocksAt w bk n f G) (hG : ∀ s, G s = none) :
    Calls Tryz.prog 28 #[.pointer (some ⟨m, 0, none⟩)] w fun e w' => e = .returned (.int .i64 0) ∧ w = w' := by
  have h0 : ∀ v, f v = none := fun v => by
    cases e : f v with
    | none => rfl
    | some x => obtain ⟨s, h, -, hs, -⟩ := hl.all v x e; rw [hG] at hs; cases hs
  obtain ⟨D, ho, F⟩ := hl.map
  have := MapF.size0 law66 h0 ho F
  refine (len28_any w m h ho).mono ?_
  rw [this]
  exact fun e w' h => h

theorem und46 : ∃ fs, Tryz.prog.underlying 46 = some (.struct fs) := by
  have h : (match Tryz.prog.underlying 46 with | some (.struct _) => true | _ => false) = true := by kernel_rfl
  generalize Tryz.prog.underlying 46 = x at h
  match x, h with
  | some (.struct fs), _ => exact ⟨fs, rfl⟩

section
variable {w : World} {cls : Nat → Nat} {P : MP} {q : Nat} {S : MS}
set_option maxRecDepth 20000 in
set_option maxHeartbeats 4000000 in
theorem Mgr.tracked9 (H53 : Sorts53) (h : Mgr w cls P q S) (hT : ∀ i, S.T i = none) (hG : ∀ s, S.G s = none) (hN : ∀ i, S.N i = none) :
    Calls Tryz.prog 9 #[.pointer (some ⟨P.m, 0, none⟩)] w fun e w' => e = .returned (.agg #[.int .i64 0, .int .i64 0, .int .i64 0, .int .i64 0]) ∧ Fr (fun _ => False) w w' := by
  have H1 := h.fr0 ((Fr.refl (fun _ => False) w).alloc (.cells #[.int .i64 0, .int .i64 0, .int .i64 0, .int .i64 0] 46))
  have HN := Lib.hid (none25_any (w.alloc (.cells #[.int .i64 0, .int .i64 0, .int .i64 0, .int .i64 0] 46)) P.m H1.row)
  have HA := Lib.hid (H1.active26 H53)
  have hlm := live_lt H1.lm
  have H := Lib.hid H1
  have hrow := H1.row
  unfold mgRow at hrow
  clear h H1
  have hl0 : live (w.alloc (.cells #[.int .i64 0, .int .i64 0, .int .i64 0, .int .i64 0] 46)) w.heap.size = true := live_alloc_at _ _ _ _ rfl
  go_enter Tryz.func9, Tryz.ntmps9
  go_wp2_with (first
    | (go_at_call 25; refine HN.out.mono ?_; rintro e w' ⟨rfl, rfl⟩)
    | (go_at_call 26; refine HA.out.mono ?_; rintro e w1 ⟨a1, c1, xs, rfl, HX, HF1, hx40⟩; have hrow1 := (HF1.out.row hlm (fun e => e)).trans hrow; have lm1 := (HF1.out.liv hlm (fun e => e)).trans H.out.lm))
  have hxs : xs = [] := by
    cases xs with
    | nil => rfl
    | cons x l => obtain ⟨p, hp, -⟩ := (HX.out x).mp (List.mem_cons_self ..); rw [hT] at hp; cases hp
  subst hxs
  have H2 := H.out.fr0 (HF1.out.drew)
  have hrr := H2.rowr
  have hrl := H2.rowl
  have es : sumN S.N P.B = 0 := sumN_none hN
  rw [es] at hrr
  obtain ⟨n2, g2, h2, hlk⟩ := H2.lk
  obtain ⟨n1, g1, h1, htx⟩ := H2.tx
  have hg1 : ∀ v, g1 v = none := fun v => by
    cases e : g1 v with
    | none => rfl
    | some x => obtain ⟨i, p, -, hp⟩ := htx.all v x e; rw [hT] at hp; cases hp
  have H27 := Lib.hid (len27_any _ P.br hrr)
  have H28 := Lib.hid (len28_none hrl hlk hG)
  obtain ⟨mm, hmm, h0m, hlen⟩ := htx.map.len law2 Tryz.underlying55
  have hm0 : mm = 0 := h0m hg1
  subst hm0
  have l1 := (HF1.out.liv (live_lt hl0) (fun e => e)).trans hl0
  have r1 := (HF1.out.row (live_lt hl0) (fun e => e)).trans (rowOf_alloc_at _ _ _ _ _ rfl)
  have lt1 := live_lt l1
  have hw0 : IntKind.i64.wrap 0 = 0 := by rw [IntKind.wrap_i64]; rfl
  clear H2 hrr hrl hlk htx
  go_region_law (first
    | (go_simp; go_at_call 27; refine H27.out.mono ?_; rintro e w' ⟨rfl, rfl⟩)
    | (go_simp; go_at_call 28; refine H28.out.mono ?_; rintro e w' ⟨rfl, rfl⟩))
  all_goals
    go_wp2
    have hl2 : live ((w1.setRow w.heap.size #[.int .i64 0, .int .i64 0, .int .i64 0, .int .i64 0]).drew) w.heap.size = true := by rw [live_drew, live_setRow]; exact l1
    have hr2 : rowOf ((w1.setRow w.heap.size #[.int .i64 0, .int .i64 0, .int .i64 0, .int .i64 0]).drew) w.heap.size = #[.int .i64 0, .int .i64 0, .int .i64 0, .int .i64 0] := by rw [rowOf_drew, rowOf_setRow_same _ _ _ l1]
    obtain ⟨ty, hob⟩ := live_obj hl2
    obtain ⟨fs, hfs⟩ := und46
    rw [hr2] at hob
    refine bodyPost_ret (results_cell_row (P := Tryz.prog) (d := .struct fs) rfl _ _ w.heap.size ty _ _ rfl hob hfs rfl (by kernel_rfl)) rfl ?_
    exact ⟨rfl, ((((Fr.refl (fun _ => False) w).alloc _).trans HF1.out (fun _ _ h => h)).setRow _ _ (fun h => absurd h (by simp))).drew⟩
end
end Go.Proofs.YteldfmgjbgedaaaGreat
