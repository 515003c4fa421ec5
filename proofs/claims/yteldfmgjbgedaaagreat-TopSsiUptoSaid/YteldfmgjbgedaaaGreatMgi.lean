/-
  Package ssi: the manager in memory.
  Package ssi: forget.
  Package ssi: forget.
-/
import Derived.Test.YteldfmgjbgedaaaGreatMf
namespace Go.Proofs.YteldfmgjbgedaaaGreat
open Go.RowKit Go.Maps

/-- What the manager holds: its clock and numbers; the transactions (block, record), what they wrote, once they have committed; who holds a lock; the notes. -/
structure MS where
  now : Nat
  last : Nat
  clock : Nat
  T : Nat → Option (Nat × TR)
  W : Nat → List Key
  G : Key → Option Nat
  N : Nat → Option (List RdT)

/-- Where it lies. -/
structure MP where
  m : Nat
  bm : Nat
  bl : Nat
  br : Nat
  bk : Nat
  bn : Nat
  B : Nat
  ca : Int
  ck : Int
  cr : Int
  cl : Int
  ml : Int
  mr : Int

/-- The manager in memory. (cls: what a block is for: 1, 2, 3 the three structs, 4 transactions, 5 slices of notes, 6 slices of what was written.) q: a bound. -/
structure Mgr (w : World) (cls : Nat → Nat) (P : MP) (q : Nat) (S : MS) : Prop where
  row : rowOf w P.m = mgRow P.ca P.ck P.cr P.cl S.now S.last S.clock P.bm P.bl P.br
  lm : live w P.m = true
  rowl : rowOf w P.bl = lkRow P.ml P.bk
  ll : live w P.bl = true
  rowr : rowOf w P.br = rdRow P.mr P.bn (sumN S.N P.B : Nat)
  lr : live w P.br = true
  cm : cls P.m = 1
  cl_ : cls P.bl = 2
  cr_ : cls P.br = 3
  tx : ∃ n f, n ≤ q ∧ TxnsAt w P.bm n f S.T
  ct : ∀ i p, S.T i = some p → cls p.1 = 4 ∧ p.2.n = i ∧ 1 ≤ i
  wr : ∀ i p, S.T i = some p → OwnRows w p.2.wr 2 (lkRows (S.W i)) 0 ∧ ∀ k, p.2.wr.ownBlock = some k → cls k = 6
  lk : ∃ n f, n ≤ q ∧ LocksAt w P.bk n f S.G
  nt : ∃ n f, n ≤ q ∧ NotesAt w cls P.bn n P.B f S.N
  nb : P.bm ≠ P.bk ∧ P.bm ≠ P.bn ∧ P.bk ≠ P.bn
  mb : sumN S.N P.B ≤ 65536 ∧ P.mr ≤ 65536
  qb : q < 2 ^ 40
  nok : ∀ t L, S.N t = some L → ∀ y ∈ L, RdOk y

/-- The blocks of the manager are left alone. -/
structure Off (w : World) (cls : Nat → Nat) (P : MP) (F : Nat → Prop) : Prop where
  cl : ∀ k, live w k = true → F k → cls k = 0 ∨ 6 < cls k
  bm : ¬ F P.bm
  bk : ¬ F P.bk
  bn : ¬ F P.bn

theorem Off.none (w : World) (cls : Nat → Nat) (P : MP) : Off w cls P (fun _ => False) := ⟨fun _ _ h => h.elim, fun h => h, fun h => h, fun h => h⟩

theorem Mgr.fr {w w' : World} {cls cls' : Nat → Nat} {P : MP} {q : Nat} {S : MS} (h : Mgr w cls P q S) {F : Nat → Prop} (hf : Fr F w w') (ho : Off w cls P F) (hc : ∀ k, k < w.heap.size → cls' k = cls k) : Mgr w' cls' P q S := by
  have of1 : ∀ k, live w k = true → cls k ≠ 0 → cls k ≤ 6 → ¬ F k := fun k hk h1 h2 hF => by
    rcases ho.cl k hk hF with h | h
    · exact h1 h
    · omega
  have m1 := live_lt h.lm
  have m2 := live_lt h.ll
  have m3 := live_lt h.lr
  have f1 := of1 P.m h.lm (by rw [h.cm]; omega) (by rw [h.cm]; omega)
  have f2 := of1 P.bl h.ll (by rw [h.cl_]; omega) (by rw [h.cl_]; omega)
  have f3 := of1 P.br h.lr (by rw [h.cr_]; omega) (by rw [h.cr_]; omega)
  obtain ⟨n1, g1, h1, htx⟩ := h.tx
  obtain ⟨n2, g2, h2, hlk⟩ := h.lk
  obtain ⟨n3, g3, h3, hnt⟩ := h.nt
  have ft : ∀ i p, S.T i = some p → ¬ F p.1 := fun i p hp => of1 p.1 (htx.at_ i p hp).2.1 (by rw [(h.ct i p hp).1]; omega) (by rw [(h.ct i p hp).1]; omega)
  exact {
    row := by rw [hf.row m1 f1]; exact h.row
    lm := by rw [hf.liv m1 f1]; exact h.lm
    rowl := by rw [hf.row m2 f2]; exact h.rowl
    ll := by rw [hf.liv m2 f2]; exact h.ll
    rowr := by rw [hf.row m3 f3]; exact h.rowr
    lr := by rw [hf.liv m3 f3]; exact h.lr
    cm := (hc _ m1).trans h.cm
    cl_ := (hc _ m2).trans h.cl_
    cr_ := (hc _ m3).trans h.cr_
    tx := ⟨n1, g1, h1, htx.fr hf ho.bm ft⟩
    ct := fun i p hp => ⟨(hc _ (live_lt (htx.at_ i p hp).2.1)).trans (h.ct i p hp).1, (h.ct i p hp).2⟩
    wr := fun i p hp => by
      obtain ⟨a1, a2⟩ := h.wr i p hp
      exact ⟨a1.keep hf (fun k hk => of1 k (a1.liv hk) (by rw [a2 k hk]; omega) (by rw [a2 k hk]; omega)), fun k hk => (hc k (a1.lt hk).2).trans (a2 k hk)⟩
    lk := ⟨n2, g2, h2, hlk.fr hf ho.bk⟩
    nt := ⟨n3, g3, h3, hnt.fr hf ho.bn (fun k hk h5 => ⟨of1 k hk (by omega) (by omega), (hc k (live_lt hk)).trans h5⟩)⟩
    nb := h.nb
    mb := h.mb
    qb := h.qb
    nok := h.nok }

theorem Mgr.fr0 {w w' : World} {cls : Nat → Nat} {P : MP} {q : Nat} {S : MS} (h : Mgr w cls P q S) (hf : Fr (fun _ => False) w w') : Mgr w' cls P q S := h.fr hf (Off.none _ _ _) (fun _ _ => rfl)
theorem Mgr.mono {w : World} {cls : Nat → Nat} {P : MP} {q q' : Nat} {S : MS} (h : Mgr w cls P q S) (hq : q ≤ q') (hb : q' < 2 ^ 40) : Mgr w cls P q' S := by
  obtain ⟨n1, g1, h1, htx⟩ := h.tx
  obtain ⟨n2, g2, h2, hlk⟩ := h.lk
  obtain ⟨n3, g3, h3, hnt⟩ := h.nt
  exact { h with tx := ⟨n1, g1, by omega, htx⟩, lk := ⟨n2, g2, by omega, hlk⟩, nt := ⟨n3, g3, by omega, hnt⟩, qb := hb }

theorem MapF.unique {w : World} {k : TypeId} {b n n' : Nat} {f f' : Value → Option Value} (h : MapF w k b n f) (h' : MapF w k b n' f') : f = f' := by
  obtain ⟨D, ⟨es, clock, hb, _, _, hD⟩, F⟩ := h
  obtain ⟨D', ⟨es', clock', hb', _, _, hD'⟩, F'⟩ := h'
  rw [hb] at hb'
  injection hb' with hb'
  injection hb' with h1 h2
  subst h1
  have hDD : D = D' := by rw [hD, hD']
  subst hDD
  funext v
  cases hk : keyOf Tryz.prog k v with
  | none => rw [F.off v hk, F'.off v hk]
  | some kl => exact encO_inj ((F.at_ v kl hk).symm.trans (F'.at_ v kl hk))

theorem Mgr.active {HS : Sorts53} {w : World} {cls : Nat → Nat} {P : MP} {q : Nat} {S : MS} (h : Mgr w cls P q S) :
    Calls Tryz.prog 26 #[.pointer (some ⟨P.m, 0, none⟩)] w fun e w' => ∃ v xs, e = .returned v ∧ OwnRows w' v 1 (natRows xs) w.heap.size ∧ (∀ i, i ∈ xs ↔ ∃ p, S.T i = some p ∧ p.2.act = true) ∧ xs.length ≤ q ∧ Fr (fun _ => False) w w' := by
  obtain ⟨n1, g1, h1, htx⟩ := h.tx
  refine (active_any HS w P.m h.row htx (by have := h.qb; omega)).mono ?_
  rintro e w' ⟨v, xs, h2, h3, h4, h5, h6⟩
  exact ⟨v, xs, h2, h3, h4, by omega, h6⟩

theorem Mgr.txOf {w : World} {cls : Nat → Nat} {P : MP} {q : Nat} {S : MS} (h : Mgr w cls P q S) {n : Nat} {f : Value → Option Value} (hm : MapF w 2 P.bm n f) : TxnsAt w P.bm n f S.T := by
  obtain ⟨n1, g1, h1, htx⟩ := h.tx
  obtain rfl := hm.unique htx.map
  exact ⟨hm, htx.at_, htx.all, htx.inj⟩
theorem RangeF.dead {w : World} {k : TypeId} {b r n : Nat} {f : Value → Option Value} {left : Value → Prop} {cnt : Nat} (h : RangeF w k b r n f left cnt) : live w r = false := by
  obtain ⟨D, lf, ⟨es, clock, since, seen, c0, h1, h2, h3, h4, h5, h6⟩, F, hl⟩ := h
  unfold live; rw [h5]
theorem RangeF.ne_map {w : World} {k k' : TypeId} {b b' n' r n : Nat} {f f' : Value → Option Value} {left : Value → Prop} {cnt : Nat} (h : RangeF w k b r n f left cnt) (hm : MapF w k' b' n' f') : b' ≠ r := by
  obtain ⟨D, lf, ⟨es, clock, since, seen, c0, h1, h2, h3, h4, h5, h6⟩, F, hl⟩ := h
  obtain ⟨D', ⟨es', clock', hb, _⟩, _⟩ := hm
  rintro rfl
  rw [h5] at hb; cases hb
theorem Mgr.offIter {w : World} {cls : Nat → Nat} {P : MP} {q : Nat} {S : MS} (h : Mgr w cls P q S) {k : TypeId} {b r n : Nat} {f : Value → Option Value} {left : Value → Prop} {cnt : Nat} (hr : RangeF w k b r n f left cnt) : Off w cls P (fun k => k = r) := by
  obtain ⟨n1, g1, h1, htx⟩ := h.tx
  obtain ⟨n2, g2, h2, hlk⟩ := h.lk
  obtain ⟨n3, g3, h3, hnt⟩ := h.nt
  refine ⟨fun k hk e => ?_, hr.ne_map htx.map, hr.ne_map hlk.map, hr.ne_map hnt.map⟩
  rw [e, hr.dead] at hk; cases hk

/-- One leaves. -/
def MS.drop (S : MS) (t : Nat) : MS := { S with T := fun i => if i = t then none else S.T i, N := setN S.N t none, G := fun s => if S.G s = some t then none else S.G s }
/-- Those in F leave. -/
def MS.forget (S : MS) (F : Nat → Bool) : MS := { S with T := fun i => if F i = true then none else S.T i, N := fun i => if F i = true then none else S.N i }
/-- Whom forget lets go. -/
def MS.old (S : MS) (i : Nat) : Prop := ∃ p, S.T i = some p ∧ p.2.act = false ∧ ∀ a r, S.T a = some r → r.2.act = true → ¬ (r.2.b < p.2.e)

end Go.Proofs.YteldfmgjbgedaaaGreat

namespace Go.Proofs.YteldfmgjbgedaaaGreat
open Go.RowKit Go.Maps

theorem sumN_drop (N : Nat → Option (List RdT)) (t B : Nat) : sumN (setN N t none) B ≤ sumN N B := by
  by_cases h : t < B
  · have := sumN_set N t none h
    simp only [lenO] at this; omega
  · have : sumN (setN N t none) B = sumN N B := sumN_congr (fun i hi => by unfold setN; rw [if_neg (by omega)])
    omega

section
variable {w : World} {cls : Nat → Nat} {P : MP} {q : Nat} {S : MS}

theorem Mgr.distinct (h : Mgr w cls P q S) : P.m ≠ P.bl ∧ P.m ≠ P.br ∧ P.bl ≠ P.br := by
  have h1 := h.cm; have h2 := h.cl_; have h3 := h.cr_
  refine ⟨fun e => ?_, fun e => ?_, fun e => ?_⟩
  · rw [e, h2] at h1; omega
  · rw [e, h3] at h1; omega
  · rw [e, h3] at h2; omega
theorem Mgr.maps (h : Mgr w cls P q S) {g : Nat} (hg : live w g = true) : g ≠ P.bm ∧ g ≠ P.bk ∧ g ≠ P.bn := by
  obtain ⟨n1, g1, h1, htx⟩ := h.tx
  obtain ⟨n2, g2, h2, hlk⟩ := h.lk
  obtain ⟨n3, g3, h3, hnt⟩ := h.nt
  exact ⟨htx.map.ne_live hg, hlk.map.ne_live hg, hnt.map.ne_live hg⟩
theorem Mgr.lts (h : Mgr w cls P q S) : P.m < w.heap.size ∧ P.bl < w.heap.size ∧ P.br < w.heap.size ∧ P.bm < w.heap.size ∧ P.bk < w.heap.size ∧ P.bn < w.heap.size := by
  obtain ⟨n1, g1, h1, htx⟩ := h.tx
  obtain ⟨n2, g2, h2, hlk⟩ := h.lk
  obtain ⟨n3, g3, h3, hnt⟩ := h.nt
  exact ⟨live_lt h.lm, live_lt h.ll, live_lt h.lr, htx.map.lt, hlk.map.lt, hnt.map.lt⟩

/-- The notes were turned (the struct's number of them too). -/
theorem Mgr.notes {w' : World} {cls' : Nat → Nat} (h : Mgr w cls P q S) {P' : MP} {N' : Nat → Option (List RdT)} {q' : Nat} (hq : q ≤ q') (hqb : q' < 2 ^ 40) (eP : P' = { P with bn := P'.bn }) (hr : rowOf w' P.br = rdRow P.mr P'.bn (sumN N' P.B : Nat)) (hl : live w' P.br = true)
    (hn : ∃ n f, n ≤ q' ∧ NotesAt w' cls' P'.bn n P.B f N') (hne : P.bm ≠ P'.bn ∧ P.bk ≠ P'.bn) (hs : sumN N' P.B ≤ 65536) (hok : ∀ t L, N' t = some L → ∀ y ∈ L, RdOk y) {F : Nat → Prop} (hf : Fr F w w')
    (hF : ∀ k, k < w.heap.size → F k → k = P.br ∨ k = P.bn) (hc : ∀ k, k < w.heap.size → cls' k = cls k) : Mgr w' cls' P' q' { S with N := N' } := by
  obtain ⟨d1, d2, d3⟩ := h.distinct
  obtain ⟨m1, m2, m3, m4, m5, m6⟩ := h.lts
  obtain ⟨n1, g1, h1, htx⟩ := h.tx
  obtain ⟨n2, g2, h2, hlk⟩ := h.lk
  have of1 : ∀ k, live w k = true → k ≠ P.br → ¬ F k := fun k hk h1 hF' => (hF k (live_lt hk) hF').elim h1 (h.maps hk).2.2
  have f1 := of1 _ h.lm d2
  have f2 := of1 _ h.ll d3
  have ft : ∀ i p, S.T i = some p → ¬ F p.1 := fun i p hp => of1 p.1 (htx.at_ i p hp).2.1 (fun e => by have := (h.ct i p hp).1; rw [e, h.cr_] at this; omega)
  have fm : ¬ F P.bm := fun hF' => (hF _ m4 hF').elim (fun e => (h.maps h.lr).1 e.symm) h.nb.2.1
  have fk : ¬ F P.bk := fun hF' => (hF _ m5 hF').elim (fun e => (h.maps h.lr).2.1 e.symm) h.nb.2.2
  rw [eP]
  exact {
    row := by rw [hf.row m1 f1]; exact h.row
    lm := by rw [hf.liv m1 f1]; exact h.lm
    rowl := by rw [hf.row m2 f2]; exact h.rowl
    ll := by rw [hf.liv m2 f2]; exact h.ll
    rowr := hr
    lr := hl
    cm := (hc _ m1).trans h.cm
    cl_ := (hc _ m2).trans h.cl_
    cr_ := (hc _ m3).trans h.cr_
    tx := ⟨n1, g1, by omega, htx.fr hf fm ft⟩
    ct := fun i p hp => ⟨(hc _ (live_lt (htx.at_ i p hp).2.1)).trans (h.ct i p hp).1, (h.ct i p hp).2⟩
    wr := fun i p hp => by
      obtain ⟨a1, a2⟩ := h.wr i p hp
      refine ⟨a1.keep hf (fun k hk hF' => ?_), fun k hk => (hc k (a1.lt hk).2).trans (a2 k hk)⟩
      rcases hF k (a1.lt hk).2 hF' with e | e
      · have := a2 k hk; rw [e, h.cr_] at this; omega
      · obtain ⟨n3, g3, h3, hnt⟩ := h.nt
        exact a1.ne_map hnt.map (by rw [hk, e])
    lk := ⟨n2, g2, by omega, hlk.fr hf fk⟩
    nt := hn
    nb := ⟨h.nb.1, hne.1, hne.2⟩
    mb := ⟨hs, h.mb.2⟩
    qb := hqb
    nok := hok }

theorem Mgr.dropN (h : Mgr w cls P q S) {t : Nat} (ht : 1 ≤ t) :
    Calls Tryz.prog 44 #[.pointer (some ⟨P.br, 0, none⟩), .int .i64 (t : Nat)] w fun e w' => e = .returned (.int .i64 0) ∧ Mgr w' cls P q { S with N := setN S.N t none } ∧ Fr (fun k => k = P.br ∨ k = P.bn) w w' := by
  obtain ⟨n3, g3, h3, hnt⟩ := h.nt
  refine (drop44_any w P.br t h.rowr h.lr (by rw [h.cr_]; omega) hnt h.mb.1 ht).mono ?_
  rintro e w' ⟨rfl, ⟨f', h4⟩, h5, h6, h7⟩
  refine ⟨rfl, h.notes (Nat.le_refl _) h.qb rfl h5 h6 ⟨n3, f', h3, h4⟩ h.nb.2 (Nat.le_trans (sumN_drop _ _ _) h.mb.1) (fun u L hu => h.nok u L (by unfold setN at hu; by_cases e : u = t; (rw [if_pos e] at hu; cases hu); (rw [if_neg e] at hu; exact hu))) h7 (fun k _ hk => hk) (fun _ _ => rfl), h7⟩

/-- A transaction was taken out of the map. -/
theorem Mgr.delT {w' : World} (h : Mgr w cls P q S) {t : Nat} {f : Value → Option Value} {n n0 : Nat} (ht0 : TxnsAt w P.bm n0 f S.T) (hn : n ≤ q) (hm : MapF w' 2 P.bm n (updF f (.int .i64 (t : Nat)) none)) (hf : Fr (fun k => k = P.bm) w w') : Mgr w' cls P q { S with T := fun i => if i = t then none else S.T i } ∧ TxnsAt w' P.bm n (updF f (.int .i64 (t : Nat)) none) (fun i => if i = t then none else S.T i) := by
  obtain ⟨m1, m2, m3, m4, m5, m6⟩ := h.lts
  obtain ⟨n2, g2, h2, hlk⟩ := h.lk
  obtain ⟨n3, g3, h3, hnt⟩ := h.nt
  have of1 : ∀ k, live w k = true → ¬ k = P.bm := fun k hk => (h.maps hk).1
  have hT : TxnsAt w' P.bm n (updF f (.int .i64 (t : Nat)) none) (fun i => if i = t then none else S.T i) := by
    refine ⟨hm, fun i p hp => ?_, fun v x hv => ?_, fun i j p p' hp hp' => ?_⟩
    · have hne : i ≠ t := fun e => by simp only [e, if_true] at hp; cases hp
      simp only [if_neg hne] at hp
      obtain ⟨a1, a2, a3, a4⟩ := ht0.at_ i p hp
      exact ⟨by rw [updF_ne f _ (fun e => hne (by injection e with _ e; omega))]; exact a1, by rw [hf.liv (live_lt a2) (of1 _ a2)]; exact a2, by rw [hf.row (live_lt a2) (of1 _ a2)]; exact a3, a4⟩
    · by_cases e : v = .int .i64 (t : Nat)
      · rw [e, updF_same] at hv; cases hv
      · rw [updF_ne f _ e] at hv
        obtain ⟨i, p, h1, h2⟩ := ht0.all v x hv
        exact ⟨i, p, h1, by show (if i = t then none else S.T i) = some p; rw [if_neg (fun hh => e (by rw [h1, hh]))]; exact h2⟩
    · have hne : i ≠ t := fun e => by simp only [e, if_true] at hp; cases hp
      have hne' : j ≠ t := fun e => by simp only [e, if_true] at hp'; cases hp'
      simp only [if_neg hne] at hp
      simp only [if_neg hne'] at hp'
      exact ht0.inj i j p p' hp hp'
  refine ⟨?_, hT⟩
  exact {
    row := by rw [hf.row m1 (of1 _ h.lm)]; exact h.row
    lm := by rw [hf.liv m1 (of1 _ h.lm)]; exact h.lm
    rowl := by rw [hf.row m2 (of1 _ h.ll)]; exact h.rowl
    ll := by rw [hf.liv m2 (of1 _ h.ll)]; exact h.ll
    rowr := by rw [hf.row m3 (of1 _ h.lr)]; exact h.rowr
    lr := by rw [hf.liv m3 (of1 _ h.lr)]; exact h.lr
    cm := h.cm
    cl_ := h.cl_
    cr_ := h.cr_
    tx := ⟨n, _, hn, hT⟩
    ct := fun i p hp => by
      have hne : i ≠ t := fun e => by simp only [e, if_true] at hp; cases hp
      simp only [if_neg hne] at hp
      exact h.ct i p hp
    wr := fun i p hp => by
      have hne : i ≠ t := fun e => by simp only [e, if_true] at hp; cases hp
      simp only [if_neg hne] at hp
      obtain ⟨a1, a2⟩ := h.wr i p hp
      exact ⟨a1.keep hf (fun k hk e => a1.ne_map ht0.map (by rw [hk, e])), a2⟩
    lk := ⟨n2, g2, h2, hlk.fr hf h.nb.1.symm⟩
    nt := ⟨n3, g3, h3, hnt.fr hf h.nb.2.1.symm (fun k hk h5 => ⟨of1 k hk, h5⟩)⟩
    nb := h.nb
    mb := h.mb
    qb := h.qb
    nok := h.nok }
end

end Go.Proofs.YteldfmgjbgedaaaGreat

namespace Go.Proofs.YteldfmgjbgedaaaGreat
open Go.RowKit Go.Maps

theorem MS.forget_T {S : MS} {F : Nat → Bool} {i : Nat} {p : Nat × TR} (h : (S.forget F).T i = some p) : S.T i = some p ∧ F i = false := by
  unfold MS.forget at h
  simp only at h
  cases hF : F i with
  | true => rw [hF, if_pos rfl] at h; cases h
  | false => rw [hF, if_neg (by simp)] at h; exact ⟨h, rfl⟩
theorem MS.forget_T' {S : MS} {F : Nat → Bool} {i : Nat} {p : Nat × TR} (h : S.T i = some p) (hF : F i = false) : (S.forget F).T i = some p := by
  unfold MS.forget
  simp only [hF]; exact h
theorem MS.forget_none (S : MS) : S.forget (fun _ => false) = S := by
  unfold MS.forget; simp
theorem MS.forget_one (S : MS) (F : Nat → Bool) (t : Nat) : { S.forget F with N := setN (S.forget F).N t none, T := fun i => if i = t then none else (S.forget F).T i } = S.forget (fun i => F i || i == t) := by
  unfold MS.forget setN
  simp only [MS.mk.injEq, true_and]
  refine ⟨funext fun i => ?_, funext fun i => ?_⟩ <;>
  · by_cases h : i = t
    · simp [h]
    · rcases Bool.eq_false_or_eq_true (F i) with hF | hF <;> simp [h, hF]

/-- Whether a transaction under way is concurrent with p. -/
def concB (S : MS) (p : Nat × TR) (a : Nat) : Bool := match S.T a with | some r => decide (r.2.b < p.2.e) | none => false

set_option maxRecDepth 20000 in
set_option maxHeartbeats 4000000 in
theorem Mgr.forget (HS : Sorts53) {w : World} {cls : Nat → Nat} {P : MP} {q : Nat} {S : MS} (h : Mgr w cls P q S) :
    Calls Tryz.prog 45 #[.pointer (some ⟨P.m, 0, none⟩)] w fun e w' => e = .returned (.tuple #[]) ∧ ∃ F, Mgr w' cls P q (S.forget F) ∧ (∀ i, F i = true ↔ S.old i) ∧ Fr (fun k => k = P.bm ∨ k = P.br ∨ k = P.bn) w w' := by
  have H := Lib.hid h
  have hqb := h.qb
  obtain ⟨n1, g1, hn1, htx⟩ := h.tx
  have hown := htx.map
  have hrow := h.row
  unfold mgRow at hrow
  clear h
  go_enter Tryz.func45, Tryz.ntmps45
  go_wp2_with (at_range; refine wpList_rangeF _ rfl _ 55 rfl law2 Tryz.underlying55 hown rfl ?_; intro w0 cnt0 hrg0 hcn0 hf0 hs0)
  go_frame
  go_loopw [] (fun wr => ∃ (left : Value → Prop) (cnt : Nat) (F : Nat → Bool) (f : Value → Option Value), RangeF wr 2 P.bm w.heap.size n1 f left cnt ∧ Mgr wr cls P q (S.forget F) ∧ (∀ i, F i = true → S.old i) ∧ (∀ i, S.old i → F i = true ∨ left (.int .i64 (i : Nat))) ∧ (∀ v, left v → (f v).isSome = true) ∧ Fr (fun k => k = P.bm ∨ k = P.br ∨ k = P.bn) w wr) (fun wr => wr.rangeLeft P.bm w.heap.size)
  case atStart =>
    refine ⟨_, cnt0, fun _ => false, _, hrg0, by rw [MS.forget_none]; exact H.out.fr0 hf0, fun i h => (by cases h), fun i hi => .inr ?_, fun _ h => h, hf0.mono (fun _ _ h => h.elim)⟩
    obtain ⟨p, hp, _⟩ := hi
    show (g1 _).isSome = true
    rw [(htx.at_ i p hp).1]; rfl
  case round =>
    obtain ⟨left, cnt, F, f, hrg, hM, hF1, hF2, hle, hf⟩ := hrel
    have HF := Lib.hid hf
    have HRG := Lib.hid hrg
    have HM := Lib.hid hM
    have HF1 := Lib.hid hF1
    have HF2 := Lib.hid hF2
    have HLE := Lib.hid hle
    have htx' := hM.txOf hrg.map
    have HTX := Lib.hid htx'
    clear hf hM hF1 hF2 hle htx' htx hown hrow
    go_wp2_with (at_next; refine wpList_nextF _ rfl _ rfl law2 w.heap.size rfl hrg ?_ ?_)
    · intro hc0 hl0
      clear hrg
      go_wp2
      go_end0
      exact ⟨rfl, F, HM.out, fun i => ⟨HF1.out i, fun h => (HF2.out i h).resolve_right (hl0 _)⟩, HF.out⟩
    · intro key x kl w1 cnt1 hkey hlk hfx hrg1 hlt hf1 hs1 hen
      obtain ⟨i, p, rfl, hp, rfl, hpl, hpr, hi⟩ := HTX.out.ptr hfx
      have hne0 : p.1 ≠ w.heap.size := fun e => by have := hrg.dead; rw [← e, hpl] at this; cases this
      have l1 : live w1 p.1 = true := by rw [hf1.liv (live_lt hpl) hne0]; exact hpl
      have r1 : rowOf w1 p.1 = txRow p.2.n p.2.snap p.2.act p.2.b p.2.e p.2.fi p.2.fo p.2.wr := by rw [hf1.row (live_lt hpl) hne0]; exact hpr
      have hM1 := HM.out.fr hf1 (HM.out.offIter hrg) (fun _ _ => rfl)
      have HM1 := Lib.hid hM1
      have HACT := Lib.hid (hM1.active (HS := HS))
      have HRG1 := Lib.hid hrg1
      have HP := Lib.hid hp
      have HF1' := Lib.hid hf1
      have HK := Lib.hid hkey
      have HLK := Lib.hid hlk
      have HS1 := Lib.hid hs1
      have HL1 := Lib.hid l1
      have HR1 := Lib.hid r1
      have hrm1 := hM1.row
      unfold txRow at r1
      unfold mgRow at hrm1
      clear hs1 hrg hrg1 hp hf1 hkey hlk hpr hpl hfx hM1
      cases hact : p.2.act with
      | true =>
        rw [hact] at r1
        go_wp2
        go_roundw
        case rel =>
          refine ⟨_, cnt1, F, f, HRG1.out, HM1.out, HF1.out, fun j hj => ?_, fun v hv => HLE.out v hv.1, HF.out.trans HF1'.out (fun k hk h => ?_)⟩
          · rcases HF2.out j hj with h | h
            · exact .inl h
            · refine .inr ⟨h, fun e => ?_⟩
              obtain rfl : j = i := by injection e with _ e; omega
              obtain ⟨p', h1, h2, _⟩ := hj
              rw [(MS.forget_T HP.out).1] at h1; cases h1
              rw [hact] at h2; cases h2
          · omega
        case measure => rw [HRG1.out.left_eq, HRG.out.left_eq]; exact hlt
      | false =>
        rw [hact] at r1
        go_wp2_with (go_at_call 26; refine HACT.out.mono ?_; rintro e w2 ⟨v, xs, rfl, hov, hxs, hxq, hf2⟩; obtain ⟨a, c, rfl⟩ := hov.len; rw [natRows_length] at hov ⊢; have HOV := Lib.hid hov; have HXS := Lib.hid hxs; have HF3 := Lib.hid hf2; clear hov hxs hf2)
        go_loopw [4, 24] (fun t4 t24 wr => ∃ (k : Nat) (kb : Bool), t24 = .int .i64 (k : Nat) ∧ k ≤ xs.length ∧ t4 = .bool kb ∧ kb = (xs.take k).any (concB S p) ∧ Fr (fun _ => False) w2 wr) (fun _ t24 _ => xs.length - (intOf t24).toNat)
        case atStart => exact ⟨0, false, rfl, Nat.zero_le _, rfl, rfl, Fr.refl _ _⟩
        case round =>
          obtain ⟨k, kb, rfl, hk, rfl, hkb, hf4⟩ := hrel
          have HF4 := Lib.hid hf4
          have FW := HF3.out.trans hf4 (fun _ _ h => h)
          have FOUT := Lib.hid ((HF.out.trans HF1'.out (fun k hk h => by omega)).trans FW (fun _ _ h => h.elim))
          have hMr := HM1.out.fr0 FW
          have HMR := Lib.hid hMr
          have hrmr := hMr.row
          have hrgr := HRG1.out.fr FW (fun e => e) (fun e => e)
          have HRGR := Lib.hid hrgr
          have htxr := hMr.txOf hrgr.map
          have HKB := Lib.hid hkb
          unfold mgRow at hrmr
          clear hf4 hkb
          by_cases hlt2 : k < xs.length
          · obtain ⟨g, rfl, hbg, hlg, -, hxc, hsz, hget⟩ := (HOV.out.keep HF4.out (fun _ _ e => e)).get (k := k) (by rw [natRows_length]; exact hlt2)
            have hxk : (natRows xs)[k]'(by rw [natRows_length]; exact hlt2) = #[.int .i64 (xs[k] : Nat)] := by simp [natRows]
            have c0 : (rowOf wr g)[k]? = some (.int .i64 (xs[k] : Nat)) := by have := hget 0 (by omega); rw [hxk] at this; simpa using this
            have hmem := List.getElem_mem hlt2
            have htk := Lib.hid (List.take_succ_eq_append_getElem hlt2)
            generalize hq : xs[k] = ai at c0 hmem htk
            obtain ⟨r, hr, hract⟩ := (HXS.out ai).1 hmem
            obtain ⟨hfa, hla, hra, ha40⟩ := htxr.at_ ai r hr
            obtain ⟨-, hlp, hrp, -⟩ := htxr.at_ i p HP.out
            have hlook := hrgr.map.look1 law2 Tryz.underlying55 (Tryz.zeroValue92 _) (.int .i64 (ai : Nat)) (key2 (wf_nat ha40))
            rw [hfa] at hlook
            simp only [Option.getD_some] at hlook
            have hbne : p.1 ≠ r.1 := fun e => by
              have := htxr.inj i ai p r HP.out hr e
              subst this
              rw [HP.out] at hr; cases hr
              rw [hact] at hract; cases hract
            have HCC := Lib.hid (concurrent_any wr r.1 p.1 hra hrp hla hlp)
            have hcb : concB S p ai = (!decide (p.1 = r.1) && (p.2.act || decide ((r.2.b : Int) < (p.2.e : Int)))) := by
              unfold concB
              rw [(MS.forget_T hr).1, hact, decide_eq_false hbne]
              simp
            rw [← hcb] at HCC
            have hki : (k : Int) < (xs.length : Int) := by omega
            have hkk : kb = true ∨ kb = false := by cases kb <;> simp
            have HAI := Lib.hid hr
            have HLT := Lib.hid hlt2
            clear hget hxk hfa hmem htxr hra hrp hla hlp hr hract hrgr hMr r1 l1
            rcases hkk with rfl | rfl
            · go_wp2
              go_roundw
              case rel =>
                refine ⟨k + 1, true, by go_num, by have := HLT.out; omega, rfl, ?_, HF4.out⟩
                rw [htk.out, List.any_append, ← HKB.out]; rfl
              case measure => (have := HLT.out; simp only [intOf]; omega)
            · have hcbb : concB S p ai = true ∨ concB S p ai = false := by cases concB S p ai <;> simp
              rcases hcbb with hcv | hcv <;> rw [hcv] at HCC <;>
              · go_wp2_with (go_at_call 59; refine HCC.out.mono ?_; rintro e w3 ⟨rfl, hf5⟩)
                go_roundw
                case rel =>
                  refine ⟨k + 1, _, by go_num, by have := HLT.out; omega, rfl, ?_, HF4.out.trans hf5 (fun _ _ h => h)⟩
                  rw [htk.out, List.any_append, ← HKB.out]
                  simp only [List.any_cons, List.any_nil, hcv, Bool.or_false, Bool.false_or]
                case measure => (have := HLT.out; simp only [intOf]; omega)
          · obtain rfl : k = xs.length := by omega
            rw [List.take_of_length_le (Nat.le_refl _)] at HKB
            have hkk : kb = true ∨ kb = false := by cases kb <;> simp
            have HDN := Lib.hid (hMr.dropN (t := i) ((hMr.ct i p HP.out).2.2))
            have nbn : P.bn ≠ w.heap.size := by obtain ⟨n3, g3, h3, hnt⟩ := hMr.nt; exact hrgr.ne_map hnt.map
            clear htxr hrgr hMr r1 l1
            rcases hkk with rfl | rfl
            · go_wp2
              go_roundw
              case rel =>
                refine ⟨_, cnt1, F, f, HRGR.out, HMR.out, HF1.out, fun j hj => ?_, fun v hv => HLE.out v hv.1, ?_⟩
                · rcases HF2.out j hj with h | h
                  · exact .inl h
                  · refine .inr ⟨h, fun e => ?_⟩
                    obtain rfl : j = i := by injection e with _ e; omega
                    obtain ⟨p', h1, h2, h3⟩ := hj
                    rw [(MS.forget_T HP.out).1] at h1; cases h1
                    obtain ⟨a', ha', hca⟩ := List.any_eq_true.1 HKB.out.symm
                    obtain ⟨r', hr', hra'⟩ := (HXS.out a').1 ha'
                    unfold concB at hca
                    rw [(MS.forget_T hr').1] at hca
                    exact h3 a' r' (MS.forget_T hr').1 hra' (by simpa using hca)
                · exact FOUT.out
              case measure => rw [HRGR.out.left_eq, HRG.out.left_eq]; exact hlt
            · go_wp2_with (first
                | (go_at_call 44; refine HDN.out.mono ?_; rintro e w3 ⟨rfl, hM3, hf5⟩; have HM3 := Lib.hid hM3; have HF5 := Lib.hid hf5; have hrm3 := hM3.row; unfold mgRow at hrm3; have hrg3 := HRGR.out.fr hf5 (fun e => e.elim (HMR.out.maps HMR.out.lr).1.symm HMR.out.nb.2.1) (fun e => e.elim (fun e => by have h1 := HRGR.out.dead; rw [e, HMR.out.lr] at h1; cases h1) (fun e => nbn e.symm)); have HRG3 := Lib.hid hrg3; clear hM3 hf5 hrg3)
                | (at_delete; refine wpList_dropRF _ rfl _ _ 55 2 rfl law2 Tryz.underlying55 HRG3.out rfl (.int .i64 (i : Nat)) rfl HK.out ?_; intro w4 cnt4 hrg4 hle4 hf4))
              go_frame
              have htx3 := HM3.out.txOf HRG3.out.map
              have hM4 := (HM3.out.delT htx3 hn1 hrg4.map hf4).1
              rw [MS.forget_one] at hM4
              have hFa : ∀ a r, S.T a = some r → r.2.act = true → F a = false := fun a r ha hra => by
                cases hFa : F a with
                | false => rfl
                | true =>
                  obtain ⟨p', h1, h2, _⟩ := HF1.out a hFa
                  rw [ha] at h1; cases h1
                  rw [hra] at h2; cases h2
              go_roundw
              case rel =>
                refine ⟨_, cnt4, _, _, hrg4, hM4, fun j hj => ?_, fun j hj => ?_, fun v hv => ?_, (FOUT.out.trans HF5.out (fun _ _ h => .inr h)).trans hf4 (fun _ _ h => .inl h)⟩
                · by_cases e : j = i
                  · subst e
                    refine ⟨p, (MS.forget_T HP.out).1, hact, fun a r ha hra hlt3 => ?_⟩
                    have hm : a ∈ xs := (HXS.out a).2 ⟨r, MS.forget_T' ha (hFa a r ha hra), hra⟩
                    have : xs.any (concB S p) = true := List.any_eq_true.2 ⟨a, hm, by unfold concB; rw [ha]; simpa using hlt3⟩
                    rw [← HKB.out] at this; cases this
                  · refine HF1.out j ?_
                    simpa [e] using hj
                · by_cases e : j = i
                  · exact .inl (by simp [e])
                  · rcases HF2.out j hj with h | h
                    · exact .inl (by simp [h])
                    · have : (.int .i64 (j : Nat) : Value) ≠ .int .i64 (i : Nat) := fun hh => e (by injection hh with _ hh; omega)
                      exact .inr ⟨⟨h, this⟩, this⟩
                · rw [updF_ne f _ hv.2]; exact HLE.out v hv.1.1
              case measure => rw [hrg4.left_eq, HRG.out.left_eq]; omega
end Go.Proofs.YteldfmgjbgedaaaGreat
